/- Package ctrl: its words, and what is tried on them. -/
import Derived.Test.YtcikopeddljgkaaGreatJSa
set_option linter.unusedSimpArgs false
set_option linter.unusedVariables false
set_option maxRecDepth 100000
namespace Go.Proofs.Hc
open Go.RowKit
attribute [local go_sem] zbu zcc zax zbf zbo zbd zbn zbp zbw signed64 signed8 zap BitVec.ofInt_add BitVec.ofInt_mul ofInt_sub' zbb zbc wide8 eqN neN zca shr1 shr7 shr56
attribute [local go_sem high] zbe zbv
attribute [local go_sem] zao zdd
attribute [local go_sem] nn2 nm2 nn3 nm3 nn4 nm4 nn5 nm5 nn6 nm6 nn7 nm7 nn8 nm8
attribute [local go_sem] zaw zby zaj zas zaf zal
attribute [local go_sem ↓] zae zbk zbg zaa
def fullM (c : BitVec 64) : BitVec 8 := belowM c 128#8
def emptyM (c : BitVec 64) : BitVec 8 := equalM c 128#8
def delM (c : BitVec 64) : BitVec 8 := equalM c 254#8
def ctrlOk (c : BitVec 64) : Bool := fullM c ||| emptyM c ||| delM c == 255#8
def M3 (x : BitVec 8 × BitVec 8 × BitVec 8) : Value := .agg #[Y x.1, Y x.2.1, Y x.2.2]
theorem below128 (x : BitVec 64) (w : World) : Calls Tryz.prog 275 #[U x, .int .u8 128] w fun e w' => e = .returned (Y (belowM x 128#8)) ∧ w = w' := below_any x 128#8 w
theorem equal128 (x : BitVec 64) (w : World) : Calls Tryz.prog 264 #[U x, .int .u8 128] w fun e w' => e = .returned (Y (equalM x 128#8)) ∧ w = w' := equal_any x 128#8 w
theorem equal254 (x : BitVec 64) (w : World) : Calls Tryz.prog 264 #[U x, .int .u8 254] w fun e w' => e = .returned (Y (equalM x 254#8)) ∧ w = w' := equal_any x 254#8 w
theorem full_any (c : BitVec 64) (w : World) : Calls Tryz.prog 224 #[U c] w fun e w' => e = .returned (Y (fullM c)) ∧ w = w' := by
  go_enter Tryz.func224, Tryz.ntmps224
  go_wp2_with (go_at_call 275; refine (below128 _ _).mono ?_; rintro e w' ⟨rfl, rfl⟩)
  go_ret
  exact ⟨rfl, rfl⟩
theorem empty_any (c : BitVec 64) (w : World) : Calls Tryz.prog 225 #[U c] w fun e w' => e = .returned (Y (emptyM c)) ∧ w = w' := by
  go_enter Tryz.func225, Tryz.ntmps225
  go_wp2_with (go_at_call 264; refine (equal128 _ _).mono ?_; rintro e w' ⟨rfl, rfl⟩)
  go_ret
  exact ⟨rfl, rfl⟩
theorem del_any (c : BitVec 64) (w : World) : Calls Tryz.prog 226 #[U c] w fun e w' => e = .returned (Y (delM c)) ∧ w = w' := by
  go_enter Tryz.func226, Tryz.ntmps226
  go_wp2_with (go_at_call 264; refine (equal254 _ _).mono ?_; rintro e w' ⟨rfl, rfl⟩)
  go_ret
  exact ⟨rfl, rfl⟩
theorem ccheck_any (c : BitVec 64) (w : World) : Calls Tryz.prog 165 #[U c] w fun e w' => e = .returned (I (if ctrlOk c then 0 else 190)) ∧ w = w' := by
  cases hc : ctrlOk c
  all_goals
    have h255 : (N (fullM c ||| emptyM c ||| delM c) != 255) = !ctrlOk c := by
      unfold ctrlOk; rw [show (255 : Int) = N (255#8) from rfl, neN]; rfl
    rw [hc] at h255
    go_enter Tryz.func165, Tryz.ntmps165
    go_wp2_with (first
      | (go_at_call 224; refine (full_any _ _).mono ?_; rintro e w' ⟨rfl, rfl⟩)
      | (go_at_call 225; refine (empty_any _ _).mono ?_; rintro e w' ⟨rfl, rfl⟩)
      | (go_at_call 226; refine (del_any _ _).mono ?_; rintro e w' ⟨rfl, rfl⟩))
    go_ret
    exact ⟨rfl, rfl⟩
theorem cneed_yes (c : Int) (w : World) :
    Calls Tryz.prog 263 #[.bool true, I c] w fun e w' => e = .returned (.tuple #[]) ∧ w = w' := by
  go_enter Tryz.func263, Tryz.ntmps263
  go_wp2
  go_end0
  exact ⟨rfl, rfl⟩
theorem cneed_no (c : Int) (w : World) :
    Calls Tryz.prog 263 #[.bool false, I c] w fun e w' => e = .panicked [{ v := .iface 32 (I c), recovered := false }] ∧ w = w' := by
  go_enter Tryz.func263, Tryz.ntmps263
  go_wp2
  exact ⟨rfl, rfl, rfl⟩
theorem ccatch_idlew (p q : Nat) (w : World) :
    CallsD Tryz.prog 269 #[.pointer (some ⟨p, 0, none⟩), .pointer (some ⟨q, 0, none⟩)] .returning w fun e u' w' => e = .returned (.tuple #[]) ∧ u' = .returning ∧ w = w' := by
  refine callsD_of_wpS Tryz.func269 rfl fun c₀ cs hu => ?_
  simp only [Tryz.ntmps269, List.size_toArray, List.length_cons, List.length_nil, Nat.reduceAdd, Nat.reduceSub, Array.replicate_succ, Array.replicate_zero, List.push_toArray, List.append_toArray, List.nil_append, List.cons_append]
  apply wpS_seq
  apply wpS_region
  simp [wpOpsS, go_sem, recoverD, hu, Exit.thenS]
  refine wpS_of_wp ?_
  go_wp2_with fail
  exact ⟨rfl, .returning, by cases c₀; simp_all, _, results_none rfl _ _ _, rfl, rfl, rfl⟩
theorem ccatch_panicw (p q : Nat) (c : Int) (c1 : Value) (c2 : Value) (w : World)
    (hp : w.heap[p]? = some (.cells #[c1] 22 (0, 0))) (hq : w.heap[q]? = some (.cells #[c2] 32 (0, 0))) (hpq : (p = q) = False) :
    CallsD Tryz.prog 269 #[.pointer (some ⟨p, 0, none⟩), .pointer (some ⟨q, 0, none⟩)] (.panicking [{ v := .iface 32 (I c), recovered := false }]) w fun e u' w' =>
      e = .returned (.tuple #[]) ∧ u' = .panicking [{ v := .iface 32 (I c), recovered := true }] ∧ Ch [p, q] w w' ∧
      w'.heap[p]? = some (.cells #[U 0#64] 22 (0, 0)) ∧ w'.heap[q]? = some (.cells #[I c] 32 (0, 0)) := by
  have hp1 : (p = w.heap.size) = False := by have := (Array.getElem?_eq_some_iff.1 hp).1; simp; omega
  have hq1 : (q = w.heap.size) = False := by have := (Array.getElem?_eq_some_iff.1 hq).1; simp; omega
  have hqp : (q = p) = False := by simpa [eq_comm] using hpq
  refine callsD_of_wpS Tryz.func269 rfl fun c₀ cs hu => ?_
  simp only [Tryz.ntmps269, List.size_toArray, List.length_cons, List.length_nil, Nat.reduceAdd, Nat.reduceSub, Array.replicate_succ, Array.replicate_zero, List.push_toArray, List.append_toArray, List.nil_append, List.cons_append]
  apply wpS_seq
  apply wpS_region
  simp [wpOpsS, go_sem, recoverD, hu, Exit.thenS]
  refine wpS_of_wp ?_
  go_wp2_with fail
  refine ⟨rfl, _, rfl, _, results_none rfl _ _ _, rfl, rfl, ?_, ?_, ?_⟩
  · exact ((Ch.refl [p, q] w).setCell (p := ⟨p, 0, none⟩) (.inl (by simp)) _).setCell (p := ⟨q, 0, none⟩) (.inl (by simp)) _
  · simp only [zaa, hpq, hp, if_false, if_true, Option.map_some, zaf]
    rfl
  · simp only [zaa, hqp, hq, if_false, if_true, Option.map_some, zaf]
    rfl
theorem cresultsw (tmps : Array Value) (p q : Nat) (w : World) (v : Value) (c : Int) (hp : tmps.getD 4 undef = .pointer (some ⟨p, 0, none⟩)) (hq : tmps.getD 5 undef = .pointer (some ⟨q, 0, none⟩))
    (h1 : w.heap[p]? = some (.cells #[v] 22 (0, 0))) (h2 : w.heap[q]? = some (.cells #[I c] 32 (0, 0))) :
    (results Tryz.f212 tmps).run Tryz.prog w = .ok (.tuple #[v, I c]) w := by
  exact results_cell2 Tryz.results212 tmps _ _ w hp hq (load_one Tryz.underlying22 rfl p w h1) (load_one Tryz.underlying32 rfl q w h2)
theorem ctriesw_any (c : BitVec 64) (df : Nat) (cap : Array Value) (r : Except Int (BitVec 64)) (w : World)
    (hdf : ∀ args w, (callFunc df args).run Tryz.prog w = .ok (.enter df args) w)
    (hdoes : ctrlOk c = true → ∀ b w1, w1.heap[b]? = some (.cells #[U c] 299 (0, 0)) → Ch [] w w1 → w.heap.size ≤ b →
      Calls Tryz.prog df (#[.pointer (some ⟨b, 0, none⟩)] ++ cap) w1 fun e w2 => e = retOr U r ∧ Ch [b] w1 w2) :
    Calls Tryz.prog 212 #[U c, .func (.func df) #[] cap] w fun e w' =>
      e = .returned (tupOr U (U 0#64) (if ctrlOk c then r else .error 190)) ∧ Ch [] w w' := by
  cases hm : ctrlOk c with
  | false =>
    have hm1 := ccheck_any c
    rw [hm] at hm1
    clear hdoes hm
    simp only [if_false, Bool.false_eq_true] at hm1 ⊢
    go_enter_defers Tryz.func212, Tryz.ntmps212
    go_wp2_with (first
      | (go_at_call 165; refine (hm1 _).mono ?_; rintro e w' ⟨rfl, rfl⟩)
      | (go_at_call 263; refine (cneed_no _ _).mono ?_; rintro e w' ⟨rfl, rfl⟩))
    refine leaves_cons (f := 269) (args := #[.pointer (some ⟨w.heap.size, 0, none⟩), .pointer (some ⟨w.heap.size + 1, 0, none⟩)]) (by simp) (by simp [go_sem]) ?_
    refine (ccatch_panicw _ _ _ (U 0#64) (I 0) _ ?_ ?_ ?_).mono ?_
    · simp [go_sem]; rfl
    · simp [go_sem]
    · simp
    rintro e u' w2 ⟨rfl, rfl, hc2, h1, h2⟩
    refine ⟨_, cresultsw _ _ _ _ _ _ rfl rfl h1 h2, rfl, ?_⟩
    exact (((Ch.refl [] w).alloc _).alloc _).trans2 hc2 (by simp <;> omega)
  | true =>
    have hm1 := ccheck_any c
    rw [hm] at hm1
    have hdoes := hdoes hm
    clear hm
    simp only [if_true] at hm1 ⊢
    cases r with
    | ok v =>
      go_enter_defers Tryz.func212, Tryz.ntmps212
      go_wp2_with (first
        | (go_at_call 165; refine (hm1 _).mono ?_; rintro e w' ⟨rfl, rfl⟩)
        | (go_at_call 263; refine (cneed_yes _ _).mono ?_; rintro e w' ⟨rfl, rfl⟩))
      refine (hdoes _ _ (by simp [go_sem]) ((((Ch.refl [] w).alloc _).alloc _).alloc _) (by omega)).mono ?_
      rintro e w2 ⟨rfl, hc2⟩
      have hz2 := hc2.size
      simp only [World.size_alloc] at hz2
      have h6 : w2.heap[w.heap.size]? = some (.cells #[U 0#64] 22 (0, 0)) := (hc2.block _ (by simp <;> omega) (by simp <;> omega)).trans (by simp [go_sem]; rfl)
      have h7 : w2.heap[w.heap.size + 1]? = some (.cells #[I 0] 32 (0, 0)) := (hc2.block _ (by simp <;> omega) (by simp <;> omega)).trans (by simp [go_sem])
      simp only [retOr]
      go_wp2
      refine leaves_cons (f := 269) (args := #[.pointer (some ⟨w.heap.size, 0, none⟩), .pointer (some ⟨w.heap.size + 1, 0, none⟩)]) (by simp) (by simp [go_sem]) ?_
      refine (ccatch_idlew _ _ _).mono ?_
      rintro e u' w3 ⟨rfl, rfl, rfl⟩
      have n67 : (w.heap.size = w.heap.size + 1) = False := by simp
      have n76 : (w.heap.size + 1 = w.heap.size) = False := by simp
      refine ⟨_, cresultsw _ _ _ _ _ _ rfl rfl ?g6 ?g7, rfl, ?gc⟩
      case g6 =>
        simp only [zaa, h6, n67, if_false, if_true, Option.map_some, zaf]
        rfl
      case g7 =>
        simp only [zaa, h7, n76, if_false, if_true, Option.map_some, zaf]
        rfl
      case gc =>
        exact (((((((Ch.refl [] w).alloc _).alloc _).alloc _).trans2 hc2 (by simp <;> omega)).setCell (p := ⟨w.heap.size, 0, none⟩) (.inr (by simp)) _)).setCell (p := ⟨w.heap.size + 1, 0, none⟩) (.inr (by simp <;> omega)) _
    | error er =>
      go_enter_defers Tryz.func212, Tryz.ntmps212
      go_wp2_with (first
        | (go_at_call 165; refine (hm1 _).mono ?_; rintro e w' ⟨rfl, rfl⟩)
        | (go_at_call 263; refine (cneed_yes _ _).mono ?_; rintro e w' ⟨rfl, rfl⟩))
      refine (hdoes _ _ (by simp [go_sem]) ((((Ch.refl [] w).alloc _).alloc _).alloc _) (by omega)).mono ?_
      rintro e w2 ⟨rfl, hc2⟩
      have h6 : w2.heap[w.heap.size]? = some (.cells #[U 0#64] 22 (0, 0)) := (hc2.block _ (by simp <;> omega) (by simp <;> omega)).trans (by simp [go_sem]; rfl)
      have h7 : w2.heap[w.heap.size + 1]? = some (.cells #[I 0] 32 (0, 0)) := (hc2.block _ (by simp <;> omega) (by simp <;> omega)).trans (by simp [go_sem])
      simp only [retOr]
      refine leaves_cons (f := 269) (args := #[.pointer (some ⟨w.heap.size, 0, none⟩), .pointer (some ⟨w.heap.size + 1, 0, none⟩)]) (by simp) (by simp [go_sem]) ?_
      refine (ccatch_panicw _ _ _ _ (I 0) _ h6 h7 (by simp)).mono ?_
      rintro e u' w3 ⟨rfl, rfl, hc3, h1, h2⟩
      refine ⟨_, cresultsw _ _ _ _ _ _ rfl rfl h1 h2, rfl, ?_⟩
      exact (((((Ch.refl [] w).alloc _).alloc _).alloc _).trans2 hc2 (by simp <;> omega)).trans2 hc3 (by simp <;> omega)
theorem ctriesw_ok (c : BitVec 64) (hok : ctrlOk c = true) (df : Nat) (cap : Array Value) (r : Except Int (BitVec 64)) (w : World)
    (hdf : ∀ args w, (callFunc df args).run Tryz.prog w = .ok (.enter df args) w)
    (hdoes : ∀ b w1, w1.heap[b]? = some (.cells #[U c] 299 (0, 0)) → Ch [] w w1 → w.heap.size ≤ b →
      Calls Tryz.prog df (#[.pointer (some ⟨b, 0, none⟩)] ++ cap) w1 fun e w2 => e = retOr U r ∧ Ch [b] w1 w2) :
    Calls Tryz.prog 212 #[U c, .func (.func df) #[] cap] w fun e w' => e = .returned (tupOr U (U 0#64) r) ∧ Ch [] w w' := by
  have h := ctriesw_any c df cap r w hdf (fun _ => hdoes)
  rw [if_pos hok] at h
  exact h
theorem ccatch_idles (p q : Nat) (w : World) :
    CallsD Tryz.prog 276 #[.pointer (some ⟨p, 0, none⟩), .pointer (some ⟨q, 0, none⟩)] .returning w fun e u' w' => e = .returned (.tuple #[]) ∧ u' = .returning ∧ w = w' := by
  refine callsD_of_wpS Tryz.func276 rfl fun c₀ cs hu => ?_
  simp only [Tryz.ntmps276, List.size_toArray, List.length_cons, List.length_nil, Nat.reduceAdd, Nat.reduceSub, Array.replicate_succ, Array.replicate_zero, List.push_toArray, List.append_toArray, List.nil_append, List.cons_append]
  apply wpS_seq
  apply wpS_region
  simp [wpOpsS, go_sem, recoverD, hu, Exit.thenS]
  refine wpS_of_wp ?_
  go_wp2_with fail
  exact ⟨rfl, .returning, by cases c₀; simp_all, _, results_none rfl _ _ _, rfl, rfl, rfl⟩
theorem ccatch_panics (p q : Nat) (c : Int) (c1 c3 c4 : Value) (c2 : Value) (w : World)
    (hp : w.heap[p]? = some (.cells #[c1, c3, c4] 307 (0, 0))) (hq : w.heap[q]? = some (.cells #[c2] 32 (0, 0))) (hpq : (p = q) = False) :
    CallsD Tryz.prog 276 #[.pointer (some ⟨p, 0, none⟩), .pointer (some ⟨q, 0, none⟩)] (.panicking [{ v := .iface 32 (I c), recovered := false }]) w fun e u' w' =>
      e = .returned (.tuple #[]) ∧ u' = .panicking [{ v := .iface 32 (I c), recovered := true }] ∧ Ch [p, q] w w' ∧
      w'.heap[p]? = some (.cells #[Y 0#8, Y 0#8, Y 0#8] 307 (0, 0)) ∧ w'.heap[q]? = some (.cells #[I c] 32 (0, 0)) := by
  have hp1 : (p = w.heap.size) = False := by have := (Array.getElem?_eq_some_iff.1 hp).1; simp; omega
  have hq1 : (q = w.heap.size) = False := by have := (Array.getElem?_eq_some_iff.1 hq).1; simp; omega
  have hqp : (q = p) = False := by simpa [eq_comm] using hpq
  refine callsD_of_wpS Tryz.func276 rfl fun c₀ cs hu => ?_
  simp only [Tryz.ntmps276, List.size_toArray, List.length_cons, List.length_nil, Nat.reduceAdd, Nat.reduceSub, Array.replicate_succ, Array.replicate_zero, List.push_toArray, List.append_toArray, List.nil_append, List.cons_append]
  apply wpS_seq
  apply wpS_region
  simp [wpOpsS, go_sem, recoverD, hu, Exit.thenS]
  refine wpS_of_wp ?_
  go_wp2_with fail
  refine ⟨rfl, _, rfl, _, results_none rfl _ _ _, rfl, rfl, ?_, ?_, ?_⟩
  · exact (((((Ch.refl [p, q] w).alloc _).setCell (p := ⟨p, 0, none⟩) (.inl (by simp)) _).setCell (p := ⟨p, 1, none⟩) (.inl (by simp)) _).setCell (p := ⟨p, 2, none⟩) (.inl (by simp)) _).setCell (p := ⟨q, 0, none⟩) (.inl (by simp)) _
  · simp only [zaa, zae, hp1, hpq, hp, if_false, if_true, Option.map_some, zaf]
    rfl
  · simp only [zaa, zae, hq1, hqp, hq, if_false, if_true, Option.map_some, zaf]
    rfl
theorem cresultss (tmps : Array Value) (p q : Nat) (w : World) (vs : Array Value) (c : Int) (hp : tmps.getD 4 undef = .pointer (some ⟨p, 0, none⟩)) (hq : tmps.getD 5 undef = .pointer (some ⟨q, 0, none⟩))
    (h1 : w.heap[p]? = some (.cells vs 307 (0, 0))) (hs : vs.size = 3) (h2 : w.heap[q]? = some (.cells #[I c] 32 (0, 0))) :
    (results Tryz.f227 tmps).run Tryz.prog w = .ok (.tuple #[.agg vs, I c]) w := by
  exact results_cell2 Tryz.results227 tmps _ _ w hp hq (run_loadVar_row w p _ _ vs _ _ h1 Tryz.underlying307 rfl (by rw [hs]; kernel_rfl)) (load_one Tryz.underlying32 rfl q w h2)
theorem ctriess_any (c : BitVec 64) (df : Nat) (cap : Array Value) (r : Except Int (BitVec 8 × BitVec 8 × BitVec 8)) (w : World)
    (hdf : ∀ args w, (callFunc df args).run Tryz.prog w = .ok (.enter df args) w)
    (hdoes : ctrlOk c = true → ∀ b w1, w1.heap[b]? = some (.cells #[U c] 299 (0, 0)) → Ch [] w w1 → w.heap.size ≤ b →
      Calls Tryz.prog df (#[.pointer (some ⟨b, 0, none⟩)] ++ cap) w1 fun e w2 => e = retOr M3 r ∧ Ch [b] w1 w2) :
    Calls Tryz.prog 227 #[U c, .func (.func df) #[] cap] w fun e w' =>
      e = .returned (tupOr M3 (.agg #[Y 0#8, Y 0#8, Y 0#8]) (if ctrlOk c then r else .error 190)) ∧ Ch [] w w' := by
  cases hm : ctrlOk c with
  | false =>
    have hm1 := ccheck_any c
    rw [hm] at hm1
    clear hdoes hm
    simp only [if_false, Bool.false_eq_true] at hm1 ⊢
    go_enter_defers Tryz.func227, Tryz.ntmps227
    go_wp2_with (first
      | (go_at_call 165; refine (hm1 _).mono ?_; rintro e w' ⟨rfl, rfl⟩)
      | (go_at_call 263; refine (cneed_no _ _).mono ?_; rintro e w' ⟨rfl, rfl⟩))
    refine leaves_cons (f := 276) (args := #[.pointer (some ⟨w.heap.size, 0, none⟩), .pointer (some ⟨w.heap.size + 1, 0, none⟩)]) (by simp) (by simp [go_sem]) ?_
    refine (ccatch_panics _ _ _ (Y 0#8) (Y 0#8) (Y 0#8) (I 0) _ ?_ ?_ ?_).mono ?_
    · simp [go_sem]; rfl
    · simp [go_sem]
    · simp
    rintro e u' w2 ⟨rfl, rfl, hc2, h1, h2⟩
    refine ⟨_, cresultss _ _ _ _ _ _ rfl rfl h1 rfl h2, rfl, ?_⟩
    exact (((Ch.refl [] w).alloc _).alloc _).trans2 hc2 (by simp <;> omega)
  | true =>
    have hm1 := ccheck_any c
    rw [hm] at hm1
    have hdoes := hdoes hm
    clear hm
    simp only [if_true] at hm1 ⊢
    cases r with
    | ok v =>
      go_enter_defers Tryz.func227, Tryz.ntmps227
      go_wp2_with (first
        | (go_at_call 165; refine (hm1 _).mono ?_; rintro e w' ⟨rfl, rfl⟩)
        | (go_at_call 263; refine (cneed_yes _ _).mono ?_; rintro e w' ⟨rfl, rfl⟩))
      refine (hdoes _ _ (by simp [go_sem]) ((((Ch.refl [] w).alloc _).alloc _).alloc _) (by omega)).mono ?_
      rintro e w2 ⟨rfl, hc2⟩
      have hz2 := hc2.size
      simp only [World.size_alloc] at hz2
      have h6 : w2.heap[w.heap.size]? = some (.cells #[Y 0#8, Y 0#8, Y 0#8] 307 (0, 0)) := (hc2.block _ (by simp <;> omega) (by simp <;> omega)).trans (by simp [go_sem]; rfl)
      have h7 : w2.heap[w.heap.size + 1]? = some (.cells #[I 0] 32 (0, 0)) := (hc2.block _ (by simp <;> omega) (by simp <;> omega)).trans (by simp [go_sem])
      simp only [retOr, M3]
      go_wp2
      refine leaves_cons (f := 276) (args := #[.pointer (some ⟨w.heap.size, 0, none⟩), .pointer (some ⟨w.heap.size + 1, 0, none⟩)]) (by simp) (by simp [go_sem]) ?_
      refine (ccatch_idles _ _ _).mono ?_
      rintro e u' w3 ⟨rfl, rfl, rfl⟩
      have n67 : (w.heap.size = w.heap.size + 1) = False := by simp
      have n76 : (w.heap.size + 1 = w.heap.size) = False := by simp
      refine ⟨_, cresultss _ _ _ _ _ _ rfl rfl ?g6 ?gs ?g7, rfl, ?gc⟩
      case g6 =>
        simp only [zaa, h6, n67, if_false, if_true, Option.map_some, zaf]
        rfl
      case g7 =>
        simp only [zaa, h7, n76, if_false, if_true, Option.map_some, zaf]
        rfl
      case gs => rfl
      case gc =>
        exact (((((((((Ch.refl [] w).alloc _).alloc _).alloc _).trans2 hc2 (by simp <;> omega)).setCell (p := ⟨w.heap.size, 0, none⟩) (.inr (by simp)) _).setCell (p := ⟨w.heap.size, 1, none⟩) (.inr (by simp)) _).setCell (p := ⟨w.heap.size, 2, none⟩) (.inr (by simp)) _)).setCell (p := ⟨w.heap.size + 1, 0, none⟩) (.inr (by simp <;> omega)) _
    | error er =>
      go_enter_defers Tryz.func227, Tryz.ntmps227
      go_wp2_with (first
        | (go_at_call 165; refine (hm1 _).mono ?_; rintro e w' ⟨rfl, rfl⟩)
        | (go_at_call 263; refine (cneed_yes _ _).mono ?_; rintro e w' ⟨rfl, rfl⟩))
      refine (hdoes _ _ (by simp [go_sem]) ((((Ch.refl [] w).alloc _).alloc _).alloc _) (by omega)).mono ?_
      rintro e w2 ⟨rfl, hc2⟩
      have h6 : w2.heap[w.heap.size]? = some (.cells #[Y 0#8, Y 0#8, Y 0#8] 307 (0, 0)) := (hc2.block _ (by simp <;> omega) (by simp <;> omega)).trans (by simp [go_sem]; rfl)
      have h7 : w2.heap[w.heap.size + 1]? = some (.cells #[I 0] 32 (0, 0)) := (hc2.block _ (by simp <;> omega) (by simp <;> omega)).trans (by simp [go_sem])
      simp only [retOr]
      refine leaves_cons (f := 276) (args := #[.pointer (some ⟨w.heap.size, 0, none⟩), .pointer (some ⟨w.heap.size + 1, 0, none⟩)]) (by simp) (by simp [go_sem]) ?_
      refine (ccatch_panics _ _ _ _ _ _ (I 0) _ h6 h7 (by simp)).mono ?_
      rintro e u' w3 ⟨rfl, rfl, hc3, h1, h2⟩
      refine ⟨_, cresultss _ _ _ _ _ _ rfl rfl h1 rfl h2, rfl, ?_⟩
      exact (((((Ch.refl [] w).alloc _).alloc _).alloc _).trans2 hc2 (by simp <;> omega)).trans2 hc3 (by simp <;> omega)
theorem ctriess_ok (c : BitVec 64) (hok : ctrlOk c = true) (df : Nat) (cap : Array Value) (r : Except Int (BitVec 8 × BitVec 8 × BitVec 8)) (w : World)
    (hdf : ∀ args w, (callFunc df args).run Tryz.prog w = .ok (.enter df args) w)
    (hdoes : ∀ b w1, w1.heap[b]? = some (.cells #[U c] 299 (0, 0)) → Ch [] w w1 → w.heap.size ≤ b →
      Calls Tryz.prog df (#[.pointer (some ⟨b, 0, none⟩)] ++ cap) w1 fun e w2 => e = retOr M3 r ∧ Ch [b] w1 w2) :
    Calls Tryz.prog 227 #[U c, .func (.func df) #[] cap] w fun e w' => e = .returned (tupOr M3 (.agg #[Y 0#8, Y 0#8, Y 0#8]) r) ∧ Ch [] w w' := by
  have h := ctriess_any c df cap r w hdf (fun _ => hdoes)
  rw [if_pos hok] at h
  exact h
end Go.Proofs.Hc
namespace Go.Proofs.Hc
theorem lane8 {P : Nat → Prop} (h0 : P 0) (h1 : P 1) (h2 : P 2) (h3 : P 3) (h4 : P 4) (h5 : P 5) (h6 : P 6) (h7 : P 7) : ∀ i, i < 8 → P i := by
  intro i hi
  match i, hi with
  | 0, _ => exact h0
  | 1, _ => exact h1
  | 2, _ => exact h2
  | 3, _ => exact h3
  | 4, _ => exact h4
  | 5, _ => exact h5
  | 6, _ => exact h6
  | 7, _ => exact h7
theorem byteAt_nat (x : BitVec 64) (n : Nat) : (byteAt x n).toNat = x.toNat / 2 ^ (8 * n) % 256 := by
  simp [byteAt, Nat.shiftRight_eq_div_pow]
theorem byteAt_and (x y : BitVec 64) (n : Nat) : byteAt (x &&& y) n = byteAt x n &&& byteAt y n := by
  apply BitVec.eq_of_getLsbD_eq; intro i hi; simp [byteAt, hi]
theorem byteAt_or (x y : BitVec 64) (n : Nat) : byteAt (x ||| y) n = byteAt x n ||| byteAt y n := by
  apply BitVec.eq_of_getLsbD_eq; intro i hi; simp [byteAt, hi]
theorem byteAt_xor (x y : BitVec 64) (n : Nat) : byteAt (x ^^^ y) n = byteAt x n ^^^ byteAt y n := by
  apply BitVec.eq_of_getLsbD_eq; intro i hi; simp [byteAt, hi]
theorem byteAt_not (x : BitVec 64) (n : Nat) (h : n < 8) : byteAt (~~~x) n = ~~~byteAt x n := by
  apply BitVec.eq_of_getLsbD_eq; intro i hi; simp [byteAt, hi]; omega
theorem byteAt_lows : ∀ n, n < 8 → byteAt lows n = 127#8 := by decide +kernel
theorem byteAt_tops : ∀ n, n < 8 → byteAt tops n = 128#8 := by decide +kernel
theorem byteAt_fill : ∀ (b : BitVec 8), ∀ n, n < 8 → byteAt (fillB b) n = b := by decide +kernel
theorem sum_bytes (x : BitVec 64) : x.toNat = (byteAt x 0).toNat + 256 * (byteAt x 1).toNat + 65536 * (byteAt x 2).toNat + 16777216 * (byteAt x 3).toNat + 4294967296 * (byteAt x 4).toNat + 1099511627776 * (byteAt x 5).toNat + 281474976710656 * (byteAt x 6).toNat + 72057594037927936 * (byteAt x 7).toNat := by
  simp only [byteAt_nat]
  have := x.isLt
  omega
theorem ext_bytes {x y : BitVec 64} (h : ∀ n, n < 8 → byteAt x n = byteAt y n) : x = y := by
  apply BitVec.eq_of_toNat_eq
  rw [sum_bytes x, sum_bytes y, h 0 (by omega), h 1 (by omega), h 2 (by omega), h 3 (by omega), h 4 (by omega), h 5 (by omega), h 6 (by omega), h 7 (by omega)]
theorem digits (z a0 a1 a2 a3 a4 a5 a6 a7 : Nat) (hz : z = a0 + 256 * a1 + 65536 * a2 + 16777216 * a3 + 4294967296 * a4 + 1099511627776 * a5 + 281474976710656 * a6 + 72057594037927936 * a7)
    (h0 : a0 < 256) (h1 : a1 < 256) (h2 : a2 < 256) (h3 : a3 < 256) (h4 : a4 < 256) (h5 : a5 < 256) (h6 : a6 < 256) (h7 : a7 < 256) :
    z / 2 ^ (8 * 0) % 256 = a0 ∧ z / 2 ^ (8 * 1) % 256 = a1 ∧ z / 2 ^ (8 * 2) % 256 = a2 ∧ z / 2 ^ (8 * 3) % 256 = a3 ∧ z / 2 ^ (8 * 4) % 256 = a4 ∧ z / 2 ^ (8 * 5) % 256 = a5 ∧ z / 2 ^ (8 * 6) % 256 = a6 ∧ z / 2 ^ (8 * 7) % 256 = a7 := by
  subst hz
  simp only [Nat.reduceMul, Nat.reducePow]
  refine ⟨?_, ?_, ?_, ?_, ?_, ?_, ?_, ?_⟩ <;> omega
theorem byteAt_add (x y : BitVec 64) (h : ∀ n, n < 8 → (byteAt x n).toNat + (byteAt y n).toNat < 256) : ∀ n, n < 8 → byteAt (x + y) n = byteAt x n + byteAt y n := by
  have hx := sum_bytes x
  have hy := sum_bytes y
  have h0 := h 0 (by omega)
  have h1 := h 1 (by omega)
  have h2 := h 2 (by omega)
  have h3 := h 3 (by omega)
  have h4 := h 4 (by omega)
  have h5 := h 5 (by omega)
  have h6 := h 6 (by omega)
  have h7 := h 7 (by omega)
  have hz : (x + y).toNat = ((byteAt x 0).toNat + (byteAt y 0).toNat) + 256 * ((byteAt x 1).toNat + (byteAt y 1).toNat) + 65536 * ((byteAt x 2).toNat + (byteAt y 2).toNat) + 16777216 * ((byteAt x 3).toNat + (byteAt y 3).toNat) + 4294967296 * ((byteAt x 4).toNat + (byteAt y 4).toNat) + 1099511627776 * ((byteAt x 5).toNat + (byteAt y 5).toNat) + 281474976710656 * ((byteAt x 6).toNat + (byteAt y 6).toNat) + 72057594037927936 * ((byteAt x 7).toNat + (byteAt y 7).toNat) := by
    rw [BitVec.toNat_add, hx, hy]
    clear hx hy h
    generalize (byteAt x 0).toNat = a0 at *
    generalize (byteAt x 1).toNat = a1 at *
    generalize (byteAt x 2).toNat = a2 at *
    generalize (byteAt x 3).toNat = a3 at *
    generalize (byteAt x 4).toNat = a4 at *
    generalize (byteAt x 5).toNat = a5 at *
    generalize (byteAt x 6).toNat = a6 at *
    generalize (byteAt x 7).toNat = a7 at *
    generalize (byteAt y 0).toNat = b0 at *
    generalize (byteAt y 1).toNat = b1 at *
    generalize (byteAt y 2).toNat = b2 at *
    generalize (byteAt y 3).toNat = b3 at *
    generalize (byteAt y 4).toNat = b4 at *
    generalize (byteAt y 5).toNat = b5 at *
    generalize (byteAt y 6).toNat = b6 at *
    generalize (byteAt y 7).toNat = b7 at *
    rw [Nat.mod_eq_of_lt (by omega)]
    omega
  have hd := digits _ _ _ _ _ _ _ _ _ hz h0 h1 h2 h3 h4 h5 h6 h7
  obtain ⟨d0, d1, d2, d3, d4, d5, d6, d7⟩ := hd
  refine lane8 ?_ ?_ ?_ ?_ ?_ ?_ ?_ ?_ <;>
    (apply BitVec.eq_of_toNat_eq; rw [BitVec.toNat_add, byteAt_nat])
  · rw [d0, Nat.mod_eq_of_lt h0]
  · rw [d1, Nat.mod_eq_of_lt h1]
  · rw [d2, Nat.mod_eq_of_lt h2]
  · rw [d3, Nat.mod_eq_of_lt h3]
  · rw [d4, Nat.mod_eq_of_lt h4]
  · rw [d5, Nat.mod_eq_of_lt h5]
  · rw [d6, Nat.mod_eq_of_lt h6]
  · rw [d7, Nat.mod_eq_of_lt h7]
theorem byteAt_sub (x y : BitVec 64) (h : ∀ n, n < 8 → (byteAt y n).toNat ≤ (byteAt x n).toNat) : ∀ n, n < 8 → byteAt (x - y) n = byteAt x n - byteAt y n := by
  have hs : ∃ z : BitVec 64, ∀ n, n < 8 → byteAt z n = byteAt x n - byteAt y n := by
    have c : ∀ n, (byteAt x n - byteAt y n).toNat < 256 := fun n => (byteAt x n - byteAt y n).isLt
    have c0 := c 0
    have c1 := c 1
    have c2 := c 2
    have c3 := c 3
    have c4 := c 4
    have c5 := c 5
    have c6 := c 6
    have c7 := c 7
    clear c
    refine ⟨BitVec.ofNat 64 ((byteAt x 0 - byteAt y 0).toNat + 256 * (byteAt x 1 - byteAt y 1).toNat + 65536 * (byteAt x 2 - byteAt y 2).toNat + 16777216 * (byteAt x 3 - byteAt y 3).toNat + 4294967296 * (byteAt x 4 - byteAt y 4).toNat + 1099511627776 * (byteAt x 5 - byteAt y 5).toNat + 281474976710656 * (byteAt x 6 - byteAt y 6).toNat + 72057594037927936 * (byteAt x 7 - byteAt y 7).toNat), ?_⟩
    have hz : (BitVec.ofNat 64 ((byteAt x 0 - byteAt y 0).toNat + 256 * (byteAt x 1 - byteAt y 1).toNat + 65536 * (byteAt x 2 - byteAt y 2).toNat + 16777216 * (byteAt x 3 - byteAt y 3).toNat + 4294967296 * (byteAt x 4 - byteAt y 4).toNat + 1099511627776 * (byteAt x 5 - byteAt y 5).toNat + 281474976710656 * (byteAt x 6 - byteAt y 6).toNat + 72057594037927936 * (byteAt x 7 - byteAt y 7).toNat)).toNat = (byteAt x 0 - byteAt y 0).toNat + 256 * (byteAt x 1 - byteAt y 1).toNat + 65536 * (byteAt x 2 - byteAt y 2).toNat + 16777216 * (byteAt x 3 - byteAt y 3).toNat + 4294967296 * (byteAt x 4 - byteAt y 4).toNat + 1099511627776 * (byteAt x 5 - byteAt y 5).toNat + 281474976710656 * (byteAt x 6 - byteAt y 6).toNat + 72057594037927936 * (byteAt x 7 - byteAt y 7).toNat := by
      rw [BitVec.toNat_ofNat]
      clear h
      generalize (byteAt x 0 - byteAt y 0).toNat = a0 at *
      generalize (byteAt x 1 - byteAt y 1).toNat = a1 at *
      generalize (byteAt x 2 - byteAt y 2).toNat = a2 at *
      generalize (byteAt x 3 - byteAt y 3).toNat = a3 at *
      generalize (byteAt x 4 - byteAt y 4).toNat = a4 at *
      generalize (byteAt x 5 - byteAt y 5).toNat = a5 at *
      generalize (byteAt x 6 - byteAt y 6).toNat = a6 at *
      generalize (byteAt x 7 - byteAt y 7).toNat = a7 at *
      exact Nat.mod_eq_of_lt (by omega)
    have hd := digits _ _ _ _ _ _ _ _ _ hz c0 c1 c2 c3 c4 c5 c6 c7
    obtain ⟨d0, d1, d2, d3, d4, d5, d6, d7⟩ := hd
    refine lane8 ?_ ?_ ?_ ?_ ?_ ?_ ?_ ?_ <;>
      (apply BitVec.eq_of_toNat_eq; rw [byteAt_nat])
    · rw [d0]
    · rw [d1]
    · rw [d2]
    · rw [d3]
    · rw [d4]
    · rw [d5]
    · rw [d6]
    · rw [d7]
  obtain ⟨z, hz⟩ := hs
  have hzy : z + y = x := by
    apply ext_bytes
    intro m hm
    rw [byteAt_add z y (fun k hk => by rw [hz k hk, BitVec.toNat_sub_of_le (BitVec.le_def.2 (h k hk))]; have := h k hk; have := (byteAt x k).isLt; omega) m hm, hz m hm]
    exact BitVec.sub_add_cancel _ _
  intro n hn
  have : x - y = z := by rw [← hzy]; exact BitVec.add_sub_cancel z y
  rw [this, hz n hn]
theorem nought_byte : ∀ a : BitVec 8, ~~~(((a &&& 127#8) + 127#8) ||| a ||| 127#8) = if a = 0#8 then 128#8 else 0#8 := by decide +kernel
theorem byte_small : ∀ a : BitVec 8, (a &&& 127#8).toNat + (127#8 : BitVec 8).toNat < 256 := by decide +kernel
theorem byteAt_noughts (x : BitVec 64) (n : Nat) (h : n < 8) : byteAt (noughts x) n = if byteAt x n = 0#8 then 128#8 else 0#8 := by
  unfold noughts
  rw [byteAt_not _ _ h, byteAt_or, byteAt_or, byteAt_add _ _ (fun k hk => by rw [byteAt_and, byteAt_lows k hk]; exact byte_small _) n h, byteAt_and, byteAt_lows n h]
  exact nought_byte _
theorem gath : ∀ t0 t1 t2 t3 t4 t5 t6 t7 : Bool, gathered (BitVec.ofNat 64 (128 * t0.toNat + 256 * (128 * t1.toNat) + 65536 * (128 * t2.toNat) + 16777216 * (128 * t3.toNat) + 4294967296 * (128 * t4.toNat) + 1099511627776 * (128 * t5.toNat) + 281474976710656 * (128 * t6.toNat) + 72057594037927936 * (128 * t7.toNat))) = BitVec.ofNat 8 (t0.toNat + 2 * t1.toNat + 4 * t2.toNat + 8 * t3.toNat + 16 * t4.toNat + 32 * t5.toNat + 64 * t6.toNat + 128 * t7.toNat) := by decide +kernel
theorem gath_bits : ∀ t0 t1 t2 t3 t4 t5 t6 t7 : Bool, (BitVec.ofNat 8 (t0.toNat + 2 * t1.toNat + 4 * t2.toNat + 8 * t3.toNat + 16 * t4.toNat + 32 * t5.toNat + 64 * t6.toNat + 128 * t7.toNat)).getLsbD 0 = t0 ∧
  (BitVec.ofNat 8 (t0.toNat + 2 * t1.toNat + 4 * t2.toNat + 8 * t3.toNat + 16 * t4.toNat + 32 * t5.toNat + 64 * t6.toNat + 128 * t7.toNat)).getLsbD 1 = t1 ∧
  (BitVec.ofNat 8 (t0.toNat + 2 * t1.toNat + 4 * t2.toNat + 8 * t3.toNat + 16 * t4.toNat + 32 * t5.toNat + 64 * t6.toNat + 128 * t7.toNat)).getLsbD 2 = t2 ∧
  (BitVec.ofNat 8 (t0.toNat + 2 * t1.toNat + 4 * t2.toNat + 8 * t3.toNat + 16 * t4.toNat + 32 * t5.toNat + 64 * t6.toNat + 128 * t7.toNat)).getLsbD 3 = t3 ∧
  (BitVec.ofNat 8 (t0.toNat + 2 * t1.toNat + 4 * t2.toNat + 8 * t3.toNat + 16 * t4.toNat + 32 * t5.toNat + 64 * t6.toNat + 128 * t7.toNat)).getLsbD 4 = t4 ∧
  (BitVec.ofNat 8 (t0.toNat + 2 * t1.toNat + 4 * t2.toNat + 8 * t3.toNat + 16 * t4.toNat + 32 * t5.toNat + 64 * t6.toNat + 128 * t7.toNat)).getLsbD 5 = t5 ∧
  (BitVec.ofNat 8 (t0.toNat + 2 * t1.toNat + 4 * t2.toNat + 8 * t3.toNat + 16 * t4.toNat + 32 * t5.toNat + 64 * t6.toNat + 128 * t7.toNat)).getLsbD 6 = t6 ∧
  (BitVec.ofNat 8 (t0.toNat + 2 * t1.toNat + 4 * t2.toNat + 8 * t3.toNat + 16 * t4.toNat + 32 * t5.toNat + 64 * t6.toNat + 128 * t7.toNat)).getLsbD 7 = t7 := by decide +kernel
theorem gathered_bit (y : BitVec 64) (p : Nat → Bool) (h : ∀ n, n < 8 → byteAt y n = if p n then 128#8 else 0#8) : ∀ n, n < 8 → (gathered y).getLsbD n = p n := by
  have hb : ∀ n, n < 8 → (byteAt y n).toNat = 128 * (p n).toNat := fun n hn => by rw [h n hn]; cases p n <;> rfl
  have hy : y = BitVec.ofNat 64 (128 * (p 0).toNat + 256 * (128 * (p 1).toNat) + 65536 * (128 * (p 2).toNat) + 16777216 * (128 * (p 3).toNat) + 4294967296 * (128 * (p 4).toNat) + 1099511627776 * (128 * (p 5).toNat) + 281474976710656 * (128 * (p 6).toNat) + 72057594037927936 * (128 * (p 7).toNat)) := by
    apply BitVec.eq_of_toNat_eq
    have hs := sum_bytes y
    rw [hb 0 (by omega), hb 1 (by omega), hb 2 (by omega), hb 3 (by omega), hb 4 (by omega), hb 5 (by omega), hb 6 (by omega), hb 7 (by omega)] at hs
    rw [← hs, BitVec.toNat_ofNat, Nat.mod_eq_of_lt y.isLt]
  rw [hy, gath]
  obtain ⟨h0, h1, h2, h3, h4, h5, h6, h7⟩ := gath_bits (p 0) (p 1) (p 2) (p 3) (p 4) (p 5) (p 6) (p 7)
  exact lane8 h0 h1 h2 h3 h4 h5 h6 h7
theorem equalM_bit (w : BitVec 64) (b : BitVec 8) (n : Nat) (h : n < 8) : (equalM w b).getLsbD n = (byteAt w n == b) := by
  unfold equalM alike
  refine gathered_bit _ (fun n => byteAt w n == b) (fun m hm => ?_) n h
  rw [byteAt_noughts _ _ hm, byteAt_xor, byteAt_fill _ _ hm]
  by_cases he : byteAt w m = b
  · simp [he]
  · have : byteAt w m ^^^ b ≠ 0#8 := fun h => he (BitVec.xor_eq_zero_iff.1 h)
    simp [he, this]
theorem less_byte : ∀ a : BitVec 8, ((~~~a &&& 128#8 &&& 128#8) ||| (~~~(a ^^^ 128#8) &&& (~~~((a ||| 128#8) - (128#8 &&& 127#8)) &&& 128#8))) = if decide (a.toNat < 128) then 128#8 else 0#8 := by decide +kernel
theorem less_small : ∀ a : BitVec 8, ((128#8 : BitVec 8) &&& 127#8).toNat ≤ (a ||| 128#8).toNat := by decide +kernel
theorem fullM_bit (w : BitVec 64) (n : Nat) (h : n < 8) : (fullM w).getLsbD n = decide ((byteAt w n).toNat < 128) := by
  unfold fullM belowM
  refine gathered_bit _ (fun n => decide ((byteAt w n).toNat < 128)) (fun m hm => ?_) n h
  unfold lessM
  rw [byteAt_or, byteAt_and, byteAt_and, byteAt_and, byteAt_and, byteAt_not _ _ hm, byteAt_not _ _ hm, byteAt_not _ _ hm, byteAt_xor, byteAt_fill _ _ hm, byteAt_tops _ hm,
    byteAt_sub _ _ (fun k hk => by rw [byteAt_and, byteAt_or, byteAt_fill _ _ hk, byteAt_tops _ hk, byteAt_lows _ hk]; exact less_small _) m hm, byteAt_or, byteAt_and, byteAt_fill _ _ hm, byteAt_tops _ hm, byteAt_lows _ hm]
  exact less_byte _
theorem emptyM_bit (w : BitVec 64) (n : Nat) (h : n < 8) : (emptyM w).getLsbD n = (byteAt w n == 128#8) := equalM_bit w _ n h
theorem delM_bit (w : BitVec 64) (n : Nat) (h : n < 8) : (delM w).getLsbD n = (byteAt w n == 254#8) := equalM_bit w _ n h
theorem byteAt_withB (x : BitVec 64) (n m : Nat) (b : BitVec 8) (hn : n < 8) (hm : m < 8) : byteAt (withB x n b) m = if m = n then b else byteAt x m := by
  apply BitVec.eq_of_getLsbD_eq
  intro i hi
  have h255 : ∀ j : Nat, (255#64).getLsbD j = decide (j < 8) := by
    intro j
    by_cases hj : j < 64
    · have : ∀ j, j < 64 → (255#64).getLsbD j = decide (j < 8) := by decide +kernel
      exact this j hj
    · rw [BitVec.getLsbD_of_ge _ _ (by omega)]; simp; omega
  simp only [byteAt, withB, BitVec.getLsbD_setWidth, BitVec.getLsbD_ushiftRight, BitVec.getLsbD_or, BitVec.getLsbD_and, BitVec.getLsbD_not, BitVec.getLsbD_shiftLeft, h255, hi, decide_true, Bool.true_and]
  rcases Nat.lt_trichotomy m n with hlt | rfl | hgt
  · rw [if_neg (by omega)]
    have h1 : 8 * m + i < 8 * n := by omega
    have h2 : 8 * m + i < 64 := by omega
    simp [h1, h2, BitVec.getLsbD_ushiftRight, hi]
  · rw [if_pos rfl]
    have h1 : ¬ 8 * m + i < 8 * m := by omega
    have h2 : 8 * m + i < 64 := by omega
    have h3 : 8 * m + i - 8 * m = i := by omega
    have h4 : i < 64 := by omega
    simp [decide_eq_false h1, h3, hi, h4, h2]
  · rw [if_neg (by omega)]
    have h1 : ¬ 8 * m + i < 8 * n := by omega
    have h2 : 8 * m + i < 64 := by omega
    have h3 : ¬ 8 * m + i - 8 * n < 8 := by omega
    have h4 : b.getLsbD (8 * m + i - 8 * n) = false := BitVec.getLsbD_of_ge _ _ (by omega)
    simp [h1, h2, h3, h4, BitVec.getLsbD_ushiftRight, hi]
theorem ctrlOk_iff (c : BitVec 64) : ctrlOk c = true ↔ ∀ n, n < 8 → (byteAt c n).toNat < 128 ∨ byteAt c n = 128#8 ∨ byteAt c n = 254#8 := by
  unfold ctrlOk
  rw [beq_iff_eq]
  constructor
  · intro h n hn
    have : (fullM c ||| emptyM c ||| delM c).getLsbD n = true := by
      rw [h]; have : ∀ n, n < 8 → (255#8).getLsbD n = true := by decide +kernel
      exact this n hn
    rw [BitVec.getLsbD_or, BitVec.getLsbD_or, fullM_bit c n hn, emptyM_bit c n hn, delM_bit c n hn] at this
    simp only [Bool.or_eq_true, decide_eq_true_eq, beq_iff_eq] at this
    rcases this with (h | h) | h
    · exact .inl h
    · exact .inr (.inl h)
    · exact .inr (.inr h)
  · intro h
    apply BitVec.eq_of_getLsbD_eq
    intro n hn
    rw [BitVec.getLsbD_or, BitVec.getLsbD_or, fullM_bit c n hn, emptyM_bit c n hn, delM_bit c n hn]
    have h255 : ∀ n, n < 8 → (255#8).getLsbD n = true := by decide +kernel
    rw [h255 n hn]
    rcases h n hn with h | h | h <;> simp [h]
end Go.Proofs.Hc
