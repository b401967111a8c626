/- Package ctrl: its words, and what is tried on them. -/
import Derived.Test.YtcikopeddljgkaaGreatKHh
set_option linter.unusedSimpArgs false
set_option linter.unusedVariables false
set_option maxRecDepth 100000
namespace Go.Proofs.Hc
open Go.RowKit
attribute [local go_sem] zbr zby zau zba zbl zay zbk zbm zbu signed64 signed8 zas BitVec.ofInt_add BitVec.ofInt_mul ofInt_sub' zaw zax wide8 eqN neN zbx shr1 shr7 shr56
attribute [local go_sem high] zaz zbt
attribute [local go_sem] zak zdl
attribute [local go_sem] nn2 nm2 nn3 nm3 nn4 nm4 nn5 nm5 nn6 nm6 nn7 nm7 nn8 nm8
attribute [local go_sem] zan zbv zae zal zad zaj
attribute [local go_sem ↓] zab zav zbb zaa
def fullM (c : BitVec 64) : BitVec 8 := belowM c 128#8
def emptyM (c : BitVec 64) : BitVec 8 := equalM c 128#8
def delM (c : BitVec 64) : BitVec 8 := equalM c 254#8
def ctrlOk (c : BitVec 64) : Bool := fullM c ||| emptyM c ||| delM c == 255#8
def M3 (x : BitVec 8 × BitVec 8 × BitVec 8) : Value := .agg #[Y x.1, Y x.2.1, Y x.2.2]
theorem below128 (x : BitVec 64) (w : World) : Calls Tryz.prog 275 #[U x, .int .u8 128] w fun e w' => e = .returned (Y (belowM x 128#8)) ∧ w = w' := below_any x 128#8 w
theorem equal128 (x : BitVec 64) (w : World) : Calls Tryz.prog 264 #[U x, .int .u8 128] w fun e w' => e = .returned (Y (equalM x 128#8)) ∧ w = w' := equal_any x 128#8 w
theorem equal254 (x : BitVec 64) (w : World) : Calls Tryz.prog 264 #[U x, .int .u8 254] w fun e w' => e = .returned (Y (equalM x 254#8)) ∧ w = w' := equal_any x 254#8 w
theorem full_any (c : BitVec 64) (w : World) : Calls Tryz.prog 224 #[U c] w fun e w' => e = .returned (Y (fullM c)) ∧ w = w' := by
  go_enter Tryz.func224, Tryz.ntmps224
  go_wp2_with (go_at_call 275; refine (below128 _ _).mono ?_; rintro e w' ⟨rfl, rfl⟩)
  go_ret
  exact ⟨rfl, rfl⟩
theorem empty_any (c : BitVec 64) (w : World) : Calls Tryz.prog 225 #[U c] w fun e w' => e = .returned (Y (emptyM c)) ∧ w = w' := by
  go_enter Tryz.func225, Tryz.ntmps225
  go_wp2_with (go_at_call 264; refine (equal128 _ _).mono ?_; rintro e w' ⟨rfl, rfl⟩)
  go_ret
  exact ⟨rfl, rfl⟩
theorem del_any (c : BitVec 64) (w : World) : Calls Tryz.prog 226 #[U c] w fun e w' => e = .returned (Y (delM c)) ∧ w = w' := by
  go_enter Tryz.func226, Tryz.ntmps226
  go_wp2_with (go_at_call 264; refine (equal254 _ _).mono ?_; rintro e w' ⟨rfl, rfl⟩)
  go_ret
  exact ⟨rfl, rfl⟩
theorem ccheck_any (c : BitVec 64) (w : World) : Calls Tryz.prog 165 #[U c] w fun e w' => e = .returned (I (if ctrlOk c then 0 else 190)) ∧ w = w' := by
  cases hc : ctrlOk c
  all_goals
    have h255 : (N (fullM c ||| emptyM c ||| delM c) != 255) = !ctrlOk c := by
      unfold ctrlOk; rw [show (255 : Int) = N (255#8) from rfl, neN]; rfl
    rw [hc] at h255
    go_enter Tryz.func165, Tryz.ntmps165
    go_wp2_with (first
      | (go_at_call 224; refine (full_any _ _).mono ?_; rintro e w' ⟨rfl, rfl⟩)
      | (go_at_call 225; refine (empty_any _ _).mono ?_; rintro e w' ⟨rfl, rfl⟩)
      | (go_at_call 226; refine (del_any _ _).mono ?_; rintro e w' ⟨rfl, rfl⟩))
    go_ret
    exact ⟨rfl, rfl⟩
theorem cneed_yes (c : Int) (w : World) :
    Calls Tryz.prog 263 #[.bool true, I c] w fun e w' => e = .returned (.tuple #[]) ∧ w = w' := by
  go_enter Tryz.func263, Tryz.ntmps263
  go_wp2
  go_end0
  exact ⟨rfl, rfl⟩
theorem cneed_no (c : Int) (w : World) :
    Calls Tryz.prog 263 #[.bool false, I c] w fun e w' => e = .panicked [{ v := .iface 32 (I c), recovered := false }] ∧ w = w' := by
  go_enter Tryz.func263, Tryz.ntmps263
  go_wp2
  exact ⟨rfl, rfl, rfl⟩
theorem ccatch_idlew (p q : Nat) (w : World) :
    CallsD Tryz.prog 269 #[.pointer (some ⟨p, 0, none⟩), .pointer (some ⟨q, 0, none⟩)] .returning w fun e u' w' => e = .returned (.tuple #[]) ∧ u' = .returning ∧ w = w' := by
  refine callsD_of_wpS Tryz.func269 rfl fun c₀ cs hu => ?_
  simp only [Tryz.ntmps269, List.size_toArray, List.length_cons, List.length_nil, Nat.reduceAdd, Nat.reduceSub, Array.replicate_succ, Array.replicate_zero, List.push_toArray, List.append_toArray, List.nil_append, List.cons_append]
  apply wpS_seq
  apply wpS_region
  simp [wpOpsS, go_sem, recoverD, hu, Exit.thenS]
  refine wpS_of_wp ?_
  go_wp2_with fail
  exact ⟨rfl, .returning, by cases c₀; simp_all, _, results_none rfl _ _ _, rfl, rfl, rfl⟩
theorem ccatch_panicw (p q : Nat) (c : Int) (c1 : Value) (c2 : Value) (w : World)
    (hp : w.heap[p]? = some (.cells #[c1] 22 (0, 0))) (hq : w.heap[q]? = some (.cells #[c2] 32 (0, 0))) (hpq : (p = q) = False) :
    CallsD Tryz.prog 269 #[.pointer (some ⟨p, 0, none⟩), .pointer (some ⟨q, 0, none⟩)] (.panicking [{ v := .iface 32 (I c), recovered := false }]) w fun e u' w' =>
      e = .returned (.tuple #[]) ∧ u' = .panicking [{ v := .iface 32 (I c), recovered := true }] ∧ Ch [p, q] w w' ∧
      w'.heap[p]? = some (.cells #[U 0#64] 22 (0, 0)) ∧ w'.heap[q]? = some (.cells #[I c] 32 (0, 0)) := by
  have hp1 : (p = w.heap.size) = False := by have := (Array.getElem?_eq_some_iff.1 hp).1; simp; omega
  have hq1 : (q = w.heap.size) = False := by have := (Array.getElem?_eq_some_iff.1 hq).1; simp; omega
  have hqp : (q = p) = False := by simpa [eq_comm] using hpq
  refine callsD_of_wpS Tryz.func269 rfl fun c₀ cs hu => ?_
  simp only [Tryz.ntmps269, List.size_toArray, List.length_cons, List.length_nil, Nat.reduceAdd, Nat.reduceSub, Array.replicate_succ, Array.replicate_zero, List.push_toArray, List.append_toArray, List.nil_append, List.cons_append]
  apply wpS_seq
  apply wpS_region
  simp [wpOpsS, go_sem, recoverD, hu, Exit.thenS]
  refine wpS_of_wp ?_
  go_wp2_with fail
  refine ⟨rfl, _, rfl, _, results_none rfl _ _ _, rfl, rfl, ?_, ?_, ?_⟩
  · exact ((Ch.refl [p, q] w).setCell (p := ⟨p, 0, none⟩) (.inl (by simp)) _).setCell (p := ⟨q, 0, none⟩) (.inl (by simp)) _
  · simp only [zaa, hpq, hp, if_false, if_true, Option.map_some, zad]
    rfl
  · simp only [zaa, hqp, hq, if_false, if_true, Option.map_some, zad]
    rfl
theorem cresultsw (tmps : Array Value) (p q : Nat) (w : World) (v : Value) (c : Int) (hp : tmps.getD 4 undef = .pointer (some ⟨p, 0, none⟩)) (hq : tmps.getD 5 undef = .pointer (some ⟨q, 0, none⟩))
    (h1 : w.heap[p]? = some (.cells #[v] 22 (0, 0))) (h2 : w.heap[q]? = some (.cells #[I c] 32 (0, 0))) :
    (results Tryz.f212 tmps).run Tryz.prog w = .ok (.tuple #[v, I c]) w := by
  exact results_cell2 Tryz.results212 tmps _ _ w hp hq (load_one Tryz.underlying22 rfl p w h1) (load_one Tryz.underlying32 rfl q w h2)
theorem ctriesw_any (c : BitVec 64) (df : Nat) (cap : Array Value) (r : Except Int (BitVec 64)) (w : World)
    (hdf : ∀ args w, (callFunc df args).run Tryz.prog w = .ok (.enter df args) w)
    (hdoes : ctrlOk c = true → ∀ b w1, w1.heap[b]? = some (.cells #[U c] 299 (0, 0)) → Ch [] w w1 → w.heap.size ≤ b →
      Calls Tryz.prog df (#[.pointer (some ⟨b, 0, none⟩)] ++ cap) w1 fun e w2 => e = retOr U r ∧ Ch [b] w1 w2) :
    Calls Tryz.prog 212 #[U c, .func (.func df) #[] cap] w fun e w' =>
      e = .returned (tupOr U (U 0#64) (if ctrlOk c then r else .error 190)) ∧ Ch [] w w' := by
  cases hm : ctrlOk c with
  | false =>
    have hm1 := ccheck_any c
    rw [hm] at hm1
    clear hdoes hm
    simp only [if_false, Bool.false_eq_true] at hm1 ⊢
    go_enter_defers Tryz.func212, Tryz.ntmps212
    go_wp2_with (first
      | (go_at_call 165; refine (hm1 _).mono ?_; rintro e w' ⟨rfl, rfl⟩)
      | (go_at_call 263; refine (cneed_no _ _).mono ?_; rintro e w' ⟨rfl, rfl⟩))
    refine leaves_cons (f := 269) (args := #[.pointer (some ⟨w.heap.size, 0, none⟩), .pointer (some ⟨w.heap.size + 1, 0, none⟩)]) (by simp) (by simp [go_sem]) ?_
    refine (ccatch_panicw _ _ _ (U 0#64) (I 0) _ ?_ ?_ ?_).mono ?_
    · simp [go_sem]; rfl
    · simp [go_sem]
    · simp
    rintro e u' w2 ⟨rfl, rfl, hc2, h1, h2⟩
    refine ⟨_, cresultsw _ _ _ _ _ _ rfl rfl h1 h2, rfl, ?_⟩
    exact (((Ch.refl [] w).alloc _).alloc _).trans2 hc2 (by simp <;> omega)
  | true =>
    have hm1 := ccheck_any c
    rw [hm] at hm1
    have hdoes := hdoes hm
    clear hm
    simp only [if_true] at hm1 ⊢
    cases r with
    | ok v =>
      go_enter_defers Tryz.func212, Tryz.ntmps212
      go_wp2_with (first
        | (go_at_call 165; refine (hm1 _).mono ?_; rintro e w' ⟨rfl, rfl⟩)
        | (go_at_call 263; refine (cneed_yes _ _).mono ?_; rintro e w' ⟨rfl, rfl⟩))
      refine (hdoes _ _ (by simp [go_sem]) ((((Ch.refl [] w).alloc _).alloc _).alloc _) (by omega)).mono ?_
      rintro e w2 ⟨rfl, hc2⟩
      have hz2 := hc2.size
      simp only [World.size_alloc] at hz2
      have h6 : w2.heap[w.heap.size]? = some (.cells #[U 0#64] 22 (0, 0)) := (hc2.block _ (by simp <;> omega) (by simp <;> omega)).trans (by simp [go_sem]; rfl)
      have h7 : w2.heap[w.heap.size + 1]? = some (.cells #[I 0] 32 (0, 0)) := (hc2.block _ (by simp <;> omega) (by simp <;> omega)).trans (by simp [go_sem])
      simp only [retOr]
      go_wp2
      refine leaves_cons (f := 269) (args := #[.pointer (some ⟨w.heap.size, 0, none⟩), .pointer (some ⟨w.heap.size + 1, 0, none⟩)]) (by simp) (by simp [go_sem]) ?_
      refine (ccatch_idlew _ _ _).mono ?_
      rintro e u' w3 ⟨rfl, rfl, rfl⟩
      have n67 : (w.heap.size = w.heap.size + 1) = False := by simp
      have n76 : (w.heap.size + 1 = w.heap.size) = False := by simp
      refine ⟨_, cresultsw _ _ _ _ _ _ rfl rfl ?g6 ?g7, rfl, ?gc⟩
      case g6 =>
        simp only [zaa, h6, n67, if_false, if_true, Option.map_some, zad]
        rfl
      case g7 =>
        simp only [zaa, h7, n76, if_false, if_true, Option.map_some, zad]
        rfl
      case gc =>
        exact (((((((Ch.refl [] w).alloc _).alloc _).alloc _).trans2 hc2 (by simp <;> omega)).setCell (p := ⟨w.heap.size, 0, none⟩) (.inr (by simp)) _)).setCell (p := ⟨w.heap.size + 1, 0, none⟩) (.inr (by simp <;> omega)) _
    | error er =>
      go_enter_defers Tryz.func212, Tryz.ntmps212
      go_wp2_with (first
        | (go_at_call 165; refine (hm1 _).mono ?_; rintro e w' ⟨rfl, rfl⟩)
        | (go_at_call 263; refine (cneed_yes _ _).mono ?_; rintro e w' ⟨rfl, rfl⟩))
      refine (hdoes _ _ (by simp [go_sem]) ((((Ch.refl [] w).alloc _).alloc _).alloc _) (by omega)).mono ?_
      rintro e w2 ⟨rfl, hc2⟩
      have h6 : w2.heap[w.heap.size]? = some (.cells #[U 0#64] 22 (0, 0)) := (hc2.block _ (by simp <;> omega) (by simp <;> omega)).trans (by simp [go_sem]; rfl)
      have h7 : w2.heap[w.heap.size + 1]? = some (.cells #[I 0] 32 (0, 0)) := (hc2.block _ (by simp <;> omega) (by simp <;> omega)).trans (by simp [go_sem])
      simp only [retOr]
      refine leaves_cons (f := 269) (args := #[.pointer (some ⟨w.heap.size, 0, none⟩), .pointer (some ⟨w.heap.size + 1, 0, none⟩)]) (by simp) (by simp [go_sem]) ?_
      refine (ccatch_panicw _ _ _ _ (I 0) _ h6 h7 (by simp)).mono ?_
      rintro e u' w3 ⟨rfl, rfl, hc3, h1, h2⟩
      refine ⟨_, cresultsw _ _ _ _ _ _ rfl rfl h1 h2, rfl, ?_⟩
      exact (((((Ch.refl [] w).alloc _).alloc _).alloc _).trans2 hc2 (by simp <;> omega)).trans2 hc3 (by simp <;> omega)
theorem ctriesw_ok (c : BitVec 64) (hok : ctrlOk c = true) (df : Nat) (cap : Array Value) (r : Except Int (BitVec 64)) (w : World)
    (hdf : ∀ args w, (callFunc df args).run Tryz.prog w = .ok (.enter df args) w)
    (hdoes : ∀ b w1, w1.heap[b]? = some (.cells #[U c] 299 (0, 0)) → Ch [] w w1 → w.heap.size ≤ b →
      Calls Tryz.prog df (#[.pointer (some ⟨b, 0, none⟩)] ++ cap) w1 fun e w2 => e = retOr U r ∧ Ch [b] w1 w2) :
    Calls Tryz.prog 212 #[U c, .func (.func df) #[] cap] w fun e w' => e = .returned (tupOr U (U 0#64) r) ∧ Ch [] w w' := by
  have h := ctriesw_any c df cap r w hdf (fun _ => hdoes)
  rw [if_pos hok] at h
  exact h
theorem ccatch_idles (p q : Nat) (w : World) :
    CallsD Tryz.prog 276 #[.pointer (some ⟨p, 0, none⟩), .pointer (some ⟨q, 0, none⟩)] .returning w fun e u' w' => e = .returned (.tuple #[]) ∧ u' = .returning ∧ w = w' := by
  refine callsD_of_wpS Tryz.func276 rfl fun c₀ cs hu => ?_
  simp only [Tryz.ntmps276, List.size_toArray, List.length_cons, List.length_nil, Nat.reduceAdd, Nat.reduceSub, Array.replicate_succ, Array.replicate_zero, List.push_toArray, List.append_toArray, List.nil_append, List.cons_append]
  apply wpS_seq
  apply wpS_region
  simp [wpOpsS, go_sem, recoverD, hu, Exit.thenS]
  refine wpS_of_wp ?_
  go_wp2_with fail
  exact ⟨rfl, .returning, by cases c₀; simp_all, _, results_none rfl _ _ _, rfl, rfl, rfl⟩
theorem ccatch_panics (p q : Nat) (c : Int) (c1 c3 c4 : Value) (c2 : Value) (w : World)
    (hp : w.heap[p]? = some (.cells #[c1, c3, c4] 307 (0, 0))) (hq : w.heap[q]? = some (.cells #[c2] 32 (0, 0))) (hpq : (p = q) = False) :
    CallsD Tryz.prog 276 #[.pointer (some ⟨p, 0, none⟩), .pointer (some ⟨q, 0, none⟩)] (.panicking [{ v := .iface 32 (I c), recovered := false }]) w fun e u' w' =>
      e = .returned (.tuple #[]) ∧ u' = .panicking [{ v := .iface 32 (I c), recovered := true }] ∧ Ch [p, q] w w' ∧
      w'.heap[p]? = some (.cells #[Y 0#8, Y 0#8, Y 0#8] 307 (0, 0)) ∧ w'.heap[q]? = some (.cells #[I c] 32 (0, 0)) := by
  have hp1 : (p = w.heap.size) = False := by have := (Array.getElem?_eq_some_iff.1 hp).1; simp; omega
  have hq1 : (q = w.heap.size) = False := by have := (Array.getElem?_eq_some_iff.1 hq).1; simp; omega
  have hqp : (q = p) = False := by simpa [eq_comm] using hpq
  refine callsD_of_wpS Tryz.func276 rfl fun c₀ cs hu => ?_
  simp only [Tryz.ntmps276, List.size_toArray, List.length_cons, List.length_nil, Nat.reduceAdd, Nat.reduceSub, Array.replicate_succ, Array.replicate_zero, List.push_toArray, List.append_toArray, List.nil_append, List.cons_append]
  apply wpS_seq
  apply wpS_region
  simp [wpOpsS, go_sem, recoverD, hu, Exit.thenS]
  refine wpS_of_wp ?_
  go_wp2_with fail
  refine ⟨rfl, _, rfl, _, results_none rfl _ _ _, rfl, rfl, ?_, ?_, ?_⟩
  · exact (((((Ch.refl [p, q] w).alloc _).setCell (p := ⟨p, 0, none⟩) (.inl (by simp)) _).setCell (p := ⟨p, 1, none⟩) (.inl (by simp)) _).setCell (p := ⟨p, 2, none⟩) (.inl (by simp)) _).setCell (p := ⟨q, 0, none⟩) (.inl (by simp)) _
  · simp only [zaa, zab, hp1, hpq, hp, if_false, if_true, Option.map_some, zad]
    rfl
  · simp only [zaa, zab, hq1, hqp, hq, if_false, if_true, Option.map_some, zad]
    rfl
theorem cresultss (tmps : Array Value) (p q : Nat) (w : World) (vs : Array Value) (c : Int) (hp : tmps.getD 4 undef = .pointer (some ⟨p, 0, none⟩)) (hq : tmps.getD 5 undef = .pointer (some ⟨q, 0, none⟩))
    (h1 : w.heap[p]? = some (.cells vs 307 (0, 0))) (hs : vs.size = 3) (h2 : w.heap[q]? = some (.cells #[I c] 32 (0, 0))) :
    (results Tryz.f227 tmps).run Tryz.prog w = .ok (.tuple #[.agg vs, I c]) w := by
  exact results_cell2 Tryz.results227 tmps _ _ w hp hq (run_loadVar_row w p _ _ vs _ _ h1 Tryz.underlying307 rfl (by rw [hs]; kernel_rfl)) (load_one Tryz.underlying32 rfl q w h2)
theorem ctriess_any (c : BitVec 64) (df : Nat) (cap : Array Value) (r : Except Int (BitVec 8 × BitVec 8 × BitVec 8)) (w : World)
    (hdf : ∀ args w, (callFunc df args).run Tryz.prog w = .ok (.enter df args) w)
    (hdoes : ctrlOk c = true → ∀ b w1, w1.heap[b]? = some (.cells #[U c] 299 (0, 0)) → Ch [] w w1 → w.heap.size ≤ b →
      Calls Tryz.prog df (#[.pointer (some ⟨b, 0, none⟩)] ++ cap) w1 fun e w2 => e = retOr M3 r ∧ Ch [b] w1 w2) :
    Calls Tryz.prog 227 #[U c, .func (.func df) #[] cap] w fun e w' =>
      e = .returned (tupOr M3 (.agg #[Y 0#8, Y 0#8, Y 0#8]) (if ctrlOk c then r else .error 190)) ∧ Ch [] w w' := by
  cases hm : ctrlOk c with
  | false =>
    have hm1 := ccheck_any c
    rw [hm] at hm1
    clear hdoes hm
    simp only [if_false, Bool.false_eq_true] at hm1 ⊢
    go_enter_defers Tryz.func227, Tryz.ntmps227
    go_wp2_with (first
      | (go_at_call 165; refine (hm1 _).mono ?_; rintro e w' ⟨rfl, rfl⟩)
      | (go_at_call 263; refine (cneed_no _ _).mono ?_; rintro e w' ⟨rfl, rfl⟩))
    refine leaves_cons (f := 276) (args := #[.pointer (some ⟨w.heap.size, 0, none⟩), .pointer (some ⟨w.heap.size + 1, 0, none⟩)]) (by simp) (by simp [go_sem]) ?_
    refine (ccatch_panics _ _ _ (Y 0#8) (Y 0#8) (Y 0#8) (I 0) _ ?_ ?_ ?_).mono ?_
    · simp [go_sem]; rfl
    · simp [go_sem]
    · simp
    rintro e u' w2 ⟨rfl, rfl, hc2, h1, h2⟩
    refine ⟨_, cresultss _ _ _ _ _ _ rfl rfl h1 rfl h2, rfl, ?_⟩
    exact (((Ch.refl [] w).alloc _).alloc _).trans2 hc2 (by simp <;> omega)
  | true =>
    have hm1 := ccheck_any c
    rw [hm] at hm1
    have hdoes := hdoes hm
    clear hm
    simp only [if_true] at hm1 ⊢
    cases r with
    | ok v =>
      go_enter_defers Tryz.func227, Tryz.ntmps227
      go_wp2_with (first
        | (go_at_call 165; refine (hm1 _).mono ?_; rintro e w' ⟨rfl, rfl⟩)
        | (go_at_call 263; refine (cneed_yes _ _).mono ?_; rintro e w' ⟨rfl, rfl⟩))
      refine (hdoes _ _ (by simp [go_sem]) ((((Ch.refl [] w).alloc _).alloc _).alloc _) (by omega)).mono ?_
      rintro e w2 ⟨rfl, hc2⟩
      have hz2 := hc2.size
      simp only [World.size_alloc] at hz2
      have h6 : w2.heap[w.heap.size]? = some (.cells #[Y 0#8, Y 0#8, Y 0#8] 307 (0, 0)) := (hc2.block _ (by simp <;> omega) (by simp <;> omega)).trans (by simp [go_sem]; rfl)
      have h7 : w2.heap[w.heap.size + 1]? = some (.cells #[I 0] 32 (0, 0)) := (hc2.block _ (by simp <;> omega) (by simp <;> omega)).trans (by simp [go_sem])
      simp only [retOr, M3]
      go_wp2
      refine leaves_cons (f := 276) (args := #[.pointer (some ⟨w.heap.size, 0, none⟩), .pointer (some ⟨w.heap.size + 1, 0, none⟩)]) (by simp) (by simp [go_sem]) ?_
      refine (ccatch_idles _ _ _).mono ?_
      rintro e u' w3 ⟨rfl, rfl, rfl⟩
      have n67 : (w.heap.size = w.heap.size + 1) = False := by simp
      have n76 : (w.heap.size + 1 = w.heap.size) = False := by simp
      refine ⟨_, cresultss _ _ _ _ _ _ rfl rfl ?g6 ?gs ?g7, rfl, ?gc⟩
      case g6 =>
        simp only [zaa, h6, n67, if_false, if_true, Option.map_some, zad]
        rfl
      case g7 =>
        simp only [zaa, h7, n76, if_false, if_true, Option.map_some, zad]
        rfl
      case gs => rfl
      case gc =>
        exact (((((((((Ch.refl [] w).alloc _).alloc _).alloc _).trans2 hc2 (by simp <;> omega)).setCell (p := ⟨w.heap.size, 0, none⟩) (.inr (by simp)) _).setCell (p := ⟨w.heap.size, 1, none⟩) (.inr (by simp)) _).setCell (p := ⟨w.heap.size, 2, none⟩) (.inr (by simp)) _)).setCell (p := ⟨w.heap.size + 1, 0, none⟩) (.inr (by simp <;> omega)) _
    | error er =>
      go_enter_defers Tryz.func227, Tryz.ntmps227
      go_wp2_with (first
        | (go_at_call 165; refine (hm1 _).mono ?_; rintro e w' ⟨rfl, rfl⟩)
        | (go_at_call 263; refine (cneed_yes _ _).mono ?_; rintro e w' ⟨rfl, rfl⟩))
      refine (hdoes _ _ (by simp [go_sem]) ((((Ch.refl [] w).alloc _).alloc _).alloc _) (by omega)).mono ?_
      rintro e w2 ⟨rfl, hc2⟩
      have h6 : w2.heap[w.heap.size]? = some (.cells #[Y 0#8, Y 0#8, Y 0#8] 307 (0, 0)) := (hc2.block _ (by simp <;> omega) (by simp <;> omega)).trans (by simp [go_sem]; rfl)
      have h7 : w2.heap[w.heap.size + 1]? = some (.cells #[I 0] 32 (0, 0)) := (hc2.block _ (by simp <;> omega) (by simp <;> omega)).trans (by simp [go_sem])
      simp only [retOr]
      refine leaves_cons (f := 276) (args := #[.pointer (some ⟨w.heap.size, 0, none⟩), .pointer (some ⟨w.heap.size + 1, 0, none⟩)]) (by simp) (by simp [go_sem]) ?_
      refine (ccatch_panics _ _ _ _ _ _ (I 0) _ h6 h7 (by simp)).mono ?_
      rintro e u' w3 ⟨rfl, rfl, hc3, h1, h2⟩
      refine ⟨_, cresultss _ _ _ _ _ _ rfl rfl h1 rfl h2, rfl, ?_⟩
      exact (((((Ch.refl [] w).alloc _).alloc _).alloc _).trans2 hc2 (by simp <;> omega)).trans2 hc3 (by simp <;> omega)
theorem ctriess_ok (c : BitVec 64) (hok : ctrlOk c = true) (df : Nat) (cap : Array Value) (r : Except Int (BitVec 8 × BitVec 8 × BitVec 8)) (w : World)
    (hdf : ∀ args w, (callFunc df args).run Tryz.prog w = .ok (.enter df args) w)
    (hdoes : ∀ b w1, w1.heap[b]? = some (.cells #[U c] 299 (0, 0)) → Ch [] w w1 → w.heap.size ≤ b →
      Calls Tryz.prog df (#[.pointer (some ⟨b, 0, none⟩)] ++ cap) w1 fun e w2 => e = retOr M3 r ∧ Ch [b] w1 w2) :
    Calls Tryz.prog 227 #[U c, .func (.func df) #[] cap] w fun e w' => e = .returned (tupOr M3 (.agg #[Y 0#8, Y 0#8, Y 0#8]) r) ∧ Ch [] w w' := by
  have h := ctriess_any c df cap r w hdf (fun _ => hdoes)
  rw [if_pos hok] at h
  exact h
end Go.Proofs.Hc
