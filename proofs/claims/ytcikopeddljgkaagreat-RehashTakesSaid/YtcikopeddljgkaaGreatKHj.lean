/- Package ctrl: its words, and what is tried on them. -/
import Derived.Test.YtcikopeddljgkaaGreatKHxi
set_option linter.unusedSimpArgs false
set_option linter.unusedVariables false
set_option maxRecDepth 100000
namespace Go.Proofs.Hc
open Go.RowKit
attribute [local go_sem] zbs zca zax zbc zbn zba zbm zbo zbu signed64 signed8 zar BitVec.ofInt_add BitVec.ofInt_mul ofInt_sub' zay zaz wide8 eqN neN zbz shr1 shr7 shr56
attribute [local go_sem high] zbb zbt
attribute [local go_sem] zap zcj
attribute [local go_sem] nn2 nm2 nn3 nm3 nn4 nm4 nn5 nm5 nn6 nm6 nn7 nm7 nn8 nm8
attribute [local go_sem] zag zbw zah zas zad zan
attribute [local go_sem ↓] zac zaw zbg zaa
def fullM (c : BitVec 64) : BitVec 8 := belowM c 128#8
def emptyM (c : BitVec 64) : BitVec 8 := equalM c 128#8
def delM (c : BitVec 64) : BitVec 8 := equalM c 254#8
def ctrlOk (c : BitVec 64) : Bool := fullM c ||| emptyM c ||| delM c == 255#8
def M3 (x : BitVec 8 × BitVec 8 × BitVec 8) : Value := .agg #[Y x.1, Y x.2.1, Y x.2.2]
theorem below128 (x : BitVec 64) (w : World) : Calls Tryz.prog 275 #[U x, .int .u8 128] w fun e w' => e = .returned (Y (belowM x 128#8)) ∧ w = w' := below_any x 128#8 w
theorem equal128 (x : BitVec 64) (w : World) : Calls Tryz.prog 264 #[U x, .int .u8 128] w fun e w' => e = .returned (Y (equalM x 128#8)) ∧ w = w' := equal_any x 128#8 w
theorem equal254 (x : BitVec 64) (w : World) : Calls Tryz.prog 264 #[U x, .int .u8 254] w fun e w' => e = .returned (Y (equalM x 254#8)) ∧ w = w' := equal_any x 254#8 w
theorem full_any (c : BitVec 64) (w : World) : Calls Tryz.prog 224 #[U c] w fun e w' => e = .returned (Y (fullM c)) ∧ w = w' := by
  go_enter Tryz.func224, Tryz.ntmps224
  go_wp2_with (go_at_call 275; refine (below128 _ _).mono ?_; rintro e w' ⟨rfl, rfl⟩)
  go_ret
  exact ⟨rfl, rfl⟩
theorem empty_any (c : BitVec 64) (w : World) : Calls Tryz.prog 225 #[U c] w fun e w' => e = .returned (Y (emptyM c)) ∧ w = w' := by
  go_enter Tryz.func225, Tryz.ntmps225
  go_wp2_with (go_at_call 264; refine (equal128 _ _).mono ?_; rintro e w' ⟨rfl, rfl⟩)
  go_ret
  exact ⟨rfl, rfl⟩
theorem del_any (c : BitVec 64) (w : World) : Calls Tryz.prog 226 #[U c] w fun e w' => e = .returned (Y (delM c)) ∧ w = w' := by
  go_enter Tryz.func226, Tryz.ntmps226
  go_wp2_with (go_at_call 264; refine (equal254 _ _).mono ?_; rintro e w' ⟨rfl, rfl⟩)
  go_ret
  exact ⟨rfl, rfl⟩
theorem ccheck_any (c : BitVec 64) (w : World) : Calls Tryz.prog 165 #[U c] w fun e w' => e = .returned (I (if ctrlOk c then 0 else 190)) ∧ w = w' := by
  cases hc : ctrlOk c
  all_goals
    have h255 : (N (fullM c ||| emptyM c ||| delM c) != 255) = !ctrlOk c := by
      unfold ctrlOk; rw [show (255 : Int) = N (255#8) from rfl, neN]; rfl
    rw [hc] at h255
    go_enter Tryz.func165, Tryz.ntmps165
    go_wp2_with (first
      | (go_at_call 224; refine (full_any _ _).mono ?_; rintro e w' ⟨rfl, rfl⟩)
      | (go_at_call 225; refine (empty_any _ _).mono ?_; rintro e w' ⟨rfl, rfl⟩)
      | (go_at_call 226; refine (del_any _ _).mono ?_; rintro e w' ⟨rfl, rfl⟩))
    go_ret
    exact ⟨rfl, rfl⟩
theorem cneed_yes (c : Int) (w : World) :
    Calls Tryz.prog 263 #[.bool true, I c] w fun e w' => e = .returned (.tuple #[]) ∧ w = w' := by
  go_enter Tryz.func263, Tryz.ntmps263
  go_wp2
  go_end0
  exact ⟨rfl, rfl⟩
theorem cneed_no (c : Int) (w : World) :
    Calls Tryz.prog 263 #[.bool false, I c] w fun e w' => e = .panicked [{ v := .iface 32 (I c), recovered := false }] ∧ w = w' := by
  go_enter Tryz.func263, Tryz.ntmps263
  go_wp2
  exact ⟨rfl, rfl, rfl⟩
theorem ccatch_idlew (p q : Nat) (w : World) :
    CallsD Tryz.prog 269 #[.pointer (some ⟨p, 0, none⟩), .pointer (some ⟨q, 0, none⟩)] .returning w fun e u' w' => e = .returned (.tuple #[]) ∧ u' = .returning ∧ w = w' := by
  refine callsD_of_wpS Tryz.func269 rfl fun c₀ cs hu => ?_
  simp only [Tryz.ntmps269, List.size_toArray, List.length_cons, List.length_nil, Nat.reduceAdd, Nat.reduceSub, Array.replicate_succ, Array.replicate_zero, List.push_toArray, List.append_toArray, List.nil_append, List.cons_append]
  apply wpS_seq
  apply wpS_region
  simp [wpOpsS, go_sem, recoverD, hu, Exit.thenS]
  refine wpS_of_wp ?_
  go_wp2_with fail
  exact ⟨rfl, .returning, by cases c₀; simp_all, _, results_none rfl _ _ _, rfl, rfl, rfl⟩
theorem ccatch_panicw (p q : Nat) (c : Int) (c1 : Value) (c2 : Value) (w : World)
    (hp : w.heap[p]? = some (.cells #[c1] 22 (0, 0))) (hq : w.heap[q]? = some (.cells #[c2] 32 (0, 0))) (hpq : (p = q) = False) :
    CallsD Tryz.prog 269 #[.pointer (some ⟨p, 0, none⟩), .pointer (some ⟨q, 0, none⟩)] (.panicking [{ v := .iface 32 (I c), recovered := false }]) w fun e u' w' =>
      e = .returned (.tuple #[]) ∧ u' = .panicking [{ v := .iface 32 (I c), recovered := true }] ∧ Ch [p, q] w w' ∧
      w'.heap[p]? = some (.cells #[U 0#64] 22 (0, 0)) ∧ w'.heap[q]? = some (.cells #[I c] 32 (0, 0)) := by
  have hp1 : (p = w.heap.size) = False := by have := (Array.getElem?_eq_some_iff.1 hp).1; simp; omega
  have hq1 : (q = w.heap.size) = False := by have := (Array.getElem?_eq_some_iff.1 hq).1; simp; omega
  have hqp : (q = p) = False := by simpa [eq_comm] using hpq
  refine callsD_of_wpS Tryz.func269 rfl fun c₀ cs hu => ?_
  simp only [Tryz.ntmps269, List.size_toArray, List.length_cons, List.length_nil, Nat.reduceAdd, Nat.reduceSub, Array.replicate_succ, Array.replicate_zero, List.push_toArray, List.append_toArray, List.nil_append, List.cons_append]
  apply wpS_seq
  apply wpS_region
  simp [wpOpsS, go_sem, recoverD, hu, Exit.thenS]
  refine wpS_of_wp ?_
  go_wp2_with fail
  refine ⟨rfl, _, rfl, _, results_none rfl _ _ _, rfl, rfl, ?_, ?_, ?_⟩
  · exact ((Ch.refl [p, q] w).setCell (p := ⟨p, 0, none⟩) (.inl (by simp)) _).setCell (p := ⟨q, 0, none⟩) (.inl (by simp)) _
  · simp only [zaa, hpq, hp, if_false, if_true, Option.map_some, zad]
    rfl
  · simp only [zaa, hqp, hq, if_false, if_true, Option.map_some, zad]
    rfl
theorem cresultsw (tmps : Array Value) (p q : Nat) (w : World) (v : Value) (c : Int) (hp : tmps.getD 4 undef = .pointer (some ⟨p, 0, none⟩)) (hq : tmps.getD 5 undef = .pointer (some ⟨q, 0, none⟩))
    (h1 : w.heap[p]? = some (.cells #[v] 22 (0, 0))) (h2 : w.heap[q]? = some (.cells #[I c] 32 (0, 0))) :
    (results Tryz.f212 tmps).run Tryz.prog w = .ok (.tuple #[v, I c]) w := by
  exact results_cell2 Tryz.results212 tmps _ _ w hp hq (zde Tryz.underlying22 rfl p w h1) (zde Tryz.underlying32 rfl q w h2)
theorem ctriesw_any (c : BitVec 64) (df : Nat) (cap : Array Value) (r : Except Int (BitVec 64)) (w : World)
    (hdf : ∀ args w, (callFunc df args).run Tryz.prog w = .ok (.enter df args) w)
    (hdoes : ctrlOk c = true → ∀ b w1, w1.heap[b]? = some (.cells #[U c] 299 (0, 0)) → Ch [] w w1 → w.heap.size ≤ b →
      Calls Tryz.prog df (#[.pointer (some ⟨b, 0, none⟩)] ++ cap) w1 fun e w2 => e = retOr U r ∧ Ch [b] w1 w2) :
    Calls Tryz.prog 212 #[U c, .func (.func df) #[] cap] w fun e w' =>
      e = .returned (tupOr U (U 0#64) (if ctrlOk c then r else .error 190)) ∧ Ch [] w w' := by
  cases hm : ctrlOk c with
  | false =>
    have hm1 := ccheck_any c
    rw [hm] at hm1
    clear hdoes hm
    simp only [if_false, Bool.false_eq_true] at hm1 ⊢
    go_enter_defers Tryz.func212, Tryz.ntmps212
    go_wp2_with (first
      | (go_at_call 165; refine (hm1 _).mono ?_; rintro e w' ⟨rfl, rfl⟩)
      | (go_at_call 263; refine (cneed_no _ _).mono ?_; rintro e w' ⟨rfl, rfl⟩))
    refine leaves_cons (f := 269) (args := #[.pointer (some ⟨w.heap.size, 0, none⟩), .pointer (some ⟨w.heap.size + 1, 0, none⟩)]) (by simp) (by simp [go_sem]) ?_
    refine (ccatch_panicw _ _ _ (U 0#64) (I 0) _ ?_ ?_ ?_).mono ?_
    · simp [go_sem]; rfl
    · simp [go_sem]
    · simp
    rintro e u' w2 ⟨rfl, rfl, hc2, h1, h2⟩
    refine ⟨_, cresultsw _ _ _ _ _ _ rfl rfl h1 h2, rfl, ?_⟩
    exact (((Ch.refl [] w).alloc _).alloc _).trans2 hc2 (by simp <;> omega)
  | true =>
    have hm1 := ccheck_any c
    rw [hm] at hm1
    have hdoes := hdoes hm
    clear hm
    simp only [if_true] at hm1 ⊢
    cases r with
    | ok v =>
      go_enter_defers Tryz.func212, Tryz.ntmps212
      go_wp2_with (first
        | (go_at_call 165; refine (hm1 _).mono ?_; rintro e w' ⟨rfl, rfl⟩)
        | (go_at_call 263; refine (cneed_yes _ _).mono ?_; rintro e w' ⟨rfl, rfl⟩))
      refine (hdoes _ _ (by simp [go_sem]) ((((Ch.refl [] w).alloc _).alloc _).alloc _) (by omega)).mono ?_
      rintro e w2 ⟨rfl, hc2⟩
      have hz2 := hc2.size
      simp only [World.size_alloc] at hz2
      have h6 : w2.heap[w.heap.size]? = some (.cells #[U 0#64] 22 (0, 0)) := (hc2.block _ (by simp <;> omega) (by simp <;> omega)).trans (by simp [go_sem]; rfl)
      have h7 : w2.heap[w.heap.size + 1]? = some (.cells #[I 0] 32 (0, 0)) := (hc2.block _ (by simp <;> omega) (by simp <;> omega)).trans (by simp [go_sem])
      simp only [retOr]
      go_wp2
      refine leaves_cons (f := 269) (args := #[.pointer (some ⟨w.heap.size, 0, none⟩), .pointer (some ⟨w.heap.size + 1, 0, none⟩)]) (by simp) (by simp [go_sem]) ?_
      refine (ccatch_idlew _ _ _).mono ?_
      rintro e u' w3 ⟨rfl, rfl, rfl⟩
      have n67 : (w.heap.size = w.heap.size + 1) = False := by simp
      have n76 : (w.heap.size + 1 = w.heap.size) = False := by simp
      refine ⟨_, cresultsw _ _ _ _ _ _ rfl rfl ?g6 ?g7, rfl, ?gc⟩
      case g6 =>
        simp only [zaa, h6, n67, if_false, if_true, Option.map_some, zad]
        rfl
      case g7 =>
        simp only [zaa, h7, n76, if_false, if_true, Option.map_some, zad]
        rfl
      case gc =>
        exact (((((((Ch.refl [] w).alloc _).alloc _).alloc _).trans2 hc2 (by simp <;> omega)).setCell (p := ⟨w.heap.size, 0, none⟩) (.inr (by simp)) _)).setCell (p := ⟨w.heap.size + 1, 0, none⟩) (.inr (by simp <;> omega)) _
    | error er =>
      go_enter_defers Tryz.func212, Tryz.ntmps212
      go_wp2_with (first
        | (go_at_call 165; refine (hm1 _).mono ?_; rintro e w' ⟨rfl, rfl⟩)
        | (go_at_call 263; refine (cneed_yes _ _).mono ?_; rintro e w' ⟨rfl, rfl⟩))
      refine (hdoes _ _ (by simp [go_sem]) ((((Ch.refl [] w).alloc _).alloc _).alloc _) (by omega)).mono ?_
      rintro e w2 ⟨rfl, hc2⟩
      have h6 : w2.heap[w.heap.size]? = some (.cells #[U 0#64] 22 (0, 0)) := (hc2.block _ (by simp <;> omega) (by simp <;> omega)).trans (by simp [go_sem]; rfl)
      have h7 : w2.heap[w.heap.size + 1]? = some (.cells #[I 0] 32 (0, 0)) := (hc2.block _ (by simp <;> omega) (by simp <;> omega)).trans (by simp [go_sem])
      simp only [retOr]
      refine leaves_cons (f := 269) (args := #[.pointer (some ⟨w.heap.size, 0, none⟩), .pointer (some ⟨w.heap.size + 1, 0, none⟩)]) (by simp) (by simp [go_sem]) ?_
      refine (ccatch_panicw _ _ _ _ (I 0) _ h6 h7 (by simp)).mono ?_
      rintro e u' w3 ⟨rfl, rfl, hc3, h1, h2⟩
      refine ⟨_, cresultsw _ _ _ _ _ _ rfl rfl h1 h2, rfl, ?_⟩
      exact (((((Ch.refl [] w).alloc _).alloc _).alloc _).trans2 hc2 (by simp <;> omega)).trans2 hc3 (by simp <;> omega)
theorem ctriesw_ok (c : BitVec 64) (hok : ctrlOk c = true) (df : Nat) (cap : Array Value) (r : Except Int (BitVec 64)) (w : World)
    (hdf : ∀ args w, (callFunc df args).run Tryz.prog w = .ok (.enter df args) w)
    (hdoes : ∀ b w1, w1.heap[b]? = some (.cells #[U c] 299 (0, 0)) → Ch [] w w1 → w.heap.size ≤ b →
      Calls Tryz.prog df (#[.pointer (some ⟨b, 0, none⟩)] ++ cap) w1 fun e w2 => e = retOr U r ∧ Ch [b] w1 w2) :
    Calls Tryz.prog 212 #[U c, .func (.func df) #[] cap] w fun e w' => e = .returned (tupOr U (U 0#64) r) ∧ Ch [] w w' := by
  have h := ctriesw_any c df cap r w hdf (fun _ => hdoes)
  rw [if_pos hok] at h
  exact h
theorem ccatch_idlem (p q : Nat) (w : World) :
    CallsD Tryz.prog 304 #[.pointer (some ⟨p, 0, none⟩), .pointer (some ⟨q, 0, none⟩)] .returning w fun e u' w' => e = .returned (.tuple #[]) ∧ u' = .returning ∧ w = w' := by
  refine callsD_of_wpS Tryz.func304 rfl fun c₀ cs hu => ?_
  simp only [Tryz.ntmps304, List.size_toArray, List.length_cons, List.length_nil, Nat.reduceAdd, Nat.reduceSub, Array.replicate_succ, Array.replicate_zero, List.push_toArray, List.append_toArray, List.nil_append, List.cons_append]
  apply wpS_seq
  apply wpS_region
  simp [wpOpsS, go_sem, recoverD, hu, Exit.thenS]
  refine wpS_of_wp ?_
  go_wp2_with fail
  exact ⟨rfl, .returning, by cases c₀; simp_all, _, results_none rfl _ _ _, rfl, rfl, rfl⟩
theorem ccatch_panicm (p q : Nat) (c : Int) (c1 : Value) (c2 : Value) (w : World)
    (hp : w.heap[p]? = some (.cells #[c1] 121 (0, 0))) (hq : w.heap[q]? = some (.cells #[c2] 32 (0, 0))) (hpq : (p = q) = False) :
    CallsD Tryz.prog 304 #[.pointer (some ⟨p, 0, none⟩), .pointer (some ⟨q, 0, none⟩)] (.panicking [{ v := .iface 32 (I c), recovered := false }]) w fun e u' w' =>
      e = .returned (.tuple #[]) ∧ u' = .panicking [{ v := .iface 32 (I c), recovered := true }] ∧ Ch [p, q] w w' ∧
      w'.heap[p]? = some (.cells #[Y 0#8] 121 (0, 0)) ∧ w'.heap[q]? = some (.cells #[I c] 32 (0, 0)) := by
  have hp1 : (p = w.heap.size) = False := by have := (Array.getElem?_eq_some_iff.1 hp).1; simp; omega
  have hq1 : (q = w.heap.size) = False := by have := (Array.getElem?_eq_some_iff.1 hq).1; simp; omega
  have hqp : (q = p) = False := by simpa [eq_comm] using hpq
  refine callsD_of_wpS Tryz.func304 rfl fun c₀ cs hu => ?_
  simp only [Tryz.ntmps304, List.size_toArray, List.length_cons, List.length_nil, Nat.reduceAdd, Nat.reduceSub, Array.replicate_succ, Array.replicate_zero, List.push_toArray, List.append_toArray, List.nil_append, List.cons_append]
  apply wpS_seq
  apply wpS_region
  simp [wpOpsS, go_sem, recoverD, hu, Exit.thenS]
  refine wpS_of_wp ?_
  go_wp2_with fail
  refine ⟨rfl, _, rfl, _, results_none rfl _ _ _, rfl, rfl, ?_, ?_, ?_⟩
  · exact ((Ch.refl [p, q] w).setCell (p := ⟨p, 0, none⟩) (.inl (by simp)) _).setCell (p := ⟨q, 0, none⟩) (.inl (by simp)) _
  · simp only [zaa, hpq, hp, if_false, if_true, Option.map_some, zad]
    rfl
  · simp only [zaa, hqp, hq, if_false, if_true, Option.map_some, zad]
    rfl
theorem cresultsm (tmps : Array Value) (p q : Nat) (w : World) (v : Value) (c : Int) (hp : tmps.getD 4 undef = .pointer (some ⟨p, 0, none⟩)) (hq : tmps.getD 5 undef = .pointer (some ⟨q, 0, none⟩))
    (h1 : w.heap[p]? = some (.cells #[v] 121 (0, 0))) (h2 : w.heap[q]? = some (.cells #[I c] 32 (0, 0))) :
    (results Tryz.f261 tmps).run Tryz.prog w = .ok (.tuple #[v, I c]) w := by
  exact results_cell2 Tryz.results261 tmps _ _ w hp hq (zde Tryz.underlying121 rfl p w h1) (zde Tryz.underlying32 rfl q w h2)
theorem ctriesm_any (c : BitVec 64) (df : Nat) (cap : Array Value) (r : Except Int (BitVec 8)) (w : World)
    (hdf : ∀ args w, (callFunc df args).run Tryz.prog w = .ok (.enter df args) w)
    (hdoes : ctrlOk c = true → ∀ b w1, w1.heap[b]? = some (.cells #[U c] 299 (0, 0)) → Ch [] w w1 → w.heap.size ≤ b →
      Calls Tryz.prog df (#[.pointer (some ⟨b, 0, none⟩)] ++ cap) w1 fun e w2 => e = retOr Y r ∧ Ch [b] w1 w2) :
    Calls Tryz.prog 261 #[U c, .func (.func df) #[] cap] w fun e w' =>
      e = .returned (tupOr Y (Y 0#8) (if ctrlOk c then r else .error 190)) ∧ Ch [] w w' := by
  cases hm : ctrlOk c with
  | false =>
    have hm1 := ccheck_any c
    rw [hm] at hm1
    clear hdoes hm
    simp only [if_false, Bool.false_eq_true] at hm1 ⊢
    go_enter_defers Tryz.func261, Tryz.ntmps261
    go_wp2_with (first
      | (go_at_call 165; refine (hm1 _).mono ?_; rintro e w' ⟨rfl, rfl⟩)
      | (go_at_call 263; refine (cneed_no _ _).mono ?_; rintro e w' ⟨rfl, rfl⟩))
    refine leaves_cons (f := 304) (args := #[.pointer (some ⟨w.heap.size, 0, none⟩), .pointer (some ⟨w.heap.size + 1, 0, none⟩)]) (by simp) (by simp [go_sem]) ?_
    refine (ccatch_panicm _ _ _ (Y 0#8) (I 0) _ ?_ ?_ ?_).mono ?_
    · simp [go_sem]; rfl
    · simp [go_sem]
    · simp
    rintro e u' w2 ⟨rfl, rfl, hc2, h1, h2⟩
    refine ⟨_, cresultsm _ _ _ _ _ _ rfl rfl h1 h2, rfl, ?_⟩
    exact (((Ch.refl [] w).alloc _).alloc _).trans2 hc2 (by simp <;> omega)
  | true =>
    have hm1 := ccheck_any c
    rw [hm] at hm1
    have hdoes := hdoes hm
    clear hm
    simp only [if_true] at hm1 ⊢
    cases r with
    | ok v =>
      go_enter_defers Tryz.func261, Tryz.ntmps261
      go_wp2_with (first
        | (go_at_call 165; refine (hm1 _).mono ?_; rintro e w' ⟨rfl, rfl⟩)
        | (go_at_call 263; refine (cneed_yes _ _).mono ?_; rintro e w' ⟨rfl, rfl⟩))
      refine (hdoes _ _ (by simp [go_sem]) ((((Ch.refl [] w).alloc _).alloc _).alloc _) (by omega)).mono ?_
      rintro e w2 ⟨rfl, hc2⟩
      have hz2 := hc2.size
      simp only [World.size_alloc] at hz2
      have h6 : w2.heap[w.heap.size]? = some (.cells #[Y 0#8] 121 (0, 0)) := (hc2.block _ (by simp <;> omega) (by simp <;> omega)).trans (by simp [go_sem]; rfl)
      have h7 : w2.heap[w.heap.size + 1]? = some (.cells #[I 0] 32 (0, 0)) := (hc2.block _ (by simp <;> omega) (by simp <;> omega)).trans (by simp [go_sem])
      simp only [retOr]
      go_wp2
      refine leaves_cons (f := 304) (args := #[.pointer (some ⟨w.heap.size, 0, none⟩), .pointer (some ⟨w.heap.size + 1, 0, none⟩)]) (by simp) (by simp [go_sem]) ?_
      refine (ccatch_idlem _ _ _).mono ?_
      rintro e u' w3 ⟨rfl, rfl, rfl⟩
      have n67 : (w.heap.size = w.heap.size + 1) = False := by simp
      have n76 : (w.heap.size + 1 = w.heap.size) = False := by simp
      refine ⟨_, cresultsm _ _ _ _ _ _ rfl rfl ?g6 ?g7, rfl, ?gc⟩
      case g6 =>
        simp only [zaa, h6, n67, if_false, if_true, Option.map_some, zad]
        rfl
      case g7 =>
        simp only [zaa, h7, n76, if_false, if_true, Option.map_some, zad]
        rfl
      case gc =>
        exact (((((((Ch.refl [] w).alloc _).alloc _).alloc _).trans2 hc2 (by simp <;> omega)).setCell (p := ⟨w.heap.size, 0, none⟩) (.inr (by simp)) _)).setCell (p := ⟨w.heap.size + 1, 0, none⟩) (.inr (by simp <;> omega)) _
    | error er =>
      go_enter_defers Tryz.func261, Tryz.ntmps261
      go_wp2_with (first
        | (go_at_call 165; refine (hm1 _).mono ?_; rintro e w' ⟨rfl, rfl⟩)
        | (go_at_call 263; refine (cneed_yes _ _).mono ?_; rintro e w' ⟨rfl, rfl⟩))
      refine (hdoes _ _ (by simp [go_sem]) ((((Ch.refl [] w).alloc _).alloc _).alloc _) (by omega)).mono ?_
      rintro e w2 ⟨rfl, hc2⟩
      have h6 : w2.heap[w.heap.size]? = some (.cells #[Y 0#8] 121 (0, 0)) := (hc2.block _ (by simp <;> omega) (by simp <;> omega)).trans (by simp [go_sem]; rfl)
      have h7 : w2.heap[w.heap.size + 1]? = some (.cells #[I 0] 32 (0, 0)) := (hc2.block _ (by simp <;> omega) (by simp <;> omega)).trans (by simp [go_sem])
      simp only [retOr]
      refine leaves_cons (f := 304) (args := #[.pointer (some ⟨w.heap.size, 0, none⟩), .pointer (some ⟨w.heap.size + 1, 0, none⟩)]) (by simp) (by simp [go_sem]) ?_
      refine (ccatch_panicm _ _ _ _ (I 0) _ h6 h7 (by simp)).mono ?_
      rintro e u' w3 ⟨rfl, rfl, hc3, h1, h2⟩
      refine ⟨_, cresultsm _ _ _ _ _ _ rfl rfl h1 h2, rfl, ?_⟩
      exact (((((Ch.refl [] w).alloc _).alloc _).alloc _).trans2 hc2 (by simp <;> omega)).trans2 hc3 (by simp <;> omega)
theorem ctriesm_ok (c : BitVec 64) (hok : ctrlOk c = true) (df : Nat) (cap : Array Value) (r : Except Int (BitVec 8)) (w : World)
    (hdf : ∀ args w, (callFunc df args).run Tryz.prog w = .ok (.enter df args) w)
    (hdoes : ∀ b w1, w1.heap[b]? = some (.cells #[U c] 299 (0, 0)) → Ch [] w w1 → w.heap.size ≤ b →
      Calls Tryz.prog df (#[.pointer (some ⟨b, 0, none⟩)] ++ cap) w1 fun e w2 => e = retOr Y r ∧ Ch [b] w1 w2) :
    Calls Tryz.prog 261 #[U c, .func (.func df) #[] cap] w fun e w' => e = .returned (tupOr Y (Y 0#8) r) ∧ Ch [] w w' := by
  have h := ctriesm_any c df cap r w hdf (fun _ => hdoes)
  rw [if_pos hok] at h
  exact h
theorem ccatch_idles (p q : Nat) (w : World) :
    CallsD Tryz.prog 276 #[.pointer (some ⟨p, 0, none⟩), .pointer (some ⟨q, 0, none⟩)] .returning w fun e u' w' => e = .returned (.tuple #[]) ∧ u' = .returning ∧ w = w' := by
  refine callsD_of_wpS Tryz.func276 rfl fun c₀ cs hu => ?_
  simp only [Tryz.ntmps276, List.size_toArray, List.length_cons, List.length_nil, Nat.reduceAdd, Nat.reduceSub, Array.replicate_succ, Array.replicate_zero, List.push_toArray, List.append_toArray, List.nil_append, List.cons_append]
  apply wpS_seq
  apply wpS_region
  simp [wpOpsS, go_sem, recoverD, hu, Exit.thenS]
  refine wpS_of_wp ?_
  go_wp2_with fail
  exact ⟨rfl, .returning, by cases c₀; simp_all, _, results_none rfl _ _ _, rfl, rfl, rfl⟩
theorem ccatch_panics (p q : Nat) (c : Int) (c1 c3 c4 : Value) (c2 : Value) (w : World)
    (hp : w.heap[p]? = some (.cells #[c1, c3, c4] 307 (0, 0))) (hq : w.heap[q]? = some (.cells #[c2] 32 (0, 0))) (hpq : (p = q) = False) :
    CallsD Tryz.prog 276 #[.pointer (some ⟨p, 0, none⟩), .pointer (some ⟨q, 0, none⟩)] (.panicking [{ v := .iface 32 (I c), recovered := false }]) w fun e u' w' =>
      e = .returned (.tuple #[]) ∧ u' = .panicking [{ v := .iface 32 (I c), recovered := true }] ∧ Ch [p, q] w w' ∧
      w'.heap[p]? = some (.cells #[Y 0#8, Y 0#8, Y 0#8] 307 (0, 0)) ∧ w'.heap[q]? = some (.cells #[I c] 32 (0, 0)) := by
  have hp1 : (p = w.heap.size) = False := by have := (Array.getElem?_eq_some_iff.1 hp).1; simp; omega
  have hq1 : (q = w.heap.size) = False := by have := (Array.getElem?_eq_some_iff.1 hq).1; simp; omega
  have hqp : (q = p) = False := by simpa [eq_comm] using hpq
  refine callsD_of_wpS Tryz.func276 rfl fun c₀ cs hu => ?_
  simp only [Tryz.ntmps276, List.size_toArray, List.length_cons, List.length_nil, Nat.reduceAdd, Nat.reduceSub, Array.replicate_succ, Array.replicate_zero, List.push_toArray, List.append_toArray, List.nil_append, List.cons_append]
  apply wpS_seq
  apply wpS_region
  simp [wpOpsS, go_sem, recoverD, hu, Exit.thenS]
  refine wpS_of_wp ?_
  go_wp2_with fail
  refine ⟨rfl, _, rfl, _, results_none rfl _ _ _, rfl, rfl, ?_, ?_, ?_⟩
  · exact (((((Ch.refl [p, q] w).alloc _).setCell (p := ⟨p, 0, none⟩) (.inl (by simp)) _).setCell (p := ⟨p, 1, none⟩) (.inl (by simp)) _).setCell (p := ⟨p, 2, none⟩) (.inl (by simp)) _).setCell (p := ⟨q, 0, none⟩) (.inl (by simp)) _
  · simp only [zaa, zac, hp1, hpq, hp, if_false, if_true, Option.map_some, zad]
    rfl
  · simp only [zaa, zac, hq1, hqp, hq, if_false, if_true, Option.map_some, zad]
    rfl
theorem cresultss (tmps : Array Value) (p q : Nat) (w : World) (vs : Array Value) (c : Int) (hp : tmps.getD 4 undef = .pointer (some ⟨p, 0, none⟩)) (hq : tmps.getD 5 undef = .pointer (some ⟨q, 0, none⟩))
    (h1 : w.heap[p]? = some (.cells vs 307 (0, 0))) (hs : vs.size = 3) (h2 : w.heap[q]? = some (.cells #[I c] 32 (0, 0))) :
    (results Tryz.f227 tmps).run Tryz.prog w = .ok (.tuple #[.agg vs, I c]) w := by
  exact results_cell2 Tryz.results227 tmps _ _ w hp hq (run_loadVar_row w p _ _ vs _ _ h1 Tryz.underlying307 rfl (by rw [hs]; kernel_rfl)) (zde Tryz.underlying32 rfl q w h2)
theorem ctriess_any (c : BitVec 64) (df : Nat) (cap : Array Value) (r : Except Int (BitVec 8 × BitVec 8 × BitVec 8)) (w : World)
    (hdf : ∀ args w, (callFunc df args).run Tryz.prog w = .ok (.enter df args) w)
    (hdoes : ctrlOk c = true → ∀ b w1, w1.heap[b]? = some (.cells #[U c] 299 (0, 0)) → Ch [] w w1 → w.heap.size ≤ b →
      Calls Tryz.prog df (#[.pointer (some ⟨b, 0, none⟩)] ++ cap) w1 fun e w2 => e = retOr M3 r ∧ Ch [b] w1 w2) :
    Calls Tryz.prog 227 #[U c, .func (.func df) #[] cap] w fun e w' =>
      e = .returned (tupOr M3 (.agg #[Y 0#8, Y 0#8, Y 0#8]) (if ctrlOk c then r else .error 190)) ∧ Ch [] w w' := by
  cases hm : ctrlOk c with
  | false =>
    have hm1 := ccheck_any c
    rw [hm] at hm1
    clear hdoes hm
    simp only [if_false, Bool.false_eq_true] at hm1 ⊢
    go_enter_defers Tryz.func227, Tryz.ntmps227
    go_wp2_with (first
      | (go_at_call 165; refine (hm1 _).mono ?_; rintro e w' ⟨rfl, rfl⟩)
      | (go_at_call 263; refine (cneed_no _ _).mono ?_; rintro e w' ⟨rfl, rfl⟩))
    refine leaves_cons (f := 276) (args := #[.pointer (some ⟨w.heap.size, 0, none⟩), .pointer (some ⟨w.heap.size + 1, 0, none⟩)]) (by simp) (by simp [go_sem]) ?_
    refine (ccatch_panics _ _ _ (Y 0#8) (Y 0#8) (Y 0#8) (I 0) _ ?_ ?_ ?_).mono ?_
    · simp [go_sem]; rfl
    · simp [go_sem]
    · simp
    rintro e u' w2 ⟨rfl, rfl, hc2, h1, h2⟩
    refine ⟨_, cresultss _ _ _ _ _ _ rfl rfl h1 rfl h2, rfl, ?_⟩
    exact (((Ch.refl [] w).alloc _).alloc _).trans2 hc2 (by simp <;> omega)
  | true =>
    have hm1 := ccheck_any c
    rw [hm] at hm1
    have hdoes := hdoes hm
    clear hm
    simp only [if_true] at hm1 ⊢
    cases r with
    | ok v =>
      go_enter_defers Tryz.func227, Tryz.ntmps227
      go_wp2_with (first
        | (go_at_call 165; refine (hm1 _).mono ?_; rintro e w' ⟨rfl, rfl⟩)
        | (go_at_call 263; refine (cneed_yes _ _).mono ?_; rintro e w' ⟨rfl, rfl⟩))
      refine (hdoes _ _ (by simp [go_sem]) ((((Ch.refl [] w).alloc _).alloc _).alloc _) (by omega)).mono ?_
      rintro e w2 ⟨rfl, hc2⟩
      have hz2 := hc2.size
      simp only [World.size_alloc] at hz2
      have h6 : w2.heap[w.heap.size]? = some (.cells #[Y 0#8, Y 0#8, Y 0#8] 307 (0, 0)) := (hc2.block _ (by simp <;> omega) (by simp <;> omega)).trans (by simp [go_sem]; rfl)
      have h7 : w2.heap[w.heap.size + 1]? = some (.cells #[I 0] 32 (0, 0)) := (hc2.block _ (by simp <;> omega) (by simp <;> omega)).trans (by simp [go_sem])
      simp only [retOr, M3]
      go_wp2
      refine leaves_cons (f := 276) (args := #[.pointer (some ⟨w.heap.size, 0, none⟩), .pointer (some ⟨w.heap.size + 1, 0, none⟩)]) (by simp) (by simp [go_sem]) ?_
      refine (ccatch_idles _ _ _).mono ?_
      rintro e u' w3 ⟨rfl, rfl, rfl⟩
      have n67 : (w.heap.size = w.heap.size + 1) = False := by simp
      have n76 : (w.heap.size + 1 = w.heap.size) = False := by simp
      refine ⟨_, cresultss _ _ _ _ _ _ rfl rfl ?g6 ?gs ?g7, rfl, ?gc⟩
      case g6 =>
        simp only [zaa, h6, n67, if_false, if_true, Option.map_some, zad]
        rfl
      case g7 =>
        simp only [zaa, h7, n76, if_false, if_true, Option.map_some, zad]
        rfl
      case gs => rfl
      case gc =>
        exact (((((((((Ch.refl [] w).alloc _).alloc _).alloc _).trans2 hc2 (by simp <;> omega)).setCell (p := ⟨w.heap.size, 0, none⟩) (.inr (by simp)) _).setCell (p := ⟨w.heap.size, 1, none⟩) (.inr (by simp)) _).setCell (p := ⟨w.heap.size, 2, none⟩) (.inr (by simp)) _)).setCell (p := ⟨w.heap.size + 1, 0, none⟩) (.inr (by simp <;> omega)) _
    | error er =>
      go_enter_defers Tryz.func227, Tryz.ntmps227
      go_wp2_with (first
        | (go_at_call 165; refine (hm1 _).mono ?_; rintro e w' ⟨rfl, rfl⟩)
        | (go_at_call 263; refine (cneed_yes _ _).mono ?_; rintro e w' ⟨rfl, rfl⟩))
      refine (hdoes _ _ (by simp [go_sem]) ((((Ch.refl [] w).alloc _).alloc _).alloc _) (by omega)).mono ?_
      rintro e w2 ⟨rfl, hc2⟩
      have h6 : w2.heap[w.heap.size]? = some (.cells #[Y 0#8, Y 0#8, Y 0#8] 307 (0, 0)) := (hc2.block _ (by simp <;> omega) (by simp <;> omega)).trans (by simp [go_sem]; rfl)
      have h7 : w2.heap[w.heap.size + 1]? = some (.cells #[I 0] 32 (0, 0)) := (hc2.block _ (by simp <;> omega) (by simp <;> omega)).trans (by simp [go_sem])
      simp only [retOr]
      refine leaves_cons (f := 276) (args := #[.pointer (some ⟨w.heap.size, 0, none⟩), .pointer (some ⟨w.heap.size + 1, 0, none⟩)]) (by simp) (by simp [go_sem]) ?_
      refine (ccatch_panics _ _ _ _ _ _ (I 0) _ h6 h7 (by simp)).mono ?_
      rintro e u' w3 ⟨rfl, rfl, hc3, h1, h2⟩
      refine ⟨_, cresultss _ _ _ _ _ _ rfl rfl h1 rfl h2, rfl, ?_⟩
      exact (((((Ch.refl [] w).alloc _).alloc _).alloc _).trans2 hc2 (by simp <;> omega)).trans2 hc3 (by simp <;> omega)
theorem ctriess_ok (c : BitVec 64) (hok : ctrlOk c = true) (df : Nat) (cap : Array Value) (r : Except Int (BitVec 8 × BitVec 8 × BitVec 8)) (w : World)
    (hdf : ∀ args w, (callFunc df args).run Tryz.prog w = .ok (.enter df args) w)
    (hdoes : ∀ b w1, w1.heap[b]? = some (.cells #[U c] 299 (0, 0)) → Ch [] w w1 → w.heap.size ≤ b →
      Calls Tryz.prog df (#[.pointer (some ⟨b, 0, none⟩)] ++ cap) w1 fun e w2 => e = retOr M3 r ∧ Ch [b] w1 w2) :
    Calls Tryz.prog 227 #[U c, .func (.func df) #[] cap] w fun e w' => e = .returned (tupOr M3 (.agg #[Y 0#8, Y 0#8, Y 0#8]) r) ∧ Ch [] w w' := by
  have h := ctriess_any c df cap r w hdf (fun _ => hdoes)
  rw [if_pos hok] at h
  exact h
end Go.Proofs.Hc
namespace Go.Proofs.Hc
open Go.RowKit
attribute [local go_sem] zbs zca zax zbc zbn zba zbm zbo zbu signed64 signed8 zar BitVec.ofInt_add BitVec.ofInt_mul ofInt_sub' zay zaz wide8 eqN neN zbz shr1 shr7 shr56
attribute [local go_sem high] zbb zbt
attribute [local go_sem] nn2 nm2 nn3 nm3 nn4 nm4 nn5 nm5 nn6 nm6 nn7 nm7 nn8 nm8
attribute [local go_sem] zap
attribute [local go_sem] zag zbw zah zas zad zan
attribute [local go_sem ↓] zac zaw zbg zaa
theorem is_yes (n : Nat) (h : n < 8) (w : World) : Calls Tryz.prog 230 #[I n] w fun e w' => e = .returned (.bool true) ∧ w = w' := by
  go_enter Tryz.func230, Tryz.ntmps230
  go_wp2
  go_ret
  exact ⟨by simp; omega, rfl⟩
theorem get_yes (c : BitVec 64) (n : Nat) (h : n < 8) (w : World) : Calls Tryz.prog 168 #[U c, I n] w fun e w' => e = .returned (.tuple #[Y (byteAt c n), I 0]) ∧ w = w' := by
  go_enter Tryz.func168, Tryz.ntmps168
  go_wp2_with (first
    | (go_at_call 230; refine (is_yes _ h _).mono ?_; rintro e w' ⟨rfl, rfl⟩)
    | (go_at_call 231; refine (word_at_any _ _ _ h).mono ?_; rintro e w' ⟨rfl, rfl⟩))
  go_ret2
  exact ⟨rfl, rfl⟩
theorem lay_yes (b : Nat) (c : BitVec 64) (n : Nat) (x : BitVec 8) (h : n < 8) (w : World) (hb : w.heap[b]? = some (.cells #[U c] 352 (0, 0))) :
    Calls Tryz.prog 318 #[.pointer (some ⟨b, 0, none⟩), I n, Y x] w fun e w' => e = .returned (.bool true) ∧ Ch [b] w w' ∧ w'.heap[b]? = some (.cells #[U (withB c n x)] 352 (0, 0)) := by
  go_enter Tryz.func318, Tryz.ntmps318
  go_wp2_with (first
    | (go_at_call 230; refine (is_yes _ h _).mono ?_; rintro e w' ⟨rfl, rfl⟩)
    | (go_at_call 321; refine (with_any _ _ _ _ h).mono ?_; rintro e w1 ⟨rfl, hc1⟩; have hb1 := (hc1.block b (Array.getElem?_eq_some_iff.1 hb).1 (by simp)).trans hb))
  go_ret
  refine ⟨rfl, (hc1.of_nil).setCell (p := ⟨b, 0, none⟩) (.inl (by simp)) _, ?_⟩
  rw [zaa, if_pos rfl, hb1]; rfl
theorem put1_yes (c : BitVec 64) (x : BitVec 8) (n : Nat) (h : n < 8) (g : Nat) (w : World) (hg : w.heap[g]? = some (.cells #[I n] 3 (0, 0))) :
    Calls Tryz.prog 306 #[U c, Y x, .slice (some ⟨g, 0, none⟩) 1 1] w fun e w' => e = .returned (.tuple #[U (withB c n x), I 0]) ∧ Ch [] w w' := by
  have hgn : (g = w.heap.size) = False := by have := (Array.getElem?_eq_some_iff.1 hg).1; simp; omega
  go_enter Tryz.func306, Tryz.ntmps306
  go_wp2
  go_step3
  go_wp2
  go_step3
  go_wp2_with fail
  refine wp_loop_rounds 2 ?_
  rw [rounds_succ]
  go_wp2_with fail
  refine (lay_yes w.heap.size c n x h _ (by simp [go_sem])).mono ?_
  rintro e w1 ⟨rfl, hc1, hb1⟩
  go_wp2_with fail
  rw [rounds_succ]
  go_wp2_with fail
  rw [Exit.noGoto_ret]
  go_ret2
  exact ⟨rfl, ((Ch.refl [] w).alloc _).trans2 hc1 (by simp)⟩
def laneM (n : Nat) : BitVec 8 := 1#8 <<< n
theorem zby (n : Nat) : BitVec.ofInt 8 (2 ^ n) = laneM n := by
  have h2 : ((2 : Int) ^ n) = ((2 ^ n : Nat) : Int) := by simp
  unfold laneM
  rw [h2, BitVec.ofInt_natCast]
  apply BitVec.eq_of_toNat_eq; simp [Nat.shiftLeft_eq]
attribute [local go_sem] zby
theorem clane_yes (b : Nat) (n : Nat) (h : n < 8) (w : World) : Calls Tryz.prog 270 #[.pointer (some ⟨b, 0, none⟩), I n] w fun e w' => e = .returned (Y (laneM n)) ∧ w = w' := by
  have hd : decide ((n : Int) < 8) = true := by simp; omega
  go_enter Tryz.func270, Tryz.ntmps270
  go_wp2_with (go_at_call 263; refine (cneed_yes _ _).mono ?_; rintro e w' ⟨rfl, rfl⟩)
  go_ret
  exact ⟨rfl, rfl⟩
theorem cput_yes (b : Nat) (c : BitVec 64) (n : Nat) (x : BitVec 8) (h : n < 8) (w : World) (hb : w.heap[b]? = some (.cells #[U c] 299 (0, 0))) :
    Calls Tryz.prog 271 #[.pointer (some ⟨b, 0, none⟩), I n, Y x] w fun e w' => e = .returned (.tuple #[]) ∧ Ch [b] w w' ∧ w'.heap[b]? = some (.cells #[U (withB c n x)] 299 (0, 0)) := by
  have hb1 := (Array.getElem?_eq_some_iff.1 hb).1
  have hbn : (b = w.heap.size) = False := by simp; omega
  clear hb1
  go_enter Tryz.func271, Tryz.ntmps271
  go_wp2_with fail
  refine (put1_yes c x n h w.heap.size _ (by simp [go_sem])).mono ?_
  rintro e w1 ⟨rfl, hc1⟩
  have hb2 : w1.heap[b]? = some (.cells #[U c] 299 (0, 0)) := by
    have hb1 := (Array.getElem?_eq_some_iff.1 hb).1
    exact (hc1.block b (by simp; omega) (by simp)).trans (by rw [zac, if_neg (by omega)]; exact hb)
  go_wp2_with (go_at_call 263; refine (cneed_yes _ _).mono ?_; rintro e w' ⟨rfl, rfl⟩)
  go_end0
  refine ⟨rfl, ((((Ch.refl [] w).alloc _).pure hc1).of_nil).setCell (p := ⟨b, 0, none⟩) (.inl (by simp)) _, ?_⟩
  rw [zaa, if_pos rfl, hb2]; rfl
theorem cfill_yes (b : Nat) (c : BitVec 64) (n : Nat) (x : BitVec 8) (h : n < 8) (hx : N x ≤ 127) (hf : fullM c &&& laneM n = 0#8) (w : World) (hb : w.heap[b]? = some (.cells #[U c] 299 (0, 0))) :
    Calls Tryz.prog 268 #[.pointer (some ⟨b, 0, none⟩), I n, Y x] w fun e w' => e = .returned (.tuple #[]) ∧ Ch [b] w w' ∧ w'.heap[b]? = some (.cells #[U (withB c n x)] 299 (0, 0)) := by
  have hz : (N (fullM c &&& laneM n) == 0) = true := by rw [hf]; decide
  have hd : decide (N x ≤ 127) = true := by simpa using hx
  clear hf
  go_enter Tryz.func268, Tryz.ntmps268
  go_wp2_with (first
    | (go_at_call 263; refine (cneed_yes _ _).mono ?_; rintro e w' ⟨rfl, rfl⟩)
    | (go_at_call 270; refine (clane_yes _ _ h _).mono ?_; rintro e w' ⟨rfl, rfl⟩)
    | (go_at_call 224; refine (full_any _ _).mono ?_; rintro e w' ⟨rfl, rfl⟩)
    | (go_at_call 271; refine (cput_yes b c n x h _ hb).mono ?_; rintro e w1 ⟨rfl, hc1, hb1⟩))
  go_end0
  exact ⟨rfl, hc1, hb1⟩
def gone (c : BitVec 64) : BitVec 8 := if emptyM c = 0#8 then 254#8 else 128#8
theorem cerase_yes (b : Nat) (c : BitVec 64) (n : Nat) (h : n < 8) (hf : fullM c &&& laneM n ≠ 0#8) (w : World) (hb : w.heap[b]? = some (.cells #[U c] 299 (0, 0))) :
    Calls Tryz.prog 214 #[.pointer (some ⟨b, 0, none⟩), I n] w fun e w' => e = .returned (.tuple #[]) ∧ Ch [b] w w' ∧ w'.heap[b]? = some (.cells #[U (withB c n (gone c))] 299 (0, 0)) := by
  have hz : (N (fullM c &&& laneM n) != 0) = true := by
    rw [bne_iff_ne]; intro e; exact hf ((N_inj _ 0#8).1 (by rw [e]; rfl))
  clear hf
  by_cases he : emptyM c = 0#8
  · have hg : gone c = 254#8 := by unfold gone; rw [if_pos he]
    have hz2 : (N (emptyM c) != 0) = false := by rw [he]; decide
    have P1 := cput_yes b c n 254#8 h
    rw [hg]
    clear he hg
    go_enter Tryz.func214, Tryz.ntmps214
    go_wp2_with (first
      | (go_at_call 263; refine (cneed_yes _ _).mono ?_; rintro e w' ⟨rfl, rfl⟩)
      | (go_at_call 270; refine (clane_yes _ _ h _).mono ?_; rintro e w' ⟨rfl, rfl⟩)
      | (go_at_call 224; refine (full_any _ _).mono ?_; rintro e w' ⟨rfl, rfl⟩)
      | (go_at_call 225; refine (empty_any _ _).mono ?_; rintro e w' ⟨rfl, rfl⟩)
      | (go_at_call 271; refine (P1 _ hb).mono ?_; rintro e w1 ⟨rfl, hc1, hb1⟩))
    go_end0
    exact ⟨rfl, hc1, hb1⟩
  · have hg : gone c = 128#8 := by unfold gone; rw [if_neg he]
    have hz2 : (N (emptyM c) != 0) = true := by
      rw [bne_iff_ne]; intro e; exact he ((N_inj _ 0#8).1 (by rw [e]; rfl))
    have P1 := cput_yes b c n 128#8 h
    rw [hg]
    clear he hg
    go_enter Tryz.func214, Tryz.ntmps214
    go_wp2_with (first
      | (go_at_call 263; refine (cneed_yes _ _).mono ?_; rintro e w' ⟨rfl, rfl⟩)
      | (go_at_call 270; refine (clane_yes _ _ h _).mono ?_; rintro e w' ⟨rfl, rfl⟩)
      | (go_at_call 224; refine (full_any _ _).mono ?_; rintro e w' ⟨rfl, rfl⟩)
      | (go_at_call 225; refine (empty_any _ _).mono ?_; rintro e w' ⟨rfl, rfl⟩)
      | (go_at_call 271; refine (P1 _ hb).mono ?_; rintro e w1 ⟨rfl, hc1, hb1⟩))
    go_end0
    exact ⟨rfl, hc1, hb1⟩
theorem cnew_any (w : World) : Calls Tryz.prog 143 #[] w fun e w' => e = .returned (U tops) ∧ w = w' := by
  have F1 : ∀ w, Calls Tryz.prog 216 #[.int .u8 128] w fun e w' => e = .returned (U tops) ∧ w = w' := fun w => (fillB_any 128#8 w).mono fun e w' ⟨he, hw⟩ => ⟨by rw [he]; rfl, hw⟩
  go_enter Tryz.func143, Tryz.ntmps143
  go_wp2_with (go_at_call 216; refine (F1 _).mono ?_; rintro e w' ⟨rfl, rfl⟩)
  go_ret
  exact ⟨rfl, rfl⟩
end Go.Proofs.Hc
namespace Go.Proofs.Hc
open Go.RowKit
attribute [local go_sem] zbs zca zax zbc zbn zba zbm zbo zbu signed64 signed8 zar BitVec.ofInt_add BitVec.ofInt_mul ofInt_sub' zay zaz wide8 eqN neN zbz shr1 shr7 shr56
attribute [local go_sem high] zbb zbt
attribute [local go_sem] nn2 nm2 nn3 nm3 nn4 nm4 nn5 nm5 nn6 nm6 nn7 nm7 nn8 nm8
attribute [local go_sem] zap
attribute [local go_sem] zag zbw zah zas zad zan
attribute [local go_sem ↓] zac zaw zbg zaa
theorem enters_match (args : Array Value) (w : World) : (callFunc 262 args).run Tryz.prog w = .ok (.enter 262 args) w := by kernel_rfl
theorem enters_fill (args : Array Value) (w : World) : (callFunc 267 args).run Tryz.prog w = .ok (.enter 267 args) w := by kernel_rfl
theorem enters_erase (args : Array Value) (w : World) : (callFunc 213 args).run Tryz.prog w = .ok (.enter 213 args) w := by kernel_rfl
theorem enters_sets (args : Array Value) (w : World) : (callFunc 228 args).run Tryz.prog w = .ok (.enter 228 args) w := by kernel_rfl
theorem match1_yes (b p : Nat) (c : BitVec 64) (x : BitVec 8) (hx : N x ≤ 127) (w : World) (hb : w.heap[b]? = some (.cells #[U c] 299 (0, 0))) (hp : w.heap[p]? = some (.cells #[Y x] 5 (0, 0))) :
    Calls Tryz.prog 262 #[.pointer (some ⟨b, 0, none⟩), .pointer (some ⟨p, 0, none⟩)] w fun e w' => e = .returned (Y (equalM c x)) ∧ Ch [] w w' := by
  have hd : decide (N x ≤ 127) = true := by simpa using hx
  go_enter Tryz.func262, Tryz.ntmps262
  go_wp2_with (go_at_call 263; refine (cneed_yes _ _).mono ?_; rintro e w' ⟨rfl, rfl⟩)
  go_quiet ((go_at_call 264; exact quietL (equal_any _ _ _)))
  go_wp2
  go_ret
  exact ⟨rfl, (Ch.refl [] w).drewN nq⟩
theorem fill1_yes (b p q : Nat) (c : BitVec 64) (n : Nat) (x : BitVec 8) (h : n < 8) (hx : N x ≤ 127) (hf : fullM c &&& laneM n = 0#8) (w : World) (hb : w.heap[b]? = some (.cells #[U c] 299 (0, 0)))
    (hp : w.heap[p]? = some (.cells #[I n] 3 (0, 0))) (hq : w.heap[q]? = some (.cells #[Y x] 5 (0, 0))) :
    Calls Tryz.prog 267 #[.pointer (some ⟨b, 0, none⟩), .pointer (some ⟨p, 0, none⟩), .pointer (some ⟨q, 0, none⟩)] w fun e w' => e = .returned (U (withB c n x)) ∧ Ch [b] w w' := by
  go_enter Tryz.func267, Tryz.ntmps267
  go_wp2_with (go_at_call 268; refine (cfill_yes b c n x h hx hf _ hb).mono ?_; rintro e w1 ⟨rfl, hc1, hb1⟩)
  go_ret
  exact ⟨rfl, hc1⟩
theorem erase1_yes (b p : Nat) (c : BitVec 64) (n : Nat) (h : n < 8) (hf : fullM c &&& laneM n ≠ 0#8) (w : World) (hb : w.heap[b]? = some (.cells #[U c] 299 (0, 0)))
    (hp : w.heap[p]? = some (.cells #[I n] 3 (0, 0))) :
    Calls Tryz.prog 213 #[.pointer (some ⟨b, 0, none⟩), .pointer (some ⟨p, 0, none⟩)] w fun e w' => e = .returned (U (withB c n (gone c))) ∧ Ch [b] w w' := by
  go_enter Tryz.func213, Tryz.ntmps213
  go_wp2_with (go_at_call 214; refine (cerase_yes b c n h hf _ hb).mono ?_; rintro e w1 ⟨rfl, hc1, hb1⟩)
  go_ret
  exact ⟨rfl, hc1⟩
theorem match_ok (c : BitVec 64) (x : BitVec 8) (hx : N x ≤ 127) (hok : ctrlOk c = true) (w : World) :
    Calls Tryz.prog 209 #[U c, Y x] w fun e w' => e = .returned (.tuple #[Y (equalM c x), I 0]) ∧ Ch [] w w' := by
  have M1 := fun b p w => match1_yes b p c x hx w
  have T1 := fun (r : BitVec 8) (cap : Array Value) (w : World) => ctriesm_ok c hok 262 cap (.ok r) w enters_match
  generalize equalM c x = r at *
  clear hok hx
  go_enter Tryz.func209, Tryz.ntmps209
  go_wp2_with fail
  refine (T1 r #[.pointer (some ⟨w.heap.size, 0, none⟩)] _ ?_).mono ?_
  · intro b w1 hb hc hle
    exact (M1 b w.heap.size w1 hb ((hc.block _ (by simp) (by simp)).trans (by simp [go_sem]))).mono fun e w2 ⟨he, hc2⟩ => ⟨he, hc2.of_nil⟩
  · rintro e w1 ⟨rfl, hc1⟩
    clear M1 T1
    simp only [tupOr]
    go_wp2
    go_ret2
    exact ⟨rfl, ((Ch.refl [] w).alloc _).trans hc1⟩
theorem fill_ok (c : BitVec 64) (n : Nat) (x : BitVec 8) (h : n < 8) (hx : N x ≤ 127) (hf : fullM c &&& laneM n = 0#8) (hok : ctrlOk c = true) (w : World) :
    Calls Tryz.prog 211 #[U c, I n, Y x] w fun e w' => e = .returned (.tuple #[U (withB c n x), I 0]) ∧ Ch [] w w' := by
  have M1 := fun b p q w => fill1_yes b p q c n x h hx hf w
  have T1 := fun (r : BitVec 64) (cap : Array Value) (w : World) => ctriesw_ok c hok 267 cap (.ok r) w enters_fill
  generalize withB c n x = r at *
  clear hok hx hf
  go_enter Tryz.func211, Tryz.ntmps211
  go_wp2_with fail
  refine (T1 r #[.pointer (some ⟨w.heap.size, 0, none⟩), .pointer (some ⟨w.heap.size + 1, 0, none⟩)] _ ?_).mono ?_
  · intro b w1 hb hc hle
    exact (M1 b w.heap.size (w.heap.size + 1) w1 hb ((hc.block _ (by simp <;> omega) (by simp)).trans (by simp [go_sem])) ((hc.block _ (by simp) (by simp)).trans (by simp [go_sem]))).mono fun e w2 ⟨he, hc2⟩ => ⟨he, hc2⟩
  · rintro e w1 ⟨rfl, hc1⟩
    clear M1 T1
    simp only [tupOr]
    go_wp2
    go_ret2
    exact ⟨rfl, (((Ch.refl [] w).alloc _).alloc _).trans hc1⟩
theorem erase_ok (c : BitVec 64) (n : Nat) (h : n < 8) (hf : fullM c &&& laneM n ≠ 0#8) (hok : ctrlOk c = true) (w : World) :
    Calls Tryz.prog 138 #[U c, I n] w fun e w' => e = .returned (.tuple #[U (withB c n (gone c)), I 0]) ∧ Ch [] w w' := by
  have M1 := fun b p w => erase1_yes b p c n h hf w
  have T1 := fun (r : BitVec 64) (cap : Array Value) (w : World) => ctriesw_ok c hok 213 cap (.ok r) w enters_erase
  generalize withB c n (gone c) = r at *
  clear hok hf
  go_enter Tryz.func138, Tryz.ntmps138
  go_wp2_with fail
  refine (T1 r #[.pointer (some ⟨w.heap.size, 0, none⟩)] _ ?_).mono ?_
  · intro b w1 hb hc hle
    exact (M1 b w.heap.size w1 hb ((hc.block _ (by simp) (by simp)).trans (by simp [go_sem]))).mono fun e w2 ⟨he, hc2⟩ => ⟨he, hc2⟩
  · rintro e w1 ⟨rfl, hc1⟩
    clear M1 T1
    simp only [tupOr]
    go_wp2
    go_ret2
    exact ⟨rfl, ((Ch.refl [] w).alloc _).trans hc1⟩
def setsOf (c : BitVec 64) : BitVec 8 × BitVec 8 × BitVec 8 := (fullM c, emptyM c, delM c)
theorem sets1_any (b : Nat) (c : BitVec 64) (w : World) (hb : w.heap[b]? = some (.cells #[U c] 299 (0, 0))) :
    Calls Tryz.prog 228 #[.pointer (some ⟨b, 0, none⟩)] w fun e w' => e = .returned (M3 (setsOf c)) ∧ Ch [] w w' := by
  have hbl := (Array.getElem?_eq_some_iff.1 hb).1
  go_enter Tryz.func228, Tryz.ntmps228
  go_wp2_with fail
  obtain ⟨W0, hW0⟩ : ∃ W0, w.alloc (.cells #[.int .u8 0, .int .u8 0, .int .u8 0] 307) = W0 := ⟨_, rfl⟩
  have hC0 : Ch [] w W0 := by rw [← hW0]; exact (Ch.refl [] w).alloc _
  have hz0 : W0.heap.size = w.heap.size + 1 := by rw [← hW0]; simp
  have b0 : W0.heap[w.heap.size]? = some (.cells #[.int .u8 0, .int .u8 0, .int .u8 0] 307 (0, 0)) := by rw [← hW0]; simp [go_sem]
  have hg : ∀ g : Gar W0, (g.1).heap[b]? = some (.cells #[U c] 299 (0, 0)) := fun g => (g.2.block b (by omega) (by simp)).trans ((hC0.block b hbl (by simp)).trans hb)
  rw [hW0]
  clear hW0 hbl hb
  refine zcw 16 (by kernel_rfl) (by kernel_rfl) ?_
  simp only [List.take_succ_cons, List.take_zero, List.drop_succ_cons, List.drop_zero]
  repeat (go_big_quiet_step ((first | (go_at_call 224; exact garL (full_any _ _)) | (go_at_call 225; exact garL (empty_any _ _)) | (go_at_call 226; exact garL (del_any _ _)))))
  refine wpQuiet_nil ?_
  rintro w1 ⟨g1, hw1⟩
  have hc1 : Ch [] W0 w1 := by rw [hw1]; exact g1.2
  clear hw1 g1
  have b1 : w1.heap[w.heap.size]? = some (.cells #[.int .u8 0, .int .u8 0, .int .u8 0] 307 (0, 0)) := (hc1.block _ (by omega) (by simp)).trans b0
  clear hg b0
  go_wp2
  refine bodyPost_ret (results_cell_row Tryz.results228 _ _ w.heap.size 307 #[Y (fullM c), Y (emptyM c), Y (delM c)] (0, 0) _ rfl ?_ Tryz.underlying307 rfl (by kernel_rfl)) rfl ⟨rfl, ?_⟩
  · simp only [zaa, b1, if_true, Option.map_some, zad]
    simp
  · exact ((((hC0.trans hc1).setCell (p := ⟨w.heap.size, 0, none⟩) (.inr (by simp)) _).setCell (p := ⟨w.heap.size, 1, none⟩) (.inr (by simp)) _).setCell (p := ⟨w.heap.size, 2, none⟩) (.inr (by simp)) _)
theorem sets_ok (c : BitVec 64) (hok : ctrlOk c = true) (w : World) :
    Calls Tryz.prog 166 #[U c] w fun e w' => e = .returned (.tuple #[Y (fullM c), Y (emptyM c), Y (delM c)]) ∧ Ch [] w w' := by
  have M1 := fun b w => sets1_any b c w
  have T1 := fun (r : BitVec 8 × BitVec 8 × BitVec 8) (cap : Array Value) (w : World) => ctriess_ok c hok 228 cap (.ok r) w enters_sets
  unfold setsOf at M1
  generalize fullM c = rf at *
  generalize emptyM c = re at *
  generalize delM c = rd at *
  clear hok
  go_enter Tryz.func166, Tryz.ntmps166
  go_wp2_with fail
  refine (T1 (rf, re, rd) #[] _ ?_).mono ?_
  · intro b w1 hb hc hle
    exact (M1 b w1 hb).mono fun e w2 ⟨he, hc2⟩ => ⟨he, hc2.of_nil⟩
  · rintro e w1 ⟨rfl, hc1⟩
    clear M1 T1
    simp only [tupOr, M3]
    go_wp2
    go_quiet (fail)
    go_wp2
    go_ret3
    exact ⟨rfl, ((hc1.alloc _).drewN nq)⟩
theorem stops_ok (c : BitVec 64) (hok : ctrlOk c = true) (w : World) :
    Calls Tryz.prog 139 #[U c] w fun e w' => e = .returned (.bool (emptyM c != 0#8)) ∧ Ch [] w w' := by
  have M1 := fun w => sets_ok c hok w
  generalize fullM c = rf at *
  generalize emptyM c = re at *
  generalize delM c = rd at *
  clear hok
  go_enter Tryz.func139, Tryz.ntmps139
  go_wp2_with (go_at_call 166; refine (M1 _).mono ?_; rintro e w1 ⟨rfl, hc1⟩)
  go_ret
  refine ⟨?_, hc1⟩
  rw [← neN]; rfl
end Go.Proofs.Hc
