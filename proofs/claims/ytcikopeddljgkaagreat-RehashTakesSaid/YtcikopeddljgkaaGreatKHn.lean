/- Panics that are recovered in package table: need, tries. -/
import Derived.Test.YtcikopeddljgkaaGreatKHmy
set_option linter.unusedSimpArgs false
set_option linter.unusedVariables false
set_option maxRecDepth 100000
namespace Go.Proofs.Hc
open Go.RowKit
attribute [local go_sem] zbs zca zax zbc zbn zba zbm zbo zbu signed64 signed8 zar BitVec.ofInt_add BitVec.ofInt_mul ofInt_sub' zay zaz wide8 eqN neN zbz shr1 shr7 shr56
attribute [local go_sem high] zbb zbt
attribute [local go_sem] zag zbw zah zas zad zbe zaq zal zbl zan zbd zbf
attribute [local go_sem] load26 load73 load23 store26 build73
attribute [local go_sem ↓] lrow26 lrow73 lrow23 srow26 zero26 brow73 zac zaw zbg zaa zab
attribute [local go_sem] zai zav zat zbj zbk zbp zao zau zbq zbi zbh
attribute [local go_sem] nn2 nm2 nn3 nm3 nn4 nm4 nn5 nm5 nn6 nm6 nn7 nm7 nn8 nm8
section
attribute [local go_sem] loadA loadT2 storeA storeT2 zdj zdk zcj zdi zcd zce zct zcl zcy zco zcg zcz zcp zdh zdg
attribute [local go_sem ↓] lrowA lrowT2 srowA srowT2 browA zdf zcx
theorem tneed_yes (c : Int) (w : World) :
    Calls Tryz.prog 83 #[.bool true, I c] w fun e w' => e = .returned (.tuple #[]) ∧ w = w' := by
  go_enter Tryz.func83, Tryz.ntmps83
  go_wp2
  go_end0
  exact ⟨rfl, rfl⟩
theorem tneed_no (c : Int) (w : World) :
    Calls Tryz.prog 83 #[.bool false, I c] w fun e w' => e = .panicked [{ v := .iface 32 (I c), recovered := false }] ∧ w = w' := by
  go_enter Tryz.func83, Tryz.ntmps83
  go_wp2
  exact ⟨rfl, rfl, rfl⟩
theorem catch_idle26 (p q : Nat) (w : World) :
    CallsD Tryz.prog 142 #[.pointer (some ⟨p, 0, none⟩), .pointer (some ⟨q, 0, none⟩)] .returning w fun e u' w' => e = .returned (.tuple #[]) ∧ u' = .returning ∧ w = w' := by
  refine callsD_of_wpS Tryz.func142 rfl fun c₀ cs hu => ?_
  simp only [Tryz.ntmps142, List.size_toArray, List.length_cons, List.length_nil, Nat.reduceAdd, Nat.reduceSub, Array.replicate_succ, Array.replicate_zero, List.push_toArray, List.append_toArray, List.nil_append, List.cons_append]
  apply wpS_seq
  apply wpS_region
  simp [wpOpsS, go_sem, recoverD, hu, Exit.thenS]
  refine wpS_of_wp ?_
  go_wp2_with fail
  exact ⟨rfl, .returning, by cases c₀; simp_all, _, results_none rfl _ _ _, rfl, rfl, rfl⟩
theorem catch_panic26 (p q : Nat) (c : Int) (cs1 : Array Value) (c2 : Value) (w : World)
    (hp : w.heap[p]? = some (.cells cs1 26 (0, 0))) (hs : cs1.size = 39) (hq : w.heap[q]? = some (.cells #[c2] 32 (0, 0))) (hpq : (p = q) = False) :
    CallsD Tryz.prog 142 #[.pointer (some ⟨p, 0, none⟩), .pointer (some ⟨q, 0, none⟩)] (.panicking [{ v := .iface 32 (I c), recovered := false }]) w fun e u' w' =>
      e = .returned (.tuple #[]) ∧ u' = .panicking [{ v := .iface 32 (I c), recovered := true }] ∧ Ch [p, q] w w' ∧
      w'.heap[p]? = some (.cells (tcells zeroT) 26 (0, 0)) ∧ w'.heap[q]? = some (.cells #[I c] 32 (0, 0)) := by
  have hp1 : (p = w.heap.size) = False := by have := (Array.getElem?_eq_some_iff.1 hp).1; simp; omega
  have hq1 : (q = w.heap.size) = False := by have := (Array.getElem?_eq_some_iff.1 hq).1; simp; omega
  have hqp : (q = p) = False := by simpa [eq_comm] using hpq
  refine callsD_of_wpS Tryz.func142 rfl fun c₀ cs hu => ?_
  simp only [Tryz.ntmps142, List.size_toArray, List.length_cons, List.length_nil, Nat.reduceAdd, Nat.reduceSub, Array.replicate_succ, Array.replicate_zero, List.push_toArray, List.append_toArray, List.nil_append, List.cons_append]
  apply wpS_seq
  apply wpS_region
  simp [wpOpsS, go_sem, recoverD, hu, Exit.thenS]
  refine wpS_of_wp ?_
  go_wp2_with fail
  refine ⟨rfl, _, rfl, _, results_none rfl _ _ _, rfl, rfl, ?_, ?_, ?_⟩
  · exact (((Ch.refl [p, q] w).alloc _).onObj (.inl (by simp)) _).setCell (.inl (by simp)) _
  · simp only [zaa, zab, zac, hpq, hp1, hp, if_false, if_true, Option.map_some, zal]
    rw [laid_whole _ _ (by rw [hs]; rfl)]
  · simp only [zaa, zab, zac, hqp, hq1, hq, if_false, if_true, Option.map_some, zad]
    rfl
theorem results_tries26 (tmps : Array Value) (p q : Nat) (w : World) (v : Array Value) (c : Int) (hp : tmps.getD 6 undef = .pointer (some ⟨p, 0, none⟩)) (hq : tmps.getD 7 undef = .pointer (some ⟨q, 0, none⟩))
    (h1 : w.heap[p]? = some (.cells v 26 (0, 0))) (hs : v.size = 39) (h2 : w.heap[q]? = some (.cells #[I c] 32 (0, 0))) :
    (results Tryz.f76 tmps).run Tryz.prog w = .ok (.tuple #[.agg v, I c]) w := by
  exact results_cell2 Tryz.results76 tmps _ _ w hp hq (run_loadVar_row w p _ _ v _ _ h1 Tryz.underlying26 rfl (by rw [hs]; kernel_rfl)) (zde Tryz.underlying32 rfl q w h2)
theorem tries26_any (t : Tab) (s : BitVec 64) (df : Nat) (cap : Array Value) (r : Except Int Tab) (w : World)
    (hdf : ∀ args w, (callFunc df args).run Tryz.prog w = .ok (.enter df args) w)
    (hdoes : mayT t s = true → ∀ b w1, w1.heap[b]? = some (.cells (hcells t s) 141 (0, 0)) → Ch [] w w1 → w.heap.size ≤ b →
      Calls Tryz.prog df (#[.pointer (some ⟨b, 0, none⟩)] ++ cap) w1 fun e w2 => e = retOr (fun v => .agg (tcells v)) r ∧ Ch [b] w1 w2) :
    Calls Tryz.prog 76 #[U s, .agg (tcells t), .func (.func df) #[] cap] w fun e w' =>
      e = .returned (tupOr (fun v => .agg (tcells v)) (.agg (tcells zeroT)) (if mayT t s then r else .error 270)) ∧ Ch [] w w' := by
  cases hm : mayT t s with
  | false =>
    have hm1 := may_any t s
    rw [hm] at hm1
    clear hdoes hm
    simp only [if_false, Bool.false_eq_true]
    go_enter_defers Tryz.func76, Tryz.ntmps76
    go_wp2_with fail
    refine (hm1 _ _ ?_).mono ?_
    · simp [go_sem]
    rintro e w1 ⟨rfl, hc1⟩
    go_wp2_with (go_at_call 83; refine (tneed_no _ _).mono ?_; rintro e w2 ⟨rfl, rfl⟩)
    refine leaves_cons (f := 142) (args := #[.pointer (some ⟨w.heap.size + 1, 0, none⟩), .pointer (some ⟨w.heap.size + 1 + 1, 0, none⟩)]) (by simp) (by simp [go_sem]) ?_
    refine (catch_panic26 _ _ _ (tcells zeroT) (I 0) _ ?_ rfl ?_ ?_).mono ?_
    · exact (hc1.block _ (by simp) (by simp)).trans (by simp [go_sem])
    · exact (hc1.block _ (by simp) (by simp)).trans (by simp [go_sem])
    · simp
    rintro e u' w2 ⟨rfl, rfl, hc2, h1, h2⟩
    have hsz := hc1.size
    simp only [World.size_alloc] at hsz
    refine ⟨_, results_tries26 _ _ _ _ _ _ rfl rfl h1 rfl h2, rfl, ?_⟩
    exact (((((Ch.refl [] w).alloc _).alloc _).alloc _).alloc _ |>.pure hc1).trans2 hc2 (by simp <;> omega)
  | true =>
    have hm1 := may_any t s
    rw [hm] at hm1
    have hdoes := hdoes hm
    clear hm
    simp only [if_true]
    cases r with
    | ok v =>
      go_enter_defers Tryz.func76, Tryz.ntmps76
      go_wp2_with fail
      refine (hm1 _ _ ?_).mono ?_
      · simp [go_sem]
      rintro e w1 ⟨rfl, hc1⟩
      go_wp2_with (go_at_call 83; refine (tneed_yes _ _).mono ?_; rintro e w2 ⟨rfl, rfl⟩)
      have hsz := hc1.size
      simp only [World.size_alloc] at hsz
      refine (hdoes _ _ ((hc1.block _ (by simp) (by simp)).trans (by simp [go_sem])) (((((Ch.refl [] w).alloc _).alloc _).alloc _).alloc _ |>.pure hc1) (by omega)).mono ?_
      rintro e w2 ⟨rfl, hc2⟩
      have hz2 := hc2.size
      have h6 : w2.heap[w.heap.size + 1]? = some (.cells (tcells zeroT) 26 (0, 0)) := (hc2.block _ (by omega) (by simp)).trans ((hc1.block _ (by simp) (by simp)).trans (by simp [go_sem]))
      have h7 : w2.heap[w.heap.size + 1 + 1]? = some (.cells #[I 0] 32 (0, 0)) := (hc2.block _ (by omega) (by simp)).trans ((hc1.block _ (by simp) (by simp)).trans (by simp [go_sem]))
      simp only [retOr]
      go_wp2
      refine leaves_cons (f := 142) (args := #[.pointer (some ⟨w.heap.size + 1, 0, none⟩), .pointer (some ⟨w.heap.size + 1 + 1, 0, none⟩)]) (by simp) (by simp [go_sem]) ?_
      refine (catch_idle26 _ _ _).mono ?_
      rintro e u' w3 ⟨rfl, rfl, rfl⟩
      have n67 : (w.heap.size + 1 = w.heap.size + 1 + 1) = False := by simp
      have n76 : (w.heap.size + 1 + 1 = w.heap.size + 1) = False := by simp
      refine ⟨_, results_tries26 _ _ _ _ _ _ rfl rfl ?g6 ?gs ?g7, rfl, ?gc⟩
      case g6 =>
        simp only [zaa, zab, h6, n67, if_false, if_true, Option.map_some, zal]
        rw [laid_whole _ _ (by rw [zai, zai])]
      case g7 =>
        simp only [zaa, zab, h7, n76, if_false, if_true, Option.map_some, zad]
        rfl
      case gs => exact zai _
      case gc =>
        exact ((((((((Ch.refl [] w).alloc _).alloc _).alloc _).alloc _).pure hc1).trans2 hc2 (by simp <;> omega)).onObj (.inr (by simp <;> omega)) _).setCell (.inr (by simp <;> omega)) _
    | error c =>
      go_enter_defers Tryz.func76, Tryz.ntmps76
      go_wp2_with fail
      refine (hm1 _ _ ?_).mono ?_
      · simp [go_sem]
      rintro e w1 ⟨rfl, hc1⟩
      go_wp2_with (go_at_call 83; refine (tneed_yes _ _).mono ?_; rintro e w2 ⟨rfl, rfl⟩)
      have hsz := hc1.size
      simp only [World.size_alloc] at hsz
      refine (hdoes _ _ ((hc1.block _ (by simp) (by simp)).trans (by simp [go_sem])) (((((Ch.refl [] w).alloc _).alloc _).alloc _).alloc _ |>.pure hc1) (by omega)).mono ?_
      rintro e w2 ⟨rfl, hc2⟩
      have hz2 := hc2.size
      have h6 : w2.heap[w.heap.size + 1]? = some (.cells (tcells zeroT) 26 (0, 0)) := (hc2.block _ (by omega) (by simp)).trans ((hc1.block _ (by simp) (by simp)).trans (by simp [go_sem]))
      have h7 : w2.heap[w.heap.size + 1 + 1]? = some (.cells #[I 0] 32 (0, 0)) := (hc2.block _ (by omega) (by simp)).trans ((hc1.block _ (by simp) (by simp)).trans (by simp [go_sem]))
      simp only [retOr]
      refine leaves_cons (f := 142) (args := #[.pointer (some ⟨w.heap.size + 1, 0, none⟩), .pointer (some ⟨w.heap.size + 1 + 1, 0, none⟩)]) (by simp) (by simp [go_sem]) ?_
      refine (catch_panic26 _ _ _ _ (I 0) _ h6 rfl h7 (by simp)).mono ?_
      rintro e u' w3 ⟨rfl, rfl, hc3, h1, h2⟩
      refine ⟨_, results_tries26 _ _ _ _ _ _ rfl rfl h1 rfl h2, rfl, ?_⟩
      exact ((((((Ch.refl [] w).alloc _).alloc _).alloc _).alloc _ |>.pure hc1).trans2 hc2 (by simp <;> omega)).trans2 hc3 (by simp <;> omega)
theorem catch_idle91 (p q : Nat) (w : World) :
    CallsD Tryz.prog 206 #[.pointer (some ⟨p, 0, none⟩), .pointer (some ⟨q, 0, none⟩)] .returning w fun e u' w' => e = .returned (.tuple #[]) ∧ u' = .returning ∧ w = w' := by
  refine callsD_of_wpS Tryz.func206 rfl fun c₀ cs hu => ?_
  simp only [Tryz.ntmps206, List.size_toArray, List.length_cons, List.length_nil, Nat.reduceAdd, Nat.reduceSub, Array.replicate_succ, Array.replicate_zero, List.push_toArray, List.append_toArray, List.nil_append, List.cons_append]
  apply wpS_seq
  apply wpS_region
  simp [wpOpsS, go_sem, recoverD, hu, Exit.thenS]
  refine wpS_of_wp ?_
  go_wp2_with fail
  exact ⟨rfl, .returning, by cases c₀; simp_all, _, results_none rfl _ _ _, rfl, rfl, rfl⟩
theorem catch_panic91 (p q : Nat) (c : Int) (cs1 : Array Value) (c2 : Value) (w : World)
    (hp : w.heap[p]? = some (.cells cs1 210 (0, 0))) (hs : cs1.size = 41) (hq : w.heap[q]? = some (.cells #[c2] 32 (0, 0))) (hpq : (p = q) = False) :
    CallsD Tryz.prog 206 #[.pointer (some ⟨p, 0, none⟩), .pointer (some ⟨q, 0, none⟩)] (.panicking [{ v := .iface 32 (I c), recovered := false }]) w fun e u' w' =>
      e = .returned (.tuple #[]) ∧ u' = .panicking [{ v := .iface 32 (I c), recovered := true }] ∧ Ch [p, q] w w' ∧
      w'.heap[p]? = some (.cells (acells zeroA) 210 (0, 0)) ∧ w'.heap[q]? = some (.cells #[I c] 32 (0, 0)) := by
  have hp1 : (p = w.heap.size) = False := by have := (Array.getElem?_eq_some_iff.1 hp).1; simp; omega
  have hq1 : (q = w.heap.size) = False := by have := (Array.getElem?_eq_some_iff.1 hq).1; simp; omega
  have hqp : (q = p) = False := by simpa [eq_comm] using hpq
  refine callsD_of_wpS Tryz.func206 rfl fun c₀ cs hu => ?_
  simp only [Tryz.ntmps206, List.size_toArray, List.length_cons, List.length_nil, Nat.reduceAdd, Nat.reduceSub, Array.replicate_succ, Array.replicate_zero, List.push_toArray, List.append_toArray, List.nil_append, List.cons_append]
  apply wpS_seq
  apply wpS_region
  simp [wpOpsS, go_sem, recoverD, hu, Exit.thenS]
  refine wpS_of_wp ?_
  go_wp2_with fail
  refine ⟨rfl, _, rfl, _, results_none rfl _ _ _, rfl, rfl, ?_, ?_, ?_⟩
  · exact (((Ch.refl [p, q] w).alloc _).onObj (.inl (by simp)) _).setCell (.inl (by simp)) _
  · simp only [zaa, zab, zac, hpq, hp1, hp, if_false, if_true, Option.map_some, zal]
    rw [laid_whole _ _ (by rw [hs]; rfl)]
  · simp only [zaa, zab, zac, hqp, hq1, hq, if_false, if_true, Option.map_some, zad]
    rfl
theorem results_tries91 (tmps : Array Value) (p q : Nat) (w : World) (v : Array Value) (c : Int) (hp : tmps.getD 6 undef = .pointer (some ⟨p, 0, none⟩)) (hq : tmps.getD 7 undef = .pointer (some ⟨q, 0, none⟩))
    (h1 : w.heap[p]? = some (.cells v 210 (0, 0))) (hs : v.size = 41) (h2 : w.heap[q]? = some (.cells #[I c] 32 (0, 0))) :
    (results Tryz.f130 tmps).run Tryz.prog w = .ok (.tuple #[.agg v, I c]) w := by
  exact results_cell2 Tryz.results130 tmps _ _ w hp hq (run_loadVar_row w p _ _ v _ _ h1 Tryz.underlying210 rfl (by rw [hs]; kernel_rfl)) (zde Tryz.underlying32 rfl q w h2)
theorem tries91_any (t : Tab) (s : BitVec 64) (df : Nat) (cap : Array Value) (r : Except Int At) (w : World)
    (hdf : ∀ args w, (callFunc df args).run Tryz.prog w = .ok (.enter df args) w)
    (hdoes : mayT t s = true → ∀ b w1, w1.heap[b]? = some (.cells (hcells t s) 141 (0, 0)) → Ch [] w w1 → w.heap.size ≤ b →
      Calls Tryz.prog df (#[.pointer (some ⟨b, 0, none⟩)] ++ cap) w1 fun e w2 => e = retOr (fun v => .agg (acells v)) r ∧ Ch [b] w1 w2) :
    Calls Tryz.prog 130 #[U s, .agg (tcells t), .func (.func df) #[] cap] w fun e w' =>
      e = .returned (tupOr (fun v => .agg (acells v)) (.agg (acells zeroA)) (if mayT t s then r else .error 270)) ∧ Ch [] w w' := by
  cases hm : mayT t s with
  | false =>
    have hm1 := may_any t s
    rw [hm] at hm1
    clear hdoes hm
    simp only [if_false, Bool.false_eq_true]
    go_enter_defers Tryz.func130, Tryz.ntmps130
    go_wp2_with fail
    refine (hm1 _ _ ?_).mono ?_
    · simp [go_sem]
    rintro e w1 ⟨rfl, hc1⟩
    go_wp2_with (go_at_call 83; refine (tneed_no _ _).mono ?_; rintro e w2 ⟨rfl, rfl⟩)
    refine leaves_cons (f := 206) (args := #[.pointer (some ⟨w.heap.size + 1, 0, none⟩), .pointer (some ⟨w.heap.size + 1 + 1, 0, none⟩)]) (by simp) (by simp [go_sem]) ?_
    refine (catch_panic91 _ _ _ (acells zeroA) (I 0) _ ?_ rfl ?_ ?_).mono ?_
    · exact (hc1.block _ (by simp) (by simp)).trans (by simp [go_sem])
    · exact (hc1.block _ (by simp) (by simp)).trans (by simp [go_sem])
    · simp
    rintro e u' w2 ⟨rfl, rfl, hc2, h1, h2⟩
    have hsz := hc1.size
    simp only [World.size_alloc] at hsz
    refine ⟨_, results_tries91 _ _ _ _ _ _ rfl rfl h1 rfl h2, rfl, ?_⟩
    exact (((((Ch.refl [] w).alloc _).alloc _).alloc _).alloc _ |>.pure hc1).trans2 hc2 (by simp <;> omega)
  | true =>
    have hm1 := may_any t s
    rw [hm] at hm1
    have hdoes := hdoes hm
    clear hm
    simp only [if_true]
    cases r with
    | ok v =>
      go_enter_defers Tryz.func130, Tryz.ntmps130
      go_wp2_with fail
      refine (hm1 _ _ ?_).mono ?_
      · simp [go_sem]
      rintro e w1 ⟨rfl, hc1⟩
      go_wp2_with (go_at_call 83; refine (tneed_yes _ _).mono ?_; rintro e w2 ⟨rfl, rfl⟩)
      have hsz := hc1.size
      simp only [World.size_alloc] at hsz
      refine (hdoes _ _ ((hc1.block _ (by simp) (by simp)).trans (by simp [go_sem])) (((((Ch.refl [] w).alloc _).alloc _).alloc _).alloc _ |>.pure hc1) (by omega)).mono ?_
      rintro e w2 ⟨rfl, hc2⟩
      have hz2 := hc2.size
      have h6 : w2.heap[w.heap.size + 1]? = some (.cells (acells zeroA) 210 (0, 0)) := (hc2.block _ (by omega) (by simp)).trans ((hc1.block _ (by simp) (by simp)).trans (by simp [go_sem]))
      have h7 : w2.heap[w.heap.size + 1 + 1]? = some (.cells #[I 0] 32 (0, 0)) := (hc2.block _ (by omega) (by simp)).trans ((hc1.block _ (by simp) (by simp)).trans (by simp [go_sem]))
      simp only [retOr]
      go_wp2
      refine leaves_cons (f := 206) (args := #[.pointer (some ⟨w.heap.size + 1, 0, none⟩), .pointer (some ⟨w.heap.size + 1 + 1, 0, none⟩)]) (by simp) (by simp [go_sem]) ?_
      refine (catch_idle91 _ _ _).mono ?_
      rintro e u' w3 ⟨rfl, rfl, rfl⟩
      have n67 : (w.heap.size + 1 = w.heap.size + 1 + 1) = False := by simp
      have n76 : (w.heap.size + 1 + 1 = w.heap.size + 1) = False := by simp
      refine ⟨_, results_tries91 _ _ _ _ _ _ rfl rfl ?g6 ?gs ?g7, rfl, ?gc⟩
      case g6 =>
        simp only [zaa, zab, h6, n67, if_false, if_true, Option.map_some, zal]
        rw [laid_whole _ _ (by rw [zcd, zcd])]
      case g7 =>
        simp only [zaa, zab, h7, n76, if_false, if_true, Option.map_some, zad]
        rfl
      case gs => exact zcd _
      case gc =>
        exact ((((((((Ch.refl [] w).alloc _).alloc _).alloc _).alloc _).pure hc1).trans2 hc2 (by simp <;> omega)).onObj (.inr (by simp <;> omega)) _).setCell (.inr (by simp <;> omega)) _
    | error c =>
      go_enter_defers Tryz.func130, Tryz.ntmps130
      go_wp2_with fail
      refine (hm1 _ _ ?_).mono ?_
      · simp [go_sem]
      rintro e w1 ⟨rfl, hc1⟩
      go_wp2_with (go_at_call 83; refine (tneed_yes _ _).mono ?_; rintro e w2 ⟨rfl, rfl⟩)
      have hsz := hc1.size
      simp only [World.size_alloc] at hsz
      refine (hdoes _ _ ((hc1.block _ (by simp) (by simp)).trans (by simp [go_sem])) (((((Ch.refl [] w).alloc _).alloc _).alloc _).alloc _ |>.pure hc1) (by omega)).mono ?_
      rintro e w2 ⟨rfl, hc2⟩
      have hz2 := hc2.size
      have h6 : w2.heap[w.heap.size + 1]? = some (.cells (acells zeroA) 210 (0, 0)) := (hc2.block _ (by omega) (by simp)).trans ((hc1.block _ (by simp) (by simp)).trans (by simp [go_sem]))
      have h7 : w2.heap[w.heap.size + 1 + 1]? = some (.cells #[I 0] 32 (0, 0)) := (hc2.block _ (by omega) (by simp)).trans ((hc1.block _ (by simp) (by simp)).trans (by simp [go_sem]))
      simp only [retOr]
      refine leaves_cons (f := 206) (args := #[.pointer (some ⟨w.heap.size + 1, 0, none⟩), .pointer (some ⟨w.heap.size + 1 + 1, 0, none⟩)]) (by simp) (by simp [go_sem]) ?_
      refine (catch_panic91 _ _ _ _ (I 0) _ h6 rfl h7 (by simp)).mono ?_
      rintro e u' w3 ⟨rfl, rfl, hc3, h1, h2⟩
      refine ⟨_, results_tries91 _ _ _ _ _ _ rfl rfl h1 rfl h2, rfl, ?_⟩
      exact ((((((Ch.refl [] w).alloc _).alloc _).alloc _).alloc _ |>.pure hc1).trans2 hc2 (by simp <;> omega)).trans2 hc3 (by simp <;> omega)
theorem catch_idlep (p q : Nat) (w : World) :
    CallsD Tryz.prog 223 #[.pointer (some ⟨p, 0, none⟩), .pointer (some ⟨q, 0, none⟩)] .returning w fun e u' w' => e = .returned (.tuple #[]) ∧ u' = .returning ∧ w = w' := by
  refine callsD_of_wpS Tryz.func223 rfl fun c₀ cs hu => ?_
  simp only [Tryz.ntmps223, List.size_toArray, List.length_cons, List.length_nil, Nat.reduceAdd, Nat.reduceSub, Array.replicate_succ, Array.replicate_zero, List.push_toArray, List.append_toArray, List.nil_append, List.cons_append]
  apply wpS_seq
  apply wpS_region
  simp [wpOpsS, go_sem, recoverD, hu, Exit.thenS]
  refine wpS_of_wp ?_
  go_wp2_with fail
  exact ⟨rfl, .returning, by cases c₀; simp_all, _, results_none rfl _ _ _, rfl, rfl, rfl⟩
theorem catch_panicp (p q : Nat) (c : Int) (c1 : Value) (c2 : Value) (w : World)
    (hp : w.heap[p]? = some (.cells #[c1] 27 (0, 0))) (hq : w.heap[q]? = some (.cells #[c2] 32 (0, 0))) (hpq : (p = q) = False) :
    CallsD Tryz.prog 223 #[.pointer (some ⟨p, 0, none⟩), .pointer (some ⟨q, 0, none⟩)] (.panicking [{ v := .iface 32 (I c), recovered := false }]) w fun e u' w' =>
      e = .returned (.tuple #[]) ∧ u' = .panicking [{ v := .iface 32 (I c), recovered := true }] ∧ Ch [p, q] w w' ∧
      w'.heap[p]? = some (.cells #[.slice none 0 0] 27 (0, 0)) ∧ w'.heap[q]? = some (.cells #[I c] 32 (0, 0)) := by
  have hp1 : (p = w.heap.size) = False := by have := (Array.getElem?_eq_some_iff.1 hp).1; simp; omega
  have hq1 : (q = w.heap.size) = False := by have := (Array.getElem?_eq_some_iff.1 hq).1; simp; omega
  have hqp : (q = p) = False := by simpa [eq_comm] using hpq
  refine callsD_of_wpS Tryz.func223 rfl fun c₀ cs hu => ?_
  simp only [Tryz.ntmps223, List.size_toArray, List.length_cons, List.length_nil, Nat.reduceAdd, Nat.reduceSub, Array.replicate_succ, Array.replicate_zero, List.push_toArray, List.append_toArray, List.nil_append, List.cons_append]
  apply wpS_seq
  apply wpS_region
  simp [wpOpsS, go_sem, recoverD, hu, Exit.thenS]
  refine wpS_of_wp ?_
  go_wp2_with fail
  refine ⟨rfl, _, rfl, _, results_none rfl _ _ _, rfl, rfl, ?_, ?_, ?_⟩
  · exact ((Ch.refl [p, q] w).setCell (p := ⟨p, 0, none⟩) (.inl (by simp)) _).setCell (p := ⟨q, 0, none⟩) (.inl (by simp)) _
  · simp only [zaa, hpq, hp, if_false, if_true, Option.map_some, zad]
    rfl
  · simp only [zaa, hqp, hq, if_false, if_true, Option.map_some, zad]
    rfl
theorem results_triesp (tmps : Array Value) (p q : Nat) (w : World) (v : Value) (c : Int) (hp : tmps.getD 6 undef = .pointer (some ⟨p, 0, none⟩)) (hq : tmps.getD 7 undef = .pointer (some ⟨q, 0, none⟩))
    (h1 : w.heap[p]? = some (.cells #[v] 27 (0, 0))) (h2 : w.heap[q]? = some (.cells #[I c] 32 (0, 0))) :
    (results Tryz.f159 tmps).run Tryz.prog w = .ok (.tuple #[v, I c]) w := by
  exact results_cell2 Tryz.results159 tmps _ _ w hp hq (zde Tryz.underlying27 rfl p w h1) (zde Tryz.underlying32 rfl q w h2)
theorem triesp_any (t : Tab) (s : BitVec 64) (df : Nat) (cap : Array Value) (n : Nat) (xs : List Value) (w : World)
    (hdf : ∀ args w, (callFunc df args).run Tryz.prog w = .ok (.enter df args) w)
    (hdoes : mayT t s = true → ∀ b w1, w1.heap[b]? = some (.cells (hcells t s) 141 (0, 0)) → Ch [] w w1 → w.heap.size ≤ b →
      Calls Tryz.prog df (#[.pointer (some ⟨b, 0, none⟩)] ++ cap) w1 fun e w2 => ∃ a c, e = .returned (.slice a n c) ∧ w2.ownsRow w1.heap.size 31 2 (.slice a n c) n xs ∧ Ch [b] w1 w2) :
    Calls Tryz.prog 159 #[U s, .agg (tcells t), .func (.func df) #[] cap] w fun e w' =>
      ∃ a c, e = .returned (.tuple #[.slice a (if mayT t s then n else 0) c, I (if mayT t s then 0 else 270)]) ∧ (mayT t s = true → w'.ownsRow w.heap.size 31 2 (.slice a n c) n xs) ∧ (mayT t s = false → a = none) ∧ Ch [] w w' := by
  cases hm : mayT t s with
  | false =>
    have hm1 := may_any t s
    rw [hm] at hm1
    clear hdoes hm
    simp only [if_false, Bool.false_eq_true]
    go_enter_defers Tryz.func159, Tryz.ntmps159
    go_wp2_with fail
    refine (hm1 _ _ ?_).mono ?_
    · simp [go_sem]
    rintro e w1 ⟨rfl, hc1⟩
    go_wp2_with (go_at_call 83; refine (tneed_no _ _).mono ?_; rintro e w2 ⟨rfl, rfl⟩)
    refine leaves_cons (f := 223) (args := #[.pointer (some ⟨w.heap.size + 1, 0, none⟩), .pointer (some ⟨w.heap.size + 1 + 1, 0, none⟩)]) (by simp) (by simp [go_sem]) ?_
    refine (catch_panicp _ _ _ (.slice none 0 0) (I 0) _ ?_ ?_ ?_).mono ?_
    · exact (hc1.block _ (by simp) (by simp)).trans (by simp [go_sem])
    · exact (hc1.block _ (by simp) (by simp)).trans (by simp [go_sem])
    · simp
    rintro e u' w2 ⟨rfl, rfl, hc2, h1, h2⟩
    have hsz := hc1.size
    simp only [World.size_alloc] at hsz
    refine ⟨_, results_triesp _ _ _ _ _ _ rfl rfl h1 h2, none, 0, rfl, fun h => by simp at h, fun _ => rfl, ?_⟩
    exact (((((Ch.refl [] w).alloc _).alloc _).alloc _).alloc _ |>.pure hc1).trans2 hc2 (by simp <;> omega)
  | true =>
    have hm1 := may_any t s
    rw [hm] at hm1
    have hdoes := hdoes hm
    clear hm
    simp only [if_true]
    go_enter_defers Tryz.func159, Tryz.ntmps159
    go_wp2_with fail
    refine (hm1 _ _ ?_).mono ?_
    · simp [go_sem]
    rintro e w1 ⟨rfl, hc1⟩
    go_wp2_with (go_at_call 83; refine (tneed_yes _ _).mono ?_; rintro e w2 ⟨rfl, rfl⟩)
    have hsz := hc1.size
    simp only [World.size_alloc] at hsz
    refine (hdoes _ _ ((hc1.block _ (by simp) (by simp)).trans (by simp [go_sem])) (((((Ch.refl [] w).alloc _).alloc _).alloc _).alloc _ |>.pure hc1) (by omega)).mono ?_
    rintro e w2 ⟨a, c, rfl, hown, hc2⟩
    have hz2 := hc2.size
    have h6 : w2.heap[w.heap.size + 1]? = some (.cells #[.slice none 0 0] 27 (0, 0)) := (hc2.block _ (by omega) (by simp)).trans ((hc1.block _ (by simp) (by simp)).trans (by simp [go_sem]))
    have h7 : w2.heap[w.heap.size + 1 + 1]? = some (.cells #[I 0] 32 (0, 0)) := (hc2.block _ (by omega) (by simp)).trans ((hc1.block _ (by simp) (by simp)).trans (by simp [go_sem]))
    go_wp2
    refine leaves_cons (f := 223) (args := #[.pointer (some ⟨w.heap.size + 1, 0, none⟩), .pointer (some ⟨w.heap.size + 1 + 1, 0, none⟩)]) (by simp) (by simp [go_sem]) ?_
    refine (catch_idlep _ _ _).mono ?_
    rintro e u' w3 ⟨rfl, rfl, rfl⟩
    have n67 : (w.heap.size + 1 = w.heap.size + 1 + 1) = False := by simp
    have n76 : (w.heap.size + 1 + 1 = w.heap.size + 1) = False := by simp
    have hfin : Ch [w.heap.size + 1, w.heap.size + 1 + 1] w2 ((w2.setCell ⟨w.heap.size + 1, 0, none⟩ (.slice a n c)).setCell ⟨w.heap.size + 1 + 1, 0, none⟩ (I 0)) := ((Ch.refl _ w2).setCell (p := ⟨w.heap.size + 1, 0, none⟩) (.inl (by simp)) _).setCell (p := ⟨w.heap.size + 1 + 1, 0, none⟩) (.inl (by simp)) _
    have hown2 := own_mono (own_ch hown hfin (by simp <;> omega)) (base' := w.heap.size) (by omega)
    refine ⟨_, results_triesp _ _ _ _ (.slice a n c) _ rfl rfl ?g6 ?g7, a, c, rfl, fun _ => hown2, fun h => by simp at h, ?gc⟩
    case g6 =>
      simp only [zaa, h6, n67, if_false, if_true, Option.map_some, zad]
      rfl
    case g7 =>
      simp only [zaa, h7, n76, if_false, if_true, Option.map_some, zad]
      rfl
    case gc =>
      exact ((((((((Ch.refl [] w).alloc _).alloc _).alloc _).alloc _).pure hc1).trans2 hc2 (by simp <;> omega)).setCell (p := ⟨_, _, none⟩) (.inr (by simp <;> omega)) _).setCell (.inr (by simp <;> omega)) _
end
end Go.Proofs.Hc
