/- order2Ordered, medianOrdered, medianAdjacentOrdered, choosePivotOrdered at words. -/
import Derived.Test.YtfoicjijngfhbaaGreatDoorKDa
import Derived.Test.YtfoicjijngfhbaaGreatDoorKHm
import Derived.Test.YtfoicjijngfhbaaGreatDoorKHr
import Derived.Below
import Derived.BigQuiet
import Derived.Deep.Cut
import Derived.Deep.Draws
import Derived.Deep.QuietTactic
import Derived.Deep.RegionHeld
import Derived.Laws.CopyRow
import Derived.Laws.Tables
import Derived.Lib.Hide
import Derived.LoopIn
import Derived.LoopNIn
import Derived.OwnWalkIn
import Derived.RangeFuncCalls
import Derived.RangeFuncRecord
import Derived.RangeFuncSeq
import Derived.Recover
import Derived.Sort.Defs
import Derived.Sort.LotD1
import Derived.TacticsInMore
import Derived.Test.YtfoicjijngfhbaaGreatDoorProg
import Derived.WalkKit
import Derived.WalkLawsBesides
set_option linter.unusedSimpArgs false
set_option linter.unusedVariables false
namespace Go.Proofs.Hc
open Go.RowKit
set_option linter.unusedVariables false
set_option linter.unusedSimpArgs false
attribute [local go_sem] wrap_u64 wrap_u8 bits_xor64 bits_and64 bits_or64 bits_not64 bits_xor8 bits_and8 bits_or8 signed64 signed8 ofInt_N BitVec.ofInt_add BitVec.ofInt_mul ofInt_sub' ofInt8_N64 ofInt64_N8 wide8 eqN neN shr_pow shr1 shr7 shr56
attribute [local go_sem high] bits_com64 shl_wrap
attribute [local go_sem] nn2 nm2 nn3 nm3 nn4 nm4 nn5 nm5 nn6 nm6 nn7 nm7 nn8 nm8
attribute [local go_sem] Oper.semAt_some make_func1
attribute [local go_sem] cell_heap ice_heap cellAt_cells iceAt_cells setAt_cells size_setCell rowAt_cells canLay_cells laidAt_cells size_onObj rowRes_some layRes_true
attribute [local go_sem ↓] heap_alloc heap_drew heap_drewN heap_setCell heap_putObj heap_onObj
theorem less_same (x y : BitVec 64) (w : World) : Calls Tryz.prog 76 #[U x, U y] w fun e w' => e = .returned (.bool (ltW x y)) ∧ w' = w :=
  (less_any x y w).mono fun _ _ h => ⟨h.1, h.2.symm⟩
theorem RowW.ch {w w' : World} {q : Nat} {d : Array (BitVec 64)} {z : Array Value} {S : List Nat} (h : RowW w q d z) (hc : Ch S w w') (hq : q ∉ S) : RowW w' q d z := by
  unfold RowW at *
  exact (hc.block q (Array.getElem?_eq_some_iff.1 h).1 hq).trans h
set_option maxHeartbeats 4000000 in
set_option maxRecDepth 100000 in
theorem order2_any (q g cap a b n s : Nat) (d : Array (BitVec 64)) (hn : d.size = n) (z : Array Value) (w : World) (ha : a < n) (hb : b < n) (hs : n < 1152921504606846976) (hss : s < 1000) (hqg : ¬ q = g) (hq : RowW w q d z) (hg : w.heap[g]? = some (.cells #[I s] 3 (0, 0))) :
    Calls Tryz.prog 101 #[.slice (some ⟨q, 0, none⟩) n cap, I a, I b, .pointer (some ⟨g, 0, none⟩)] w fun e w' => e = .returned (.tuple #[I (Go.Sort.order2 ltW d a b s).1, I (Go.Sort.order2 ltW d a b s).2.1]) ∧ w'.heap[g]? = some (.cells #[I (Go.Sort.order2 ltW d a b s).2.2] 3 (0, 0)) ∧ Ch [g] w w' := by
  have cA := dcells_get d z a (by omega)
  have cB := dcells_get d z b (by omega)
  unfold Go.Sort.order2
  obtain ⟨X, hX⟩ : ∃ x, d[a]! = x := ⟨_, rfl⟩
  obtain ⟨Y, hY⟩ : ∃ x, d[b]! = x := ⟨_, rfl⟩
  rw [hX] at cA ⊢
  rw [hY] at cB ⊢
  have k1 : (a : Int) < n := by omega
  have k2 : (b : Int) < n := by omega
  have hrow : w.heap[q]? = some (.cells (dcells d z) 22 (0, 0)) := hq
  have hgq : ¬ g = q := fun e => hqg e.symm
  have L := fun w => less_same Y X w
  obtain ⟨bb, hbb⟩ : ∃ bb, ltW Y X = bb := ⟨_, rfl⟩
  rw [hbb] at L ⊢
  clear hq hX hY hbb
  cases bb with
  | false =>
    rw [if_neg (by decide)]
    go_enter Tryz.func101, Tryz.ntmps101
    go_wp2
    go_quiet (first | (go_at_call 76; refine Calls.quiet_of_same (L _)))
    go_wp2
    refine bodyPost_ret (results_tmp2 rfl _ _ _) rfl ?_
    exact ⟨rfl, hg, (Ch.refl _ _).drewN _⟩
  | true =>
    rw [if_pos rfl]
    go_enter Tryz.func101, Tryz.ntmps101
    go_wp2
    go_quiet (first | (go_at_call 76; refine Calls.quiet_of_same (L _)))
    go_wp2
    refine bodyPost_ret (results_tmp2 rfl _ _ _) rfl ?_
    refine ⟨rfl, ?_, ((Ch.refl _ _).drewN _).setCell (.inl (by simp)) _⟩
    rw [heap_setCell, if_pos rfl, heap_drewN, hg]
    rfl
theorem order2_mem (lt : BitVec 64 → BitVec 64 → Bool) (d : Array (BitVec 64)) (a b s : Nat) : ((Go.Sort.order2 lt d a b s).1 = a ∨ (Go.Sort.order2 lt d a b s).1 = b) ∧ ((Go.Sort.order2 lt d a b s).2.1 = a ∨ (Go.Sort.order2 lt d a b s).2.1 = b) ∧ s ≤ (Go.Sort.order2 lt d a b s).2.2 ∧ (Go.Sort.order2 lt d a b s).2.2 ≤ s + 1 := by
  unfold Go.Sort.order2
  split
  · exact ⟨.inr rfl, .inl rfl, by simp, Nat.le_refl _⟩
  · exact ⟨.inl rfl, .inr rfl, Nat.le_refl _, by simp⟩
set_option maxHeartbeats 4000000 in
set_option maxRecDepth 100000 in
theorem median_any (q g cap a b c n s : Nat) (d : Array (BitVec 64)) (hn : d.size = n) (z : Array Value) (w : World) (ha : a < n) (hb : b < n) (hc : c < n) (hs : n < 1152921504606846976) (hss : s < 900) (hqg : ¬ q = g) (hq : RowW w q d z) (hg : w.heap[g]? = some (.cells #[I s] 3 (0, 0))) :
    Calls Tryz.prog 93 #[.slice (some ⟨q, 0, none⟩) n cap, I a, I b, I c, .pointer (some ⟨g, 0, none⟩)] w fun e w' => e = .returned (I (Go.Sort.median ltW d a b c s).1) ∧ w'.heap[g]? = some (.cells #[I (Go.Sort.median ltW d a b c s).2] 3 (0, 0)) ∧ Ch [g] w w' := by
  unfold Go.Sort.median
  have O1 := fun w => order2_any q g cap a b n s d hn z w ha hb hs (by omega) hqg
  have m1 := order2_mem ltW d a b s
  obtain ⟨r1, hr1⟩ : ∃ r, Go.Sort.order2 ltW d a b s = r := ⟨_, rfl⟩
  rw [hr1] at O1 m1 ⊢
  obtain ⟨x1, y1, s1⟩ := r1
  dsimp only at *
  have O2 := fun w => order2_any q g cap y1 c n s1 d hn z w (by omega) hc hs (by omega) hqg
  have m2 := order2_mem ltW d y1 c s1
  obtain ⟨r2, hr2⟩ : ∃ r, Go.Sort.order2 ltW d y1 c s1 = r := ⟨_, rfl⟩
  rw [hr2] at O2 m2 ⊢
  obtain ⟨x2, y2, s2⟩ := r2
  dsimp only at *
  have O3 := fun w => order2_any q g cap x1 x2 n s2 d hn z w (by omega) (by omega) hs (by omega) hqg
  obtain ⟨r3, hr3⟩ : ∃ r, Go.Sort.order2 ltW d x1 x2 s2 = r := ⟨_, rfl⟩
  rw [hr3] at O3 ⊢
  obtain ⟨x3, y3, s3⟩ := r3
  dsimp only at *
  have hqs : q ∉ [g] := by simpa using hqg
  clear m1 m2 hr1 hr2 hr3 hn
  go_enter Tryz.func93, Tryz.ntmps93
  go_wp2_with fail
  refine (O1 w hq hg).mono ?_
  rintro e w1 ⟨rfl, h1, c1⟩
  have q1 := hq.ch c1 hqs
  clear hq hg
  go_wp2_with fail
  refine (O2 w1 q1 h1).mono ?_
  rintro e w2 ⟨rfl, h2, c2⟩
  have q2 := q1.ch c2 hqs
  have c02 := c1.trans c2
  clear q1 h1 c1 c2
  go_wp2_with fail
  refine (O3 w2 q2 h2).mono ?_
  rintro e w3 ⟨rfl, h3, c3⟩
  have c03 := c02.trans c3
  clear q2 h2 c02 c3
  go_wp2
  go_ret
  exact ⟨rfl, h3, c03⟩
theorem median_lt (d : Array (BitVec 64)) (a b c s n : Nat) (ha : a < n) (hb : b < n) (hc : c < n) : (Go.Sort.median ltW d a b c s).1 < n ∧ (Go.Sort.median ltW d a b c s).2 ≤ s + 3 := by
  unfold Go.Sort.median
  have m1 := order2_mem ltW d a b s
  obtain ⟨r1, hr1⟩ : ∃ r, Go.Sort.order2 ltW d a b s = r := ⟨_, rfl⟩
  rw [hr1] at m1 ⊢
  obtain ⟨x1, y1, s1⟩ := r1
  dsimp only at *
  have m2 := order2_mem ltW d y1 c s1
  obtain ⟨r2, hr2⟩ : ∃ r, Go.Sort.order2 ltW d y1 c s1 = r := ⟨_, rfl⟩
  rw [hr2] at m2 ⊢
  obtain ⟨x2, y2, s2⟩ := r2
  dsimp only at *
  have m3 := order2_mem ltW d x1 x2 s2
  omega
set_option maxHeartbeats 4000000 in
set_option maxRecDepth 100000 in
theorem medianAdj_any (q g cap a n s : Nat) (d : Array (BitVec 64)) (hn : d.size = n) (z : Array Value) (w : World) (ha : 0 < a) (hb : a + 1 < n) (hs : n < 1152921504606846976) (hss : s < 900) (hqg : ¬ q = g) (hq : RowW w q d z) (hg : w.heap[g]? = some (.cells #[I s] 3 (0, 0))) :
    Calls Tryz.prog 92 #[.slice (some ⟨q, 0, none⟩) n cap, I a, .pointer (some ⟨g, 0, none⟩)] w fun e w' => e = .returned (I (Go.Sort.medianAdjacent ltW d a s).1) ∧ w'.heap[g]? = some (.cells #[I (Go.Sort.medianAdjacent ltW d a s).2] 3 (0, 0)) ∧ Ch [g] w w' := by
  unfold Go.Sort.medianAdjacent
  have O1 := median_any q g cap (a - 1) a (a + 1) n s d hn z w (by omega) (by omega) (by omega) hs hss hqg hq hg
  obtain ⟨r, hr⟩ : ∃ r, Go.Sort.median ltW d (a - 1) a (a + 1) s = r := ⟨_, rfl⟩
  rw [hr] at O1 ⊢
  obtain ⟨k, rfl⟩ : ∃ k, a = k + 1 := ⟨a - 1, by omega⟩
  rw [show k + 1 - 1 = k by omega] at O1
  clear hr hq hg hn
  go_enter Tryz.func92, Tryz.ntmps92
  go_wp2_with fail
  refine O1.mono ?_
  rintro e w3 ⟨rfl, h3, c3⟩
  clear O1
  go_wp2
  go_ret
  exact ⟨rfl, h3, c3⟩
end Go.Proofs.Hc
