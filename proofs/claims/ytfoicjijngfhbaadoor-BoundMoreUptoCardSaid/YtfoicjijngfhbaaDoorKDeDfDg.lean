/- slices.reverseRangeOrdered at words. -/
import Derived.Test.YtfoicjijngfhbaaDoorKDd
import Derived.BigQuiet
import Derived.Sort.LotD1
set_option linter.unusedSimpArgs false
set_option linter.unusedVariables false
namespace Go.Proofs.Hc
open Go.RowKit
set_option linter.unusedVariables false
set_option linter.unusedSimpArgs false
attribute [local go_sem] wrap_u64 wrap_u8 bits_xor64 bits_and64 bits_or64 bits_not64 bits_xor8 bits_and8 bits_or8 signed64 signed8 ofInt_N BitVec.ofInt_add BitVec.ofInt_mul ofInt_sub' ofInt8_N64 ofInt64_N8 wide8 eqN neN shr_pow shr1 shr7 shr56
attribute [local go_sem high] bits_com64 shl_wrap
attribute [local go_sem] nn2 nm2 nn3 nm3 nn4 nm4 nn5 nm5 nn6 nm6 nn7 nm7 nn8 nm8
attribute [local go_sem] Oper.semAt_some make_func1
attribute [local go_sem] cell_heap ice_heap cellAt_cells iceAt_cells setAt_cells size_setCell rowAt_cells canLay_cells laidAt_cells size_onObj rowRes_some layRes_true
attribute [local go_sem ↓] heap_alloc heap_drew heap_drewN heap_setCell heap_putObj heap_onObj
theorem rev_go (i j : Nat) (d : Array (BitVec 64)) (h : i < j) : Go.Sort.reverseLoop i j d = Go.Sort.reverseLoop (i + 1) (j - 1) (Go.Sort.swp d i j) := by
  rw [Go.Sort.reverseLoop, if_pos h]
theorem rev_end (i j : Nat) (d : Array (BitVec 64)) (h : ¬ i < j) : Go.Sort.reverseLoop i j d = d := by
  rw [Go.Sort.reverseLoop, if_neg h]
set_option maxHeartbeats 4000000 in
set_option maxRecDepth 100000 in
theorem rev_any (q cap a b n : Nat) (d : Array (BitVec 64)) (hn : d.size = n) (z : Array Value) (w : World) (hab : a < b) (hb : b ≤ n) (hs : n < 1152921504606846976) (hq : RowW w q d z) :
    Calls Tryd.prog 68 #[.slice (some ⟨q, 0, none⟩) n cap, I a, I b] w fun e w' => e = .returned (.tuple #[]) ∧ RowW w' q (Go.Sort.reverseRange d a b) z ∧ Ch [q] w w' := by
  unfold Go.Sort.reverseRange
  obtain ⟨j0, hj0⟩ : ∃ j, b - 1 = j := ⟨_, rfl⟩
  rw [hj0]
  have e1 : (b : Int) - 1 = j0 := by omega
  have hj1 : j0 < n := by omega
  have HN := Lib.hid hn
  have HQ := Lib.hid hq
  clear hn hq hj0
  go_enter Tryd.func68, Tryd.ntmps68
  go_wp2
  go_loopw [6, 7] (fun vi vj wr => ∃ (i j : Nat) (dj : Array (BitVec 64)), vi = I i ∧ vj = I j ∧ i ≤ n ∧ j < n ∧ dj.size = n ∧ RowW wr q dj z ∧ Go.Sort.reverseLoop i j dj = Go.Sort.reverseLoop a j0 d ∧ Ch [q] w wr) (fun vi vj _ => (intOf vj).toNat + 1 - (intOf vi).toNat)
  case atStart => exact ⟨a, j0, d, rfl, by first | rfl | go_num, by omega, hj1, HN.out, HQ.out, rfl, Ch.refl _ _⟩
  case round =>
    obtain ⟨i, j, dj, hi, hj, hin, hjn, hdj, hrow, hrv, hC⟩ := hrel
    subst hi hj
    have HV := Lib.hid hrv
    clear hrv HQ HN
    rcases (show ¬ i < j ∨ i < j by omega) with hlt | hlt
    · have hE := Lib.hid (rev_end i j dj hlt)
      have HRW := Lib.hid hrow
      have hlti : ¬ (i : Int) < j := by omega
      clear hrow hdj
      go_wp2
      go_end0
      exact ⟨rfl, by rw [← HV.out, hE.out]; exact HRW.out, hC⟩
    · have hE := Lib.hid (rev_go i j dj hlt)
      have hlti : (i : Int) < j := by omega
      have cA := dcells_get dj z i (by omega)
      have cB := dcells_get dj z j (by omega)
      have SW := fun wq (h : RowW wq q dj z) => RowW.swap h i j (by omega) (by omega)
      have hsz := (swp_size dj i j).trans hdj
      obtain ⟨X, hX⟩ : ∃ x, dj[i]! = x := ⟨_, rfl⟩
      obtain ⟨Y, hY⟩ : ∃ x, dj[j]! = x := ⟨_, rfl⟩
      rw [hX] at cA SW
      rw [hY] at cB SW
      have HSW := Lib.hid SW
      have HSZ := Lib.hid hsz
      have hrow2 : wr.heap[q]? = some (.cells (dcells dj z) 32 (0, 0)) := hrow
      have k1 : (i : Int) < n := by omega
      have k2 : (j : Int) < n := by omega
      have k3 : (0 : Int) ≤ i := by omega
      have k4 : (0 : Int) ≤ j := by omega
      have k5 : ¬ i = j := by omega
      have k6 : ¬ j = i := by omega
      have HR := Lib.hid hrow
      have HC := Lib.hid hC
      clear hrow SW hsz hC
      go_wp2
      go_region
      all_goals go_wp2
      go_roundw
      case rel => exact ⟨i + 1, j - 1, _, by go_num, by go_num, by omega, by omega, HSZ.out, HSW.out wr HR.out, by rw [← HV.out, hE.out], (((HC.out.setCell (.inl (by simp)) _).setCell (.inl (by simp)) _)).drew⟩
      case measure => simp [intOf]; omega
end Go.Proofs.Hc
/- order2Ordered, medianOrdered, medianAdjacentOrdered, choosePivotOrdered at words. -/
namespace Go.Proofs.Hc
open Go.RowKit
set_option linter.unusedVariables false
set_option linter.unusedSimpArgs false
attribute [local go_sem] wrap_u64 wrap_u8 bits_xor64 bits_and64 bits_or64 bits_not64 bits_xor8 bits_and8 bits_or8 signed64 signed8 ofInt_N BitVec.ofInt_add BitVec.ofInt_mul ofInt_sub' ofInt8_N64 ofInt64_N8 wide8 eqN neN shr_pow shr1 shr7 shr56
attribute [local go_sem high] bits_com64 shl_wrap
attribute [local go_sem] nn2 nm2 nn3 nm3 nn4 nm4 nn5 nm5 nn6 nm6 nn7 nm7 nn8 nm8
attribute [local go_sem] Oper.semAt_some make_func1
attribute [local go_sem] cell_heap ice_heap cellAt_cells iceAt_cells setAt_cells size_setCell rowAt_cells canLay_cells laidAt_cells size_onObj rowRes_some layRes_true
attribute [local go_sem ↓] heap_alloc heap_drew heap_drewN heap_setCell heap_putObj heap_onObj
theorem less_same (x y : BitVec 64) (w : World) : Calls Tryd.prog 70 #[U x, U y] w fun e w' => e = .returned (.bool (ltW x y)) ∧ w' = w :=
  (less_any x y w).mono fun _ _ h => ⟨h.1, h.2.symm⟩
theorem RowW.ch {w w' : World} {q : Nat} {d : Array (BitVec 64)} {z : Array Value} {S : List Nat} (h : RowW w q d z) (hc : Ch S w w') (hq : q ∉ S) : RowW w' q d z := by
  unfold RowW at *
  exact (hc.block q (Array.getElem?_eq_some_iff.1 h).1 hq).trans h
set_option maxHeartbeats 4000000 in
set_option maxRecDepth 100000 in
theorem order2_any (q g cap a b n s : Nat) (d : Array (BitVec 64)) (hn : d.size = n) (z : Array Value) (w : World) (ha : a < n) (hb : b < n) (hs : n < 1152921504606846976) (hss : s < 1000) (hqg : ¬ q = g) (hq : RowW w q d z) (hg : w.heap[g]? = some (.cells #[I s] 3 (0, 0))) :
    Calls Tryd.prog 87 #[.slice (some ⟨q, 0, none⟩) n cap, I a, I b, .pointer (some ⟨g, 0, none⟩)] w fun e w' => e = .returned (.tuple #[I (Go.Sort.order2 ltW d a b s).1, I (Go.Sort.order2 ltW d a b s).2.1]) ∧ w'.heap[g]? = some (.cells #[I (Go.Sort.order2 ltW d a b s).2.2] 3 (0, 0)) ∧ Ch [g] w w' := by
  have cA := dcells_get d z a (by omega)
  have cB := dcells_get d z b (by omega)
  unfold Go.Sort.order2
  obtain ⟨X, hX⟩ : ∃ x, d[a]! = x := ⟨_, rfl⟩
  obtain ⟨Y, hY⟩ : ∃ x, d[b]! = x := ⟨_, rfl⟩
  rw [hX] at cA ⊢
  rw [hY] at cB ⊢
  have k1 : (a : Int) < n := by omega
  have k2 : (b : Int) < n := by omega
  have hrow : w.heap[q]? = some (.cells (dcells d z) 32 (0, 0)) := hq
  have hgq : ¬ g = q := fun e => hqg e.symm
  have L := fun w => less_same Y X w
  obtain ⟨bb, hbb⟩ : ∃ bb, ltW Y X = bb := ⟨_, rfl⟩
  rw [hbb] at L ⊢
  clear hq hX hY hbb
  cases bb with
  | false =>
    rw [if_neg (by decide)]
    go_enter Tryd.func87, Tryd.ntmps87
    go_wp2
    go_quiet (first | (go_at_call 70; refine Calls.quiet_of_same (L _)))
    go_wp2
    refine bodyPost_ret (results_tmp2 rfl _ _ _) rfl ?_
    exact ⟨rfl, hg, (Ch.refl _ _).drewN _⟩
  | true =>
    rw [if_pos rfl]
    go_enter Tryd.func87, Tryd.ntmps87
    go_wp2
    go_quiet (first | (go_at_call 70; refine Calls.quiet_of_same (L _)))
    go_wp2
    refine bodyPost_ret (results_tmp2 rfl _ _ _) rfl ?_
    refine ⟨rfl, ?_, ((Ch.refl _ _).drewN _).setCell (.inl (by simp)) _⟩
    rw [heap_setCell, if_pos rfl, heap_drewN, hg]
    rfl
theorem order2_mem (lt : BitVec 64 → BitVec 64 → Bool) (d : Array (BitVec 64)) (a b s : Nat) : ((Go.Sort.order2 lt d a b s).1 = a ∨ (Go.Sort.order2 lt d a b s).1 = b) ∧ ((Go.Sort.order2 lt d a b s).2.1 = a ∨ (Go.Sort.order2 lt d a b s).2.1 = b) ∧ s ≤ (Go.Sort.order2 lt d a b s).2.2 ∧ (Go.Sort.order2 lt d a b s).2.2 ≤ s + 1 := by
  unfold Go.Sort.order2
  split
  · exact ⟨.inr rfl, .inl rfl, by simp, Nat.le_refl _⟩
  · exact ⟨.inl rfl, .inr rfl, Nat.le_refl _, by simp⟩
set_option maxHeartbeats 4000000 in
set_option maxRecDepth 100000 in
theorem median_any (q g cap a b c n s : Nat) (d : Array (BitVec 64)) (hn : d.size = n) (z : Array Value) (w : World) (ha : a < n) (hb : b < n) (hc : c < n) (hs : n < 1152921504606846976) (hss : s < 900) (hqg : ¬ q = g) (hq : RowW w q d z) (hg : w.heap[g]? = some (.cells #[I s] 3 (0, 0))) :
    Calls Tryd.prog 84 #[.slice (some ⟨q, 0, none⟩) n cap, I a, I b, I c, .pointer (some ⟨g, 0, none⟩)] w fun e w' => e = .returned (I (Go.Sort.median ltW d a b c s).1) ∧ w'.heap[g]? = some (.cells #[I (Go.Sort.median ltW d a b c s).2] 3 (0, 0)) ∧ Ch [g] w w' := by
  unfold Go.Sort.median
  have O1 := fun w => order2_any q g cap a b n s d hn z w ha hb hs (by omega) hqg
  have m1 := order2_mem ltW d a b s
  obtain ⟨r1, hr1⟩ : ∃ r, Go.Sort.order2 ltW d a b s = r := ⟨_, rfl⟩
  rw [hr1] at O1 m1 ⊢
  obtain ⟨x1, y1, s1⟩ := r1
  dsimp only at *
  have O2 := fun w => order2_any q g cap y1 c n s1 d hn z w (by omega) hc hs (by omega) hqg
  have m2 := order2_mem ltW d y1 c s1
  obtain ⟨r2, hr2⟩ : ∃ r, Go.Sort.order2 ltW d y1 c s1 = r := ⟨_, rfl⟩
  rw [hr2] at O2 m2 ⊢
  obtain ⟨x2, y2, s2⟩ := r2
  dsimp only at *
  have O3 := fun w => order2_any q g cap x1 x2 n s2 d hn z w (by omega) (by omega) hs (by omega) hqg
  obtain ⟨r3, hr3⟩ : ∃ r, Go.Sort.order2 ltW d x1 x2 s2 = r := ⟨_, rfl⟩
  rw [hr3] at O3 ⊢
  obtain ⟨x3, y3, s3⟩ := r3
  dsimp only at *
  have hqs : q ∉ [g] := by simpa using hqg
  clear m1 m2 hr1 hr2 hr3 hn
  go_enter Tryd.func84, Tryd.ntmps84
  go_wp2_with fail
  refine (O1 w hq hg).mono ?_
  rintro e w1 ⟨rfl, h1, c1⟩
  have q1 := hq.ch c1 hqs
  clear hq hg
  go_wp2_with fail
  refine (O2 w1 q1 h1).mono ?_
  rintro e w2 ⟨rfl, h2, c2⟩
  have q2 := q1.ch c2 hqs
  have c02 := c1.trans c2
  clear q1 h1 c1 c2
  go_wp2_with fail
  refine (O3 w2 q2 h2).mono ?_
  rintro e w3 ⟨rfl, h3, c3⟩
  have c03 := c02.trans c3
  clear q2 h2 c02 c3
  go_wp2
  go_ret
  exact ⟨rfl, h3, c03⟩
theorem median_lt (d : Array (BitVec 64)) (a b c s n : Nat) (ha : a < n) (hb : b < n) (hc : c < n) : (Go.Sort.median ltW d a b c s).1 < n ∧ (Go.Sort.median ltW d a b c s).2 ≤ s + 3 := by
  unfold Go.Sort.median
  have m1 := order2_mem ltW d a b s
  obtain ⟨r1, hr1⟩ : ∃ r, Go.Sort.order2 ltW d a b s = r := ⟨_, rfl⟩
  rw [hr1] at m1 ⊢
  obtain ⟨x1, y1, s1⟩ := r1
  dsimp only at *
  have m2 := order2_mem ltW d y1 c s1
  obtain ⟨r2, hr2⟩ : ∃ r, Go.Sort.order2 ltW d y1 c s1 = r := ⟨_, rfl⟩
  rw [hr2] at m2 ⊢
  obtain ⟨x2, y2, s2⟩ := r2
  dsimp only at *
  have m3 := order2_mem ltW d x1 x2 s2
  omega
set_option maxHeartbeats 4000000 in
set_option maxRecDepth 100000 in
theorem medianAdj_any (q g cap a n s : Nat) (d : Array (BitVec 64)) (hn : d.size = n) (z : Array Value) (w : World) (ha : 0 < a) (hb : a + 1 < n) (hs : n < 1152921504606846976) (hss : s < 900) (hqg : ¬ q = g) (hq : RowW w q d z) (hg : w.heap[g]? = some (.cells #[I s] 3 (0, 0))) :
    Calls Tryd.prog 83 #[.slice (some ⟨q, 0, none⟩) n cap, I a, .pointer (some ⟨g, 0, none⟩)] w fun e w' => e = .returned (I (Go.Sort.medianAdjacent ltW d a s).1) ∧ w'.heap[g]? = some (.cells #[I (Go.Sort.medianAdjacent ltW d a s).2] 3 (0, 0)) ∧ Ch [g] w w' := by
  unfold Go.Sort.medianAdjacent
  have O1 := median_any q g cap (a - 1) a (a + 1) n s d hn z w (by omega) (by omega) (by omega) hs hss hqg hq hg
  obtain ⟨r, hr⟩ : ∃ r, Go.Sort.median ltW d (a - 1) a (a + 1) s = r := ⟨_, rfl⟩
  rw [hr] at O1 ⊢
  obtain ⟨k, rfl⟩ : ∃ k, a = k + 1 := ⟨a - 1, by omega⟩
  rw [show k + 1 - 1 = k by omega] at O1
  clear hr hq hg hn
  go_enter Tryd.func83, Tryd.ntmps83
  go_wp2_with fail
  refine O1.mono ?_
  rintro e w3 ⟨rfl, h3, c3⟩
  clear O1
  go_wp2
  go_ret
  exact ⟨rfl, h3, c3⟩
end Go.Proofs.Hc
/- slices.choosePivotOrdered at words (printed by gen_pivot.py). -/
namespace Go.Proofs.Hc
open Go.RowKit
set_option linter.unusedVariables false
set_option linter.unusedSimpArgs false
attribute [local go_sem] wrap_u64 wrap_u8 bits_xor64 bits_and64 bits_or64 bits_not64 bits_xor8 bits_and8 bits_or8 signed64 signed8 ofInt_N BitVec.ofInt_add BitVec.ofInt_mul ofInt_sub' ofInt8_N64 ofInt64_N8 wide8 eqN neN shr_pow shr1 shr7 shr56
attribute [local go_sem high] bits_com64 shl_wrap
attribute [local go_sem] nn2 nm2 nn3 nm3 nn4 nm4 nn5 nm5 nn6 nm6 nn7 nm7 nn8 nm8
attribute [local go_sem] Oper.semAt_some make_func1
attribute [local go_sem] cell_heap ice_heap cellAt_cells iceAt_cells setAt_cells size_setCell rowAt_cells canLay_cells laidAt_cells size_onObj rowRes_some layRes_true
attribute [local go_sem ↓] heap_alloc heap_drew heap_drewN heap_setCell heap_putObj heap_onObj
def hintN : Go.Sort.Hint → Int
  | .unknown => 0
  | .increasing => 1
  | .decreasing => 2
set_option maxHeartbeats 4000000 in
set_option maxRecDepth 100000 in
theorem pivot_any (q cap a b n : Nat) (d : Array (BitVec 64)) (hn : d.size = n) (z : Array Value) (w : World) (hab : a < b) (hb : b ≤ n) (hs : n < 1152921504606846976) (hq : RowW w q d z) :
    Calls Tryd.prog 67 #[.slice (some ⟨q, 0, none⟩) n cap, I a, I b] w fun e w' => e = .returned (.tuple #[I (Go.Sort.choosePivot ltW d a b).1, I (hintN (Go.Sort.choosePivot ltW d a b).2)]) ∧ Ch [] w w' := by
  obtain ⟨r, hr⟩ : ∃ r, Go.Sort.choosePivot ltW d a b = r := ⟨_, rfl⟩
  have hr2 := hr
  unfold Go.Sort.choosePivot at hr2
  dsimp only at hr2
  rw [hr]
  obtain ⟨l, hl⟩ : ∃ l, b - a = l := ⟨_, rfl⟩
  obtain ⟨k, hk⟩ : ∃ k, l / 4 = k := ⟨_, rfl⟩
  rw [hl, hk] at hr2
  have e1 : (b : Int) - (a : Int) = l := by omega
  have e2 : (l : Int).tdiv 4 = k := by rw [Int.tdiv_eq_ediv_of_nonneg (by omega)]; omega
  obtain ⟨i, hi⟩ : ∃ i, a + k * 1 = i := ⟨_, rfl⟩
  obtain ⟨j, hj⟩ : ∃ i, a + k * 2 = i := ⟨_, rfl⟩
  obtain ⟨m, hm⟩ : ∃ i, a + k * 3 = i := ⟨_, rfl⟩
  rw [hi, hj, hm] at hr2
  have e3 : (a : Int) + (k : Int) = i := by omega
  have e4 : (a : Int) + (k : Int) * 2 = j := by omega
  have e5 : (a : Int) + (k : Int) * 3 = m := by omega
  obtain ⟨g, hg⟩ : ∃ g, w.heap.size = g := ⟨_, rfl⟩
  have hqlt : q < g := by rw [← hg]; exact (Array.getElem?_eq_some_iff.1 hq).1
  have hqg : ¬ q = g := by omega
  have hqs : q ∉ [g] := by simpa using hqg
  have hc1 : Ch [g] w (w.alloc (.cells #[I 0] 3)) := (Ch.refl _ _).alloc _
  have hq1 := hq.ch hc1 hqs
  have hg1 : (w.alloc (.cells #[I 0] 3)).heap[g]? = some (.cells #[I 0] 3 (0, 0)) := by
    rw [← hg]
    exact World.alloc_heap_new w _
  obtain ⟨w1, hw1⟩ : ∃ w1, w.alloc (.cells #[I 0] 3) = w1 := ⟨_, rfl⟩
  rw [hw1] at hc1 hq1 hg1
  have HOUT : ∀ w', Ch [g] w w' → Ch [] w w' := fun w' h => ⟨h.os, h.tape, h.output, h.size, fun k hk _ => h.block k hk (by rw [List.mem_singleton, ← hg]; omega)⟩
  have bi : i < n := by omega
  have bj : j < n := by omega
  have bm : m < n := by omega
  have bm1 : 50 ≤ l → m + 1 < n := by omega
  have bi0 : 50 ≤ l → 0 < i := by omega
  have hij : i ≤ j ∧ j ≤ m := by omega
  have bk : (0 : Int) ≤ k ∧ (k : Int) < 1152921504606846976 := by omega
  clear hr hq hl hk hi hj hm
  rcases (show l < 8 ∨ (8 ≤ l ∧ l < 50) ∨ 50 ≤ l by omega) with h8 | ⟨h8, h50⟩ | h50
  · rw [if_neg (by omega)] at hr2
    dsimp only at hr2
    rw [if_pos rfl] at hr2
    subst hr2
    go_enter Tryd.func67, Tryd.ntmps67
    go_wp2
    refine bodyPost_ret (results_tmp2 rfl _ _ _) rfl ?_
    exact ⟨rfl, HOUT _ hc1⟩
  · rw [if_pos h8, if_neg (by omega)] at hr2
    have M := median_any q g cap i j m n 0 d hn z w1 bi bj bm hs (by omega) hqg hq1 hg1
    have B1 := (median_lt d i j m 0 n bi bj bm).2
    obtain ⟨⟨p, s⟩, hps⟩ : ∃ r, Go.Sort.median ltW d i j m 0 = r := ⟨_, rfl⟩
    rw [hps] at M hr2 B1
    dsimp only at *
    clear hps hn hq1 hg1
    go_enter Tryd.func67, Tryd.ntmps67
    go_wp2_with fail
    refine M.mono ?_
    rintro e w2 ⟨rfl, hgF, c2⟩
    have hcF := hc1.trans c2
    clear hc1 c2 M hw1
    rcases (show s = 0 ∨ s = 12 ∨ (¬ s = 0 ∧ ¬ s = 12) by omega) with hs0 | hs0 | ⟨hs0, hs1⟩
    · rw [if_pos hs0] at hr2
      have z1 : ((s : Nat) : Int) = 0 := by omega
      subst hr2
      rw [z1] at hgF
      go_wp2
      refine bodyPost_ret (results_tmp2 rfl _ _ _) rfl ?_
      exact ⟨rfl, HOUT _ hcF⟩
    · rw [if_neg (by omega), if_pos hs0] at hr2
      have z1 : ((s : Nat) : Int) = 12 := by omega
      subst hr2
      rw [z1] at hgF
      go_wp2
      refine bodyPost_ret (results_tmp2 rfl _ _ _) rfl ?_
      exact ⟨rfl, HOUT _ hcF⟩
    · rw [if_neg hs0, if_neg hs1] at hr2
      have z1 : ((s : Nat) : Int) ≠ 0 := by omega
      have z2 : ((s : Nat) : Int) ≠ 12 := by omega
      subst hr2
      obtain ⟨S, hS⟩ : ∃ S : Int, ((s : Nat) : Int) = S := ⟨_, rfl⟩
      rw [hS] at hgF z1 z2
      have z3 : (S == 0) = false := by simpa using z1
      have z4 : (S == 12) = false := by simpa using z2
      go_wp2
      refine bodyPost_ret (results_tmp2 rfl _ _ _) rfl ?_
      exact ⟨rfl, HOUT _ hcF⟩
  · rw [if_pos (by omega), if_pos h50] at hr2
    have M1 := medianAdj_any q g cap i n 0 d hn z w1 (bi0 h50) (by omega) hs (by omega) hqg hq1 hg1
    have b1 := median_lt d (i - 1) i (i + 1) 0 n (by omega) bi (by omega)
    rw [show Go.Sort.median ltW d (i - 1) i (i + 1) 0 = Go.Sort.medianAdjacent ltW d i 0 from rfl] at b1
    obtain ⟨⟨i1, s1⟩, hps1⟩ : ∃ r, Go.Sort.medianAdjacent ltW d i 0 = r := ⟨_, rfl⟩
    rw [hps1] at M1 hr2 b1
    dsimp only at *
    have M2 := fun w => medianAdj_any q g cap j n s1 d hn z w (by omega) (by omega) hs (by omega) hqg
    have b2 := median_lt d (j - 1) j (j + 1) s1 n (by omega) bj (by omega)
    rw [show Go.Sort.median ltW d (j - 1) j (j + 1) s1 = Go.Sort.medianAdjacent ltW d j s1 from rfl] at b2
    obtain ⟨⟨j1, s2⟩, hps2⟩ : ∃ r, Go.Sort.medianAdjacent ltW d j s1 = r := ⟨_, rfl⟩
    rw [hps2] at M2 hr2 b2
    dsimp only at *
    have M3 := fun w => medianAdj_any q g cap m n s2 d hn z w (by omega) (bm1 h50) hs (by omega) hqg
    have b3 := median_lt d (m - 1) m (m + 1) s2 n (by omega) bm (bm1 h50)
    rw [show Go.Sort.median ltW d (m - 1) m (m + 1) s2 = Go.Sort.medianAdjacent ltW d m s2 from rfl] at b3
    obtain ⟨⟨m1, s3⟩, hps3⟩ : ∃ r, Go.Sort.medianAdjacent ltW d m s2 = r := ⟨_, rfl⟩
    rw [hps3] at M3 hr2 b3
    dsimp only at *
    have M4 := fun w => median_any q g cap i1 j1 m1 n s3 d hn z w b1.1 b2.1 b3.1 hs (by omega) hqg
    obtain ⟨⟨p, s⟩, hps⟩ : ∃ r, Go.Sort.median ltW d i1 j1 m1 s3 = r := ⟨_, rfl⟩
    rw [hps] at M4 hr2
    dsimp only at *
    clear hps hps1 hps2 hps3 hn hg1 b1 b2 b3
    go_enter Tryd.func67, Tryd.ntmps67
    go_wp2_with fail
    refine M1.mono ?_
    rintro e w2 ⟨rfl, hg2, c2⟩
    have q2 := hq1.ch c2 hqs
    have c02 := hc1.trans c2
    clear hc1 c2 M1 hw1 hq1
    go_wp2_with fail
    refine (M2 w2 q2 hg2).mono ?_
    rintro e w3 ⟨rfl, hg3, c3⟩
    have q3 := q2.ch c3 hqs
    have c03 := c02.trans c3
    clear q2 hg2 c02 c3 M2
    go_wp2_with fail
    refine (M3 w3 q3 hg3).mono ?_
    rintro e w4 ⟨rfl, hg4, c4⟩
    have q4 := q3.ch c4 hqs
    have c04 := c03.trans c4
    clear q3 hg3 c03 c4 M3
    go_wp2_with fail
    refine (M4 w4 q4 hg4).mono ?_
    rintro e w5 ⟨rfl, hgF, c5⟩
    have hcF := c04.trans c5
    clear q4 hg4 c04 c5 M4
    rcases (show s = 0 ∨ s = 12 ∨ (¬ s = 0 ∧ ¬ s = 12) by omega) with hs0 | hs0 | ⟨hs0, hs1⟩
    · rw [if_pos hs0] at hr2
      have z1 : ((s : Nat) : Int) = 0 := by omega
      subst hr2
      rw [z1] at hgF
      go_wp2
      refine bodyPost_ret (results_tmp2 rfl _ _ _) rfl ?_
      exact ⟨rfl, HOUT _ hcF⟩
    · rw [if_neg (by omega), if_pos hs0] at hr2
      have z1 : ((s : Nat) : Int) = 12 := by omega
      subst hr2
      rw [z1] at hgF
      go_wp2
      refine bodyPost_ret (results_tmp2 rfl _ _ _) rfl ?_
      exact ⟨rfl, HOUT _ hcF⟩
    · rw [if_neg hs0, if_neg hs1] at hr2
      have z1 : ((s : Nat) : Int) ≠ 0 := by omega
      have z2 : ((s : Nat) : Int) ≠ 12 := by omega
      subst hr2
      obtain ⟨S, hS⟩ : ∃ S : Int, ((s : Nat) : Int) = S := ⟨_, rfl⟩
      rw [hS] at hgF z1 z2
      have z3 : (S == 0) = false := by simpa using z1
      have z4 : (S == 12) = false := by simpa using z2
      go_wp2
      refine bodyPost_ret (results_tmp2 rfl _ _ _) rfl ?_
      exact ⟨rfl, HOUT _ hcF⟩
end Go.Proofs.Hc
