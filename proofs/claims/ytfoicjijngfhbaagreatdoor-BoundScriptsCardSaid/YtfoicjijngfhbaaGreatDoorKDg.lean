/- slices.choosePivotOrdered at words (printed by gen_pivot.py). -/
import Derived.Test.YtfoicjijngfhbaaGreatDoorKDa
import Derived.Test.YtfoicjijngfhbaaGreatDoorKDf
import Derived.Test.YtfoicjijngfhbaaGreatDoorKHm
import Derived.Test.YtfoicjijngfhbaaGreatDoorKHr
import Derived.Below
import Derived.BigQuiet
import Derived.Deep.Cut
import Derived.Deep.Draws
import Derived.Deep.QuietTactic
import Derived.Deep.RegionHeld
import Derived.Laws.CopyRow
import Derived.Laws.Tables
import Derived.Lib.Hide
import Derived.LoopIn
import Derived.LoopNIn
import Derived.OwnWalkIn
import Derived.RangeFuncCalls
import Derived.RangeFuncRecord
import Derived.RangeFuncSeq
import Derived.Recover
import Derived.Sort.Defs
import Derived.Sort.LotD1
import Derived.TacticsInMore
import Derived.Test.YtfoicjijngfhbaaGreatDoorProg
import Derived.WalkKit
import Derived.WalkLawsBesides
set_option linter.unusedSimpArgs false
set_option linter.unusedVariables false
namespace Go.Proofs.Hc
open Go.RowKit
set_option linter.unusedVariables false
set_option linter.unusedSimpArgs false
attribute [local go_sem] wrap_u64 wrap_u8 bits_xor64 bits_and64 bits_or64 bits_not64 bits_xor8 bits_and8 bits_or8 signed64 signed8 ofInt_N BitVec.ofInt_add BitVec.ofInt_mul ofInt_sub' ofInt8_N64 ofInt64_N8 wide8 eqN neN shr_pow shr1 shr7 shr56
attribute [local go_sem high] bits_com64 shl_wrap
attribute [local go_sem] nn2 nm2 nn3 nm3 nn4 nm4 nn5 nm5 nn6 nm6 nn7 nm7 nn8 nm8
attribute [local go_sem] Oper.semAt_some make_func1
attribute [local go_sem] cell_heap ice_heap cellAt_cells iceAt_cells setAt_cells size_setCell rowAt_cells canLay_cells laidAt_cells size_onObj rowRes_some layRes_true
attribute [local go_sem ↓] heap_alloc heap_drew heap_drewN heap_setCell heap_putObj heap_onObj
def hintN : Go.Sort.Hint → Int
  | .unknown => 0
  | .increasing => 1
  | .decreasing => 2
set_option maxHeartbeats 4000000 in
set_option maxRecDepth 100000 in
theorem pivot_any (q cap a b n : Nat) (d : Array (BitVec 64)) (hn : d.size = n) (z : Array Value) (w : World) (hab : a < b) (hb : b ≤ n) (hs : n < 1152921504606846976) (hq : RowW w q d z) :
    Calls Tryz.prog 73 #[.slice (some ⟨q, 0, none⟩) n cap, I a, I b] w fun e w' => e = .returned (.tuple #[I (Go.Sort.choosePivot ltW d a b).1, I (hintN (Go.Sort.choosePivot ltW d a b).2)]) ∧ Ch [] w w' := by
  obtain ⟨r, hr⟩ : ∃ r, Go.Sort.choosePivot ltW d a b = r := ⟨_, rfl⟩
  have hr2 := hr
  unfold Go.Sort.choosePivot at hr2
  dsimp only at hr2
  rw [hr]
  obtain ⟨l, hl⟩ : ∃ l, b - a = l := ⟨_, rfl⟩
  obtain ⟨k, hk⟩ : ∃ k, l / 4 = k := ⟨_, rfl⟩
  rw [hl, hk] at hr2
  have e1 : (b : Int) - (a : Int) = l := by omega
  have e2 : (l : Int).tdiv 4 = k := by rw [Int.tdiv_eq_ediv_of_nonneg (by omega)]; omega
  obtain ⟨i, hi⟩ : ∃ i, a + k * 1 = i := ⟨_, rfl⟩
  obtain ⟨j, hj⟩ : ∃ i, a + k * 2 = i := ⟨_, rfl⟩
  obtain ⟨m, hm⟩ : ∃ i, a + k * 3 = i := ⟨_, rfl⟩
  rw [hi, hj, hm] at hr2
  have e3 : (a : Int) + (k : Int) = i := by omega
  have e4 : (a : Int) + (k : Int) * 2 = j := by omega
  have e5 : (a : Int) + (k : Int) * 3 = m := by omega
  obtain ⟨g, hg⟩ : ∃ g, w.heap.size = g := ⟨_, rfl⟩
  have hqlt : q < g := by rw [← hg]; exact (Array.getElem?_eq_some_iff.1 hq).1
  have hqg : ¬ q = g := by omega
  have hqs : q ∉ [g] := by simpa using hqg
  have hc1 : Ch [g] w (w.alloc (.cells #[I 0] 3)) := (Ch.refl _ _).alloc _
  have hq1 := hq.ch hc1 hqs
  have hg1 : (w.alloc (.cells #[I 0] 3)).heap[g]? = some (.cells #[I 0] 3 (0, 0)) := by
    rw [← hg]
    exact World.alloc_heap_new w _
  obtain ⟨w1, hw1⟩ : ∃ w1, w.alloc (.cells #[I 0] 3) = w1 := ⟨_, rfl⟩
  rw [hw1] at hc1 hq1 hg1
  have HOUT : ∀ w', Ch [g] w w' → Ch [] w w' := fun w' h => ⟨h.os, h.tape, h.output, h.size, fun k hk _ => h.block k hk (by rw [List.mem_singleton, ← hg]; omega)⟩
  have bi : i < n := by omega
  have bj : j < n := by omega
  have bm : m < n := by omega
  have bm1 : 50 ≤ l → m + 1 < n := by omega
  have bi0 : 50 ≤ l → 0 < i := by omega
  have hij : i ≤ j ∧ j ≤ m := by omega
  have bk : (0 : Int) ≤ k ∧ (k : Int) < 1152921504606846976 := by omega
  clear hr hq hl hk hi hj hm
  rcases (show l < 8 ∨ (8 ≤ l ∧ l < 50) ∨ 50 ≤ l by omega) with h8 | ⟨h8, h50⟩ | h50
  · rw [if_neg (by omega)] at hr2
    dsimp only at hr2
    rw [if_pos rfl] at hr2
    subst hr2
    go_enter Tryz.func73, Tryz.ntmps73
    go_wp2
    refine bodyPost_ret (results_tmp2 rfl _ _ _) rfl ?_
    exact ⟨rfl, HOUT _ hc1⟩
  · rw [if_pos h8, if_neg (by omega)] at hr2
    have M := median_any q g cap i j m n 0 d hn z w1 bi bj bm hs (by omega) hqg hq1 hg1
    have B1 := (median_lt d i j m 0 n bi bj bm).2
    obtain ⟨⟨p, s⟩, hps⟩ : ∃ r, Go.Sort.median ltW d i j m 0 = r := ⟨_, rfl⟩
    rw [hps] at M hr2 B1
    dsimp only at *
    clear hps hn hq1 hg1
    go_enter Tryz.func73, Tryz.ntmps73
    go_wp2_with fail
    refine M.mono ?_
    rintro e w2 ⟨rfl, hgF, c2⟩
    have hcF := hc1.trans c2
    clear hc1 c2 M hw1
    rcases (show s = 0 ∨ s = 12 ∨ (¬ s = 0 ∧ ¬ s = 12) by omega) with hs0 | hs0 | ⟨hs0, hs1⟩
    · rw [if_pos hs0] at hr2
      have z1 : ((s : Nat) : Int) = 0 := by omega
      subst hr2
      rw [z1] at hgF
      go_wp2
      refine bodyPost_ret (results_tmp2 rfl _ _ _) rfl ?_
      exact ⟨rfl, HOUT _ hcF⟩
    · rw [if_neg (by omega), if_pos hs0] at hr2
      have z1 : ((s : Nat) : Int) = 12 := by omega
      subst hr2
      rw [z1] at hgF
      go_wp2
      refine bodyPost_ret (results_tmp2 rfl _ _ _) rfl ?_
      exact ⟨rfl, HOUT _ hcF⟩
    · rw [if_neg hs0, if_neg hs1] at hr2
      have z1 : ((s : Nat) : Int) ≠ 0 := by omega
      have z2 : ((s : Nat) : Int) ≠ 12 := by omega
      subst hr2
      obtain ⟨S, hS⟩ : ∃ S : Int, ((s : Nat) : Int) = S := ⟨_, rfl⟩
      rw [hS] at hgF z1 z2
      have z3 : (S == 0) = false := by simpa using z1
      have z4 : (S == 12) = false := by simpa using z2
      go_wp2
      refine bodyPost_ret (results_tmp2 rfl _ _ _) rfl ?_
      exact ⟨rfl, HOUT _ hcF⟩
  · rw [if_pos (by omega), if_pos h50] at hr2
    have M1 := medianAdj_any q g cap i n 0 d hn z w1 (bi0 h50) (by omega) hs (by omega) hqg hq1 hg1
    have b1 := median_lt d (i - 1) i (i + 1) 0 n (by omega) bi (by omega)
    rw [show Go.Sort.median ltW d (i - 1) i (i + 1) 0 = Go.Sort.medianAdjacent ltW d i 0 from rfl] at b1
    obtain ⟨⟨i1, s1⟩, hps1⟩ : ∃ r, Go.Sort.medianAdjacent ltW d i 0 = r := ⟨_, rfl⟩
    rw [hps1] at M1 hr2 b1
    dsimp only at *
    have M2 := fun w => medianAdj_any q g cap j n s1 d hn z w (by omega) (by omega) hs (by omega) hqg
    have b2 := median_lt d (j - 1) j (j + 1) s1 n (by omega) bj (by omega)
    rw [show Go.Sort.median ltW d (j - 1) j (j + 1) s1 = Go.Sort.medianAdjacent ltW d j s1 from rfl] at b2
    obtain ⟨⟨j1, s2⟩, hps2⟩ : ∃ r, Go.Sort.medianAdjacent ltW d j s1 = r := ⟨_, rfl⟩
    rw [hps2] at M2 hr2 b2
    dsimp only at *
    have M3 := fun w => medianAdj_any q g cap m n s2 d hn z w (by omega) (bm1 h50) hs (by omega) hqg
    have b3 := median_lt d (m - 1) m (m + 1) s2 n (by omega) bm (bm1 h50)
    rw [show Go.Sort.median ltW d (m - 1) m (m + 1) s2 = Go.Sort.medianAdjacent ltW d m s2 from rfl] at b3
    obtain ⟨⟨m1, s3⟩, hps3⟩ : ∃ r, Go.Sort.medianAdjacent ltW d m s2 = r := ⟨_, rfl⟩
    rw [hps3] at M3 hr2 b3
    dsimp only at *
    have M4 := fun w => median_any q g cap i1 j1 m1 n s3 d hn z w b1.1 b2.1 b3.1 hs (by omega) hqg
    obtain ⟨⟨p, s⟩, hps⟩ : ∃ r, Go.Sort.median ltW d i1 j1 m1 s3 = r := ⟨_, rfl⟩
    rw [hps] at M4 hr2
    dsimp only at *
    clear hps hps1 hps2 hps3 hn hg1 b1 b2 b3
    go_enter Tryz.func73, Tryz.ntmps73
    go_wp2_with fail
    refine M1.mono ?_
    rintro e w2 ⟨rfl, hg2, c2⟩
    have q2 := hq1.ch c2 hqs
    have c02 := hc1.trans c2
    clear hc1 c2 M1 hw1 hq1
    go_wp2_with fail
    refine (M2 w2 q2 hg2).mono ?_
    rintro e w3 ⟨rfl, hg3, c3⟩
    have q3 := q2.ch c3 hqs
    have c03 := c02.trans c3
    clear q2 hg2 c02 c3 M2
    go_wp2_with fail
    refine (M3 w3 q3 hg3).mono ?_
    rintro e w4 ⟨rfl, hg4, c4⟩
    have q4 := q3.ch c4 hqs
    have c04 := c03.trans c4
    clear q3 hg3 c03 c4 M3
    go_wp2_with fail
    refine (M4 w4 q4 hg4).mono ?_
    rintro e w5 ⟨rfl, hgF, c5⟩
    have hcF := c04.trans c5
    clear q4 hg4 c04 c5 M4
    rcases (show s = 0 ∨ s = 12 ∨ (¬ s = 0 ∧ ¬ s = 12) by omega) with hs0 | hs0 | ⟨hs0, hs1⟩
    · rw [if_pos hs0] at hr2
      have z1 : ((s : Nat) : Int) = 0 := by omega
      subst hr2
      rw [z1] at hgF
      go_wp2
      refine bodyPost_ret (results_tmp2 rfl _ _ _) rfl ?_
      exact ⟨rfl, HOUT _ hcF⟩
    · rw [if_neg (by omega), if_pos hs0] at hr2
      have z1 : ((s : Nat) : Int) = 12 := by omega
      subst hr2
      rw [z1] at hgF
      go_wp2
      refine bodyPost_ret (results_tmp2 rfl _ _ _) rfl ?_
      exact ⟨rfl, HOUT _ hcF⟩
    · rw [if_neg hs0, if_neg hs1] at hr2
      have z1 : ((s : Nat) : Int) ≠ 0 := by omega
      have z2 : ((s : Nat) : Int) ≠ 12 := by omega
      subst hr2
      obtain ⟨S, hS⟩ : ∃ S : Int, ((s : Nat) : Int) = S := ⟨_, rfl⟩
      rw [hS] at hgF z1 z2
      have z3 : (S == 0) = false := by simpa using z1
      have z4 : (S == 12) = false := by simpa using z2
      go_wp2
      refine bodyPost_ret (results_tmp2 rfl _ _ _) rfl ?_
      exact ⟨rfl, HOUT _ hcF⟩
end Go.Proofs.Hc
