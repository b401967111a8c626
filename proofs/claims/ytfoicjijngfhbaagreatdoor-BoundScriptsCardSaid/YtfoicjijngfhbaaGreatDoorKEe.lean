/- Package hash: Deepest of keys that differ. -/
import Derived.Test.YtfoicjijngfhbaaGreatDoorKBc
import Derived.Test.YtfoicjijngfhbaaGreatDoorKBd
import Derived.Test.YtfoicjijngfhbaaGreatDoorKBk
import Derived.Test.YtfoicjijngfhbaaGreatDoorKBo
import Derived.Test.YtfoicjijngfhbaaGreatDoorKBt
import Derived.Test.YtfoicjijngfhbaaGreatDoorKDa
import Derived.Test.YtfoicjijngfhbaaGreatDoorKFm
import Derived.Test.YtfoicjijngfhbaaGreatDoorKEa
import Derived.Test.YtfoicjijngfhbaaGreatDoorKEd
import Derived.Test.YtfoicjijngfhbaaGreatDoorKEk
import Derived.Test.YtfoicjijngfhbaaGreatDoorKHm
import Derived.Test.YtfoicjijngfhbaaGreatDoorKHr
import Derived.Below
import Derived.BigQuiet
import Derived.Deep.Cut
import Derived.Deep.Draws
import Derived.Deep.OwnRows
import Derived.Deep.QuietTactic
import Derived.Deep.RegionHeld
import Derived.Laws.AppendOwn
import Derived.Laws.CopyOwn
import Derived.Laws.CopyRow
import Derived.Laws.EntriesVeiled
import Derived.Laws.IdiomCopy
import Derived.Laws.Tables
import Derived.Lib.AppendZerosOnto
import Derived.Lib.Hide
import Derived.Lib.Tables
import Derived.LoopIn
import Derived.LoopNIn
import Derived.Maps.RangeWalk
import Derived.Maps.Views
import Derived.OwnWalkIn
import Derived.RangeFuncCalls
import Derived.RangeFuncRecord
import Derived.RangeFuncSeq
import Derived.Recover
import Derived.StillTail
import Derived.TacticsInMore
import Derived.Test.YtfoicjijngfhbaaGreatDoorProg
import Derived.WalkKit
import Derived.WalkLawsBesides
set_option linter.unusedSimpArgs false
set_option linter.unusedVariables false
namespace Go.Proofs.Hc
open Go.RowKit
set_option linter.unusedVariables false
set_option linter.unusedSimpArgs false
attribute [local go_sem] wrap_u64 wrap_u8 bits_xor64 bits_and64 bits_or64 bits_not64 bits_xor8 bits_and8 bits_or8 signed64 signed8 ofInt_N BitVec.ofInt_add BitVec.ofInt_mul ofInt_sub' ofInt8_N64 ofInt64_N8 wide8 eqN neN shr_pow shr1 shr7 shr56
attribute [local go_sem high] bits_com64 shl_wrap
attribute [local go_sem] nn2 nm2 nn3 nm3 nn4 nm4 nn5 nm5 nn6 nm6 nn7 nm7 nn8 nm8
attribute [local go_sem] Oper.semAt_some make_func1 make_funcB
attribute [local go_sem] cell_heap ice_heap cellAt_cells iceAt_cells setAt_cells size_setCell rowAt_cells canLay_cells laidAt_cells size_onObj rowRes_some layRes_true
attribute [local go_sem ↓] heap_alloc heap_drew heap_drewN heap_setCell heap_putObj heap_onObj
attribute [local go_sem] buildSe buildCr boxCr
attribute [local go_sem ↓] browSe browCr
set_option maxHeartbeats 1000000 in
set_option maxRecDepth 100000 in
theorem hof_nil (sd : BitVec 64) (c : Nat) (w : World) :
    Calls Tryz.prog 57 #[U sd, .slice none 0 c] w fun e w' => ∃ p q, e = .returned (.pointer (some ⟨p, 0, none⟩)) ∧ w'.heap[p]? = some (.cells #[.slice (some ⟨q, 0, none⟩) 0 0, U sd, .map none] 102 (0, 0)) ∧ w'.heap[q]? = some (.cells (bwords []) 22 (0, 0)) ∧ w.heap.size ≤ p ∧ w.heap.size ≤ q ∧ Ch [] w w' := by
  have hm := fun w => run_make_row' (P := Tryz.prog) 24 22 (.int .u64 0) 8 Tryz.underlying24 infoU rfl .i64 .i64 0 (by omega) (by omega) w
  have hcp := fun w dp => run_copy_none (P := Tryz.prog) w 24 24 3 22 dp none 0 0 0 c Tryz.underlying24 (by kernel_rfl) (by rfl)
  have hmc : madeCells #[.int .u64 0] 0 = #[] := Array.eq_empty_of_size_eq_zero (size_madeCells _ _)
  simp only [hmc] at hm
  have hn : (w.alloc (.cells #[] 22)).heap[w.heap.size]? = some (.cells (bwords []) 22 (0, 0)) := by rw [heap_alloc, if_pos rfl]; rfl
  have hC : Ch [] w (w.alloc (.cells #[] 22)) := (Ch.refl [] w).alloc _
  have hmw : (Instr.makeSlice 24 (.int .i64 0) (.int .i64 0)).run Tryz.prog w = .ok (.slice (some ⟨w.heap.size, 0, none⟩) 0 0) (w.alloc (.cells #[] 22)) := hm w
  clear hm
  obtain ⟨W2, hW2⟩ : ∃ x, w.alloc (.cells #[] 22) = x := ⟨_, rfl⟩
  rw [hW2] at hn hC hmw
  have hcp2 := hcp W2 (some ⟨w.heap.size, 0, none⟩)
  have hh2 : (W2.alloc (.cells #[.slice (some ⟨w.heap.size, 0, none⟩) 0 0, U sd, .map none] 102)).heap[w.heap.size]? = some (.cells (bwords []) 22 (0, 0)) := bkeep ((Ch.refl [] W2).alloc _) hn
  have hh3 : (W2.alloc (.cells #[.slice (some ⟨w.heap.size, 0, none⟩) 0 0, U sd, .map none] 102)).heap[W2.heap.size]? = some (.cells #[.slice (some ⟨w.heap.size, 0, none⟩) 0 0, U sd, .map none] 102 (0, 0)) := by rw [heap_alloc, if_pos rfl]
  clear hn hcp hmc hW2
  go_enter Tryz.func57, Tryz.ntmps57
  go_wp2
  go_ret
  exact ⟨_, _, rfl, hh3, hh2, hC.size, Nat.le_refl _, hC.trans ((Ch.refl [] W2).alloc _)⟩
/-- of, whatever the row is. -/
theorem hof_own (sd : BitVec 64) (ks : List (BitVec 64)) (hl : ks.length ≤ 9000) (v : Value) (base : Nat) (w : World) (hown : w.ownsRow base 22 1 v ks.length (ks.map fun k => U k)) :
    ∀ w0, Ch [] w w0 → Calls Tryz.prog 57 #[U sd, v] w0 fun e w' => ∃ p q, e = .returned (.pointer (some ⟨p, 0, none⟩)) ∧ w'.heap[p]? = some (.cells #[.slice (some ⟨q, 0, none⟩) ks.length ks.length, U sd, .map none] 102 (0, 0)) ∧ w'.heap[q]? = some (.cells (bwords ks) 22 (0, 0)) ∧ w0.heap.size ≤ p ∧ w0.heap.size ≤ q ∧ Ch [] w0 w' := by
  intro w0 C0
  obtain ⟨_, ⟨rfl, h0⟩ | ⟨q, cap, cur, rfl, hbq, hq, hnc, hcm, hcs, htake⟩⟩ := hown
  · have hx : ks = [] := List.eq_nil_of_length_eq_zero h0
    subst hx
    exact hof_nil sd 0 w0
  · refine hof_any sd ks q cap cur w0 hl (bkeep C0 hq) (fun j x hj => ?_)
    have hj1 := (List.getElem?_eq_some_iff.1 hj).1
    have h2 := congrArg (fun l => l[j]?) htake
    simp only [Nat.mul_one] at h2
    rw [List.getElem?_take_of_lt hj1, List.getElem?_map, hj] at h2
    simpa using h2
set_option maxHeartbeats 1000000 in
set_option maxRecDepth 100000 in
/-- With how few bits no prefix is had by too many of the keys. -/
theorem deepest_any (sd : BitVec 64) (m : Nat) (hm : 1 ≤ m) (ks : List (BitVec 64)) (hnd : ks.Nodup) (hlen : ks.length ≤ 1000) (v : Value) (base : Nat) (w : World) (hown : w.ownsRow base 22 1 v ks.length (ks.map fun k => U k)) :
    Calls Tryz.prog 48 #[U sd, I m, v] w fun e w' => e = .returned (.tuple #[I (deepN m (ks.map (hashOf sd))), I 0]) ∧ Ch [] w w' := by
  have C0 : Ch [] w (w.alloc (.cells #[I m] 3)) := (Ch.refl [] w).alloc _
  have hb0 : (w.alloc (.cells #[I m] 3)).heap[w.heap.size]? = some (.cells #[I m] 3 (0, 0)) := by rw [heap_alloc, if_pos rfl]
  have O1 := hof_own sd ks (by omega) v base w hown _ C0
  obtain ⟨W, hW⟩ : ∃ W, w.alloc (.cells #[I m] 3) = W := ⟨_, rfl⟩
  rw [hW] at C0 hb0 O1
  obtain ⟨B, hB⟩ : ∃ B, w.heap.size = B := ⟨_, rfl⟩
  rw [hB] at hb0
  have hBW : B < W.heap.size := (Array.getElem?_eq_some_iff.1 hb0).1
  have hwB : w.heap.size ≤ W.heap.size := C0.size
  have HBW := Lib.hid hBW
  have HWB := Lib.hid hwB
  have hmI : ¬ (m : Int) < 1 := by omega
  obtain ⟨a, c0, rfl⟩ := own_val hown
  have HND := Lib.hid hnd
  have HF := Lib.hid (fits_all m hm _ (hashes_nodup sd hnd))
  obtain ⟨len, hl⟩ : ∃ n, ks.length = n := ⟨_, rfl⟩
  have K1 := fun (nb : Nat) (hnb : nb ≤ 64) c q cq mv w hc hq => counted_any nb hnb sd ks hnd hlen c q cq mv w hc hq
  rw [hl] at O1 hlen K1 ⊢
  obtain ⟨hs, hhs⟩ : ∃ h, ks.map (hashOf sd) = h := ⟨_, rfl⟩
  rw [hhs] at HF K1 ⊢
  obtain ⟨R, hR⟩ : ∃ r, deepN m hs = r := ⟨_, rfl⟩
  rw [hR]
  have HR := Lib.hid (show deepF m hs (64 - 0) 0 = R from hR)
  have HK := Lib.hid K1
  have HM := Lib.hid hm
  clear hBW hwB hown hnd hl K1 hhs hR hm
  go_enter Tryz.func48, Tryz.ntmps48
  go_wp2
  try rw [hW]
  try rw [hB]
  clear hW hB
  apply wp_scope_straight
  go_wp2_with fail
  refine O1.mono ?_
  rintro e w1 ⟨c, p, rfl, hc, hp, lc, lp, hc1⟩
  have hb1 := bkeep hc1 hb0
  have C1 := C0.trans hc1
  have hne : ¬ B = c := by have := HBW.out; omega
  have hpc : ¬ p = c := by
    intro e
    rw [e, hc] at hp
    injection hp with h1
    injection h1 with h2 h3
    exact absurd h3 (by decide)
  have hcw : w.heap.size ≤ c := by have := HWB.out; omega
  have HST := Lib.hid (And.intro hc (And.intro hp (And.intro hb1 C1)))
  clear O1 C0 hb0 hc1 lp lc hc hp hb1 C1
  go_wp2
  apply wp_label
  go_wp2
  go_loopw [9] (fun vi wr => ∃ (j : Nat) (mv : Value), vi = I j ∧ j ≤ 64 ∧ deepF m hs (64 - j) j = R ∧ wr.heap[c]? = some (.cells #[.slice (some ⟨p, 0, none⟩) len len, U sd, mv] 102 (0, 0)) ∧ wr.heap[p]? = some (.cells (bwords ks) 22 (0, 0)) ∧ wr.heap[B]? = some (.cells #[I m] 3 (0, 0)) ∧ Ch [] w wr) (fun vi _ => 65 - (intOf vi).toNat)
  case atStart => exact ⟨0, .map none, rfl, by omega, HR.out, HST.out.1, HST.out.2.1, HST.out.2.2.1, HST.out.2.2.2⟩
  case round =>
    obtain ⟨j, mv, hv, hj, hdp, hc, hp, hb, hC⟩ := hrel
    subst hv
    have K1 := HK.out j hj c p len mv wr hc hp
    have HDP := Lib.hid hdp
    clear HST HR HK hdp
    go_wp2_with fail
    refine K1.mono ?_
    rintro e w2 ⟨M, rfl, hcn, hc2', hc2⟩
    have hb2 : w2.heap[B]? = some (.cells #[I m] 3 (0, 0)) := (hc2.block B (Array.getElem?_eq_some_iff.1 hb).1 (by simpa using hne)).trans hb
    have hp2 : w2.heap[p]? = some (.cells (bwords ks) 22 (0, 0)) := (hc2.block p (Array.getElem?_eq_some_iff.1 hp).1 (by simpa using hpc)).trans hp
    have C2 : Ch [] w w2 := hC.trans2 hc2 (fun t ht => .inr (by rw [List.mem_singleton.1 ht]; exact hcw))
    have S1 := some_any M len _ m B w2 hcn (by omega) hb2
    have HB2 := Lib.hid (And.intro hc2' (And.intro hp2 (And.intro hb2 C2)))
    clear K1 hc hp hb hc2 hC hb2 hcn hc2' hp2 C2
    go_wp2_with fail
    refine S1.mono ?_
    rintro e w3 ⟨r, rfl, hr, hr2, hc3⟩
    cases r with
    | false =>
      have hft : fitsN m hs j = true := (fits_iff m hs j).2 (fun q => by
        by_cases h0 : crowdF j hs q = 0
        · rw [h0]; omega
        · exact hr2 rfl q h0)
      have HE := Lib.hid (show j = R by rw [← HDP.out]; exact (deepF_yes m hs _ j hft).symm)
      have HC3 := Lib.hid (HB2.out.2.2.2.trans hc3)
      clear hr hr2 S1 hft hc3
      go_wp2
      rw [Exit.noGoto_ret]
      go_ret2
      exact ⟨by rw [← HE.out]; rfl, HC3.out⟩
    | true =>
      have hft : fitsN m hs j = false := by
        cases h : fitsN m hs j with
        | false => rfl
        | true =>
          obtain ⟨q, hq⟩ := hr rfl
          have := (fits_iff m hs j).1 h q
          omega
      have hj64 : j < 64 := by
        rcases (show j = 64 ∨ j < 64 by omega) with h | h
        · exfalso
          rw [h, HF.out] at hft
          cases hft
        · exact h
      have HE := Lib.hid ((deepF_no m hs j hj64 hft).symm.trans HDP.out)
      have HC3 := Lib.hid (And.intro (bkeep hc3 HB2.out.1) (And.intro (bkeep hc3 HB2.out.2.1) (And.intro (bkeep hc3 HB2.out.2.2.1) (HB2.out.2.2.2.trans hc3))))
      clear hr hr2 S1 hft hc3
      go_wp2
      go_roundw
      case rel => exact ⟨j + 1, _, by go_num, by omega, HE.out, HC3.out⟩
      case measure => simp [intOf]; omega
end Go.Proofs.Hc
