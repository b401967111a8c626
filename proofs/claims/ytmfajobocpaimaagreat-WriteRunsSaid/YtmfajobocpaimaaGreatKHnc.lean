/- The references of layer 1: a mask's lanes, a byte's lanes; of layer 19: group, least, empty, was. -/
import Derived.Test.YtmfajobocpaimaaGreatKHlan
import Derived.Test.YtmfajobocpaimaaGreatKHxe
import Derived.Test.YtmfajobocpaimaaGreatKHni
import Derived.Test.YtmfajobocpaimaaGreatKHnl
import Derived.Test.YtmfajobocpaimaaGreatKHnq
import Derived.Test.YtmfajobocpaimaaGreatKHpa
import Derived.Test.YtmfajobocpaimaaGreatKHq
import Derived.Test.YtmfajobocpaimaaGreatKHr
import Derived.Test.YtmfajobocpaimaaGreatKHta
import Derived.Test.YtmfajobocpaimaaGreatKHde
import Derived.Test.YtmfajobocpaimaaGreatKHop2
import Derived.Test.YtmfajobocpaimaaGreatKHxo
import Derived.Below
import Derived.BigQuiet
import Derived.Deep.Draws
import Derived.Deep.Light
import Derived.Deep.QuietTactic
import Derived.Deep.RegionHeld
import Derived.Laws.CopyRow
import Derived.Laws.StructEq
import Derived.Laws.Tables
import Derived.Lib.AppendZerosOnto
import Derived.Lib.Hide
import Derived.Lib.Tables
import Derived.Lib.Walk
import Derived.LoopIn
import Derived.LoopN
import Derived.LoopNIn
import Derived.Maps.AppendAt
import Derived.Maps.Views
import Derived.OwnWalkIn
import Derived.RangeFuncBox
import Derived.RangeFuncCalls
import Derived.RangeFuncRecord
import Derived.RangeFuncSeq
import Derived.Recover
import Derived.RegionTactic
import Derived.Shelf.Slices.Clone
import Derived.StillTail
import Derived.StillTailTactics
import Derived.TacticsInMore
import Derived.Test.YtmfajobocpaimaaGreatProg
import Derived.WalkKit
import Derived.WalkLawsBesides
import Derived.WalkMore
import Derived.WalkSpells
set_option linter.unusedSimpArgs false
set_option linter.unusedVariables false
namespace Go.Proofs.Hc
open Go.RowKit
attribute [local go_sem] wrap_u64 wrap_u8 bits_xor64 bits_and64 bits_or64 bits_not64 bits_xor8 bits_and8 bits_or8 signed64 signed8 ofInt_N BitVec.ofInt_add BitVec.ofInt_mul ofInt_sub' ofInt8_N64 ofInt64_N8 wide8 eqN neN shr_pow shr1 shr7 shr56
attribute [local go_sem high] bits_com64 shl_wrap
attribute [local go_sem] cell_heap ice_heap cellAt_cells iceAt_cells setAt_cells rowAt_cells canLay_cells laidAt_cells size_onObj size_setCell rowRes_some layRes_true
attribute [local go_sem] load26 load73 load23 store26 build73
attribute [local go_sem ↓] lrow26 lrow73 lrow23 srow26 zero26 brow73 heap_alloc heap_drew heap_drewN heap_setCell heap_onObj
attribute [local go_sem] tcells_size hcells_size tcells_get hcells_get tcells_one hcells_one hcells_table tcells_table hcells_all hcells_ctrl tcells_ctrl
attribute [local go_sem] nn2 nm2 nn3 nm3 nn4 nm4 nn5 nm5 nn6 nm6 nn7 nm7 nn8 nm8
attribute [local go_sem] nn2 nm2 nn3 nm3 nn4 nm4 nn5 nm5 nn6 nm6 nn7 nm7 nn8 nm8
attribute [local go_sem] ofInt_N
attribute [local go_sem] pen_g0 pen_g1 pen_g2 pen_g3 pen_g4 pen_g5 pen_g6 pen_g7 pen_g8 pen_g9 pen_g10 pen_g11 pen_g12 pen_g13 pen_g14 pen_g15 pen_g16 pen_g17 penC_size penC_one penC_all boxPen loadPen storePen
attribute [local go_sem ↓] lrowPen srowPen
attribute [local irreducible] penC
theorem shr1_8 (x : BitVec 8) : N x / (2 : Int) = N (x >>> 1) := by
  unfold N; rw [BitVec.toNat_ushiftRight, Nat.shiftRight_eq_div_pow]; simp
theorem tdiv2_8 (x : BitVec 8) : (N x).tdiv 2 = N (x >>> 1) := by rw [Int.tdiv_eq_ediv_of_nonneg (N_nonneg x), shr1_8]
theorem tmod2_8 (x : BitVec 8) : (N x).tmod 2 = N (x &&& 1#8) := by
  rw [Int.tmod_eq_emod_of_nonneg (N_nonneg x)]
  have key : ∀ x : BitVec 8, x.toNat % 2 = (x &&& 1#8).toNat := by decide +kernel
  unfold N; rw [← key]; rfl
theorem bit8 (x : BitVec 8) : (N (x &&& 1#8) == 1) = x.getLsbD 0 := by
  have key : ∀ x : BitVec 8, ((x &&& 1#8) == 1#8) = x.getLsbD 0 := by decide +kernel
  rw [← key, ← eqN]; rfl
attribute [local go_sem high] tdiv2_8 tmod2_8 bit8
set_option maxHeartbeats 400000 in
theorem r1Has_any (m : BitVec 8) (n : Nat) (hn : n ≤ 64) (w : World) : Calls Tryz.prog 229 #[Y m, I n] w fun e w' => e = .returned (.bool (m.getLsbD n)) ∧ w = w' := by
  go_enter Tryz.func229, Tryz.ntmps229
  go_wp2
  go_loop [0, 6] (fun v i => ∃ j : Nat, j ≤ n ∧ i = .int .i64 j ∧ v = Y (m >>> j)) (fun _ i => n - (intOf i).toNat)
  case atStart => exact ⟨0, Nat.zero_le _, rfl, by rw [BitVec.ushiftRight_zero]⟩
  case round =>
    obtain ⟨j, hj, rfl, rfl⟩ := hrel
    have h0 := N_nonneg (m >>> j)
    by_cases hlt : j < n
    · have HS : Hid (m >>> j >>> 1 = m >>> (j + 1)) := Lib.hid (by rw [← BitVec.shiftRight_add])
      go_wp2
      go_round
      case rel => exact ⟨j + 1, by omega, by go_num, by rw [HS.out]⟩
      case measure => simp [intOf]; omega
    · have hjn : j = n := by omega
      have HJ := Lib.hid hjn
      clear hjn
      go_wp2
      go_ret
      refine ⟨?_, rfl⟩
      rw [HJ.out]
      simp
/-- The lanes below j of a mask. -/
def lanesTo (m : BitVec 8) (j : Nat) : List Nat := (List.range j).filter fun i => m.getLsbD i
theorem lanesTo_step (m : BitVec 8) (j : Nat) : icells (lanesTo m (j + 1)) = if m.getLsbD j then icells (lanesTo m j) ++ [I (j : Int)] else icells (lanesTo m j) := by
  unfold lanesTo
  rw [List.range_succ, List.filter_append]
  cases h : m.getLsbD j
  · simp [h]
  · simp [h, icells]
theorem lanesTo_len (m : BitVec 8) (j : Nat) : (lanesTo m (j + 1)).length = if m.getLsbD j then (lanesTo m j).length + 1 else (lanesTo m j).length := by
  unfold lanesTo
  rw [List.range_succ, List.filter_append]
  cases h : m.getLsbD j <;> simp [h]
theorem lanesTo_le (m : BitVec 8) (j : Nat) : (lanesTo m j).length ≤ j := by
  unfold lanesTo
  have := List.length_filter_le (fun i => m.getLsbD i) (List.range j)
  simpa using this
theorem lanesTo_all (m : BitVec 8) : lanesTo m 8 = lanesOf m := rfl
set_option maxHeartbeats 1000000 in
set_option maxRecDepth 100000 in
theorem r1All_any (m : BitVec 8) (w : World) : Calls Tryz.prog 166 #[Y m] w fun e w' => ∃ v, e = .returned v ∧ w'.ownsRow w.heap.size 3 1 v (lanesOf m).length (icells (lanesOf m)) ∧ Ch [] w w' := by
  obtain ⟨i0, hi, hz0, hz1, hz2⟩ := info_parts infoInt
  rw [← lanesTo_all]
  go_enter Tryz.func166, Tryz.ntmps166
  go_wp2
  go_loopw [3, 5] (fun v i wr => ∃ j : Nat, i = .int .i64 j ∧ j ≤ 8 ∧ wr.ownsRow w.heap.size 3 1 v (lanesTo m j).length (icells (lanesTo m j)) ∧ Ch [] w wr) (fun _ i _ => 8 - (intOf i).toNat)
  case atStart => exact ⟨0, rfl, by omega, World.ownsRow_nil _ _ _ _, Ch.refl _ _⟩
  case round =>
    obtain ⟨j, hj, hj8, hown, hcr⟩ := hrel
    subst hj
    have hz := hcr.size
    by_cases hlt : j < 8
    · have A1 := fun w => r1Has_any m j (by omega) w
      have HS := Lib.hid (lanesTo_step m j)
      have HL := Lib.hid (lanesTo_len m j)
      have hle := lanesTo_le m j
      have hob := own_block hown
      generalize icells (lanesTo m j) = ys at *
      generalize (lanesTo m j).length = n at *
      generalize m.getLsbD j = b at *
      cases b
      · go_wp2_with (go_at_call 229; refine (A1 _).mono ?_; rintro e w' ⟨rfl, rfl⟩)
        go_roundw
        case rel => exact ⟨j + 1, by go_num, hlt, by rw [HS.out, HL.out]; simpa using hown, hcr⟩
        case measure => simp [intOf]; omega
      · go_wp2_with (first
          | (go_at_call 229; refine (A1 _).mono ?_; rintro e w' ⟨rfl, rfl⟩)
          | (at_builtin; refine wpList_append_own _ rfl _ _ 124 rfl w.heap.size 3 i0 (.int .i64 0) 1 8 Tryz.underlying124 hi hz0 hz1 hz2 rfl (by decide) _ _ _ rfl (hown.alloc _) ⟨wr.heap.size, 0, none⟩ 1 1 [I (j : Int)] rfl rfl (cell_one_new _ _ _) (by simp [Value.oneCell']) (by unfold maxLen; omega) (by omega) (by simp; omega) ?_; intro v' w1 hown' hgrow _; have HO := Lib.hid hown'; have HG := Lib.hid hgrow; clear hown' hgrow))
        have hgr : (wr.alloc (.cells #[I (j : Int)] 3)).grownBy w1 u3.ownBlock := HG.out
        have hW1 : Ch (u3.ownBlock.toList) wr w1 := (((Ch.refl [] wr).alloc (.cells #[I (j : Int)] 3)).of_nil).trans2 (Ch.of_grown (S := u3.ownBlock.toList) hgr (fun k hk => by simp [hk])) (fun t ht => .inl ht)
        have hSS : ∀ s ∈ u3.ownBlock.toList, w.heap.size ≤ s := fun s hs => hob s (by simpa using hs)
        go_roundw
        case rel => exact ⟨j + 1, by go_num, hlt, by rw [HS.out, HL.out]; exact HO.out, hcr.trans2 hW1 (fun t ht => .inr (hSS t ht))⟩
        case measure => simp [intOf]; omega
    · have hj8 : j = 8 := by omega
      subst hj8
      have HO := Lib.hid hown
      obtain ⟨a, c, rfl⟩ := own_form hown
      clear hown
      go_wp2
      go_ret
      exact ⟨_, rfl, HO.out, hcr⟩
theorem setM_get (p : Nat → Bool) (n : Nat) (h : n < 8) : (setM p 8).getLsbD n = p n := by
  simp only [setM]
  rcases (show n = 0 ∨ n = 1 ∨ n = 2 ∨ n = 3 ∨ n = 4 ∨ n = 5 ∨ n = 6 ∨ n = 7 by omega) with rfl | rfl | rfl | rfl | rfl | rfl | rfl | rfl
  all_goals
    generalize p 0 = a0
    generalize p 1 = a1
    generalize p 2 = a2
    generalize p 3 = a3
    generalize p 4 = a4
    generalize p 5 = a5
    generalize p 6 = a6
    generalize p 7 = a7
    revert a0 a1 a2 a3 a4 a5 a6 a7
    decide +kernel
theorem equalM_set (w : BitVec 64) (b : BitVec 8) : setM (fun n => byteAt w n == b) 8 = equalM w b := by
  apply BitVec.eq_of_getLsbD_eq
  intro i hi
  rw [equalM_bit w b i hi, setM_get _ i hi]
set_option maxHeartbeats 1000000 in
set_option maxRecDepth 100000 in
theorem r1Equal_any (x : BitVec 64) (b : BitVec 8) (w : World) : Calls Tryz.prog 162 #[U x, Y b] w fun e w' => e = .returned (Y (equalM x b)) ∧ Ch [] w w' := by
  have HE := Lib.hid (equalM_set x b)
  go_enter Tryz.func162, Tryz.ntmps162
  go_wp2_with fail
  refine (rBytes_any x w).mono ?_
  rintro e w1 ⟨a, c, rfl, hown, hc1⟩
  obtain ⟨_, ⟨hv, h0⟩ | ⟨g, cap, cur, hv, hg, hW, hle, _, hsz, hx⟩⟩ := hown
  · cases hv
  · simp only [Value.slice.injEq] at hv
    obtain ⟨rfl, -, rfl⟩ := hv
    have hcur : ∀ j, j < 8 → cur[j]? = some (Y (byteAt x j)) := by
      intro j hj
      have h1 : (ycells (bytesOf x))[j]? = some (Y (byteAt x j)) := by unfold ycells; rw [List.getElem?_map, bytesOf_get x j hj]; rfl
      rw [← hx, List.getElem?_take, if_pos (by omega)] at h1
      simpa using h1
    have HC := Lib.hid hcur
    clear hcur hx hle hsz hg
    go_wp2
    go_loop [5, 11] (fun v i => ∃ j : Nat, i = .int .i64 j ∧ j ≤ 8 ∧ v = Y (setM (fun n => byteAt x n == b) j)) (fun _ i => 8 - (intOf i).toNat)
    case atStart => exact ⟨0, rfl, by omega, rfl⟩
    case round =>
      obtain ⟨j, rfl, hj8, rfl⟩ := hrel
      by_cases hlt : j < 8
      · have hcj := HC.out j hlt
        have HS : Hid (setM (fun n => byteAt x n == b) (j + 1) = if byteAt x j == b then setM (fun n => byteAt x n == b) j + laneM j else setM (fun n => byteAt x n == b) j) := Lib.hid rfl
        have W1 := fun w => rWith_any (setM (fun n => byteAt x n == b) j) j (by omega) w
        clear HE
        generalize setM (fun n => byteAt x n == b) j = m at *
        cases hy : (byteAt x j == b)
        all_goals
          rw [hy] at HS
          generalize byteAt x j = y at *
          go_wp2_with (go_at_call 167; refine (W1 _).mono ?_; rintro e w' ⟨rfl, rfl⟩)
          go_round
          case rel => exact ⟨j + 1, by go_num, hlt, by rw [HS.out]; simp⟩
          case measure => simp [intOf]; omega
      · have hj : j = 8 := by omega
        subst hj
        go_wp2
        go_ret
        rw [HE.out]
        exact ⟨rfl, hc1⟩
theorem gt0' (m : BitVec 8) : decide (0 < N m) = (m != 0#8) := by
  rw [Bool.eq_iff_iff, decide_eq_true_iff, bne_iff_ne]
  unfold N
  constructor
  · intro h e; rw [e] at h; simp at h
  · intro h
    have : m.toNat ≠ 0 := fun e => h (BitVec.eq_of_toNat_eq (by rw [e]; rfl))
    omega
theorem r19Empty_any (c : BitVec 64) (w : World) : Calls Tryz.prog 228 #[U c] w fun e w' => e = .returned (.bool (emptyM c != 0#8)) ∧ Ch [] w w' := by
  have S1 : ∀ w, Calls Tryz.prog 162 #[U c, .int .u8 128] w fun e w' => e = .returned (Y (emptyM c)) ∧ Ch [] w w' := fun w => r1Equal_any c 128#8 w
  have h := gt0' (emptyM c)
  generalize emptyM c = m at *
  generalize (m != 0#8) = b at *
  cases b
  all_goals
    first | (have hn : ¬ 0 < N m := of_decide_eq_false h) | (have hn : 0 < N m := of_decide_eq_true h)
    clear h
    go_enter Tryz.func228, Tryz.ntmps228
    go_wp2_with (go_at_call 162; refine (S1 _).mono ?_; rintro e w1 ⟨rfl, hc1⟩)
    go_ret
    first
      | exact ⟨rfl, hc1⟩
      | (refine ⟨?_, hc1⟩; show Ending.returned (.bool (decide (0 < N m))) = _; rw [decide_eq_false (by omega)])
      | (refine ⟨?_, hc1⟩; show Ending.returned (.bool (decide (0 < N m))) = _; rw [decide_eq_true (by omega)])
set_option maxRecDepth 100000 in
theorem r19Least_any (m : BitVec 8) (hm : m ≠ 0#8) (w : World) : Calls Tryz.prog 165 #[Y m] w fun e w' => e = .returned (I (laneP m : Nat)) ∧ Ch [] w w' := by
  obtain ⟨x, hx⟩ := lanes_ne hm
  have HL : Hid (laneP m = x) := Lib.hid (by unfold laneP; rw [hx]; rfl)
  have hlen : 0 < (lanesOf m).length := by
    cases h : lanesOf m with
    | nil => rw [h] at hx; cases hx
    | cons a l => simp
  have h0 : (icells (lanesOf m))[0]? = some (I (x : Int)) := by
    unfold icells; rw [List.getElem?_map, ← List.head?_eq_getElem?, hx]; rfl
  clear hx hm
  go_enter Tryz.func165, Tryz.ntmps165
  go_wp2_with fail
  refine (r1All_any m w).mono ?_
  rintro e w1 ⟨v, rfl, hown, hc1⟩
  obtain ⟨_, ⟨hv, hn⟩ | ⟨g, cap, cur, rfl, hg, hW, hle, _, hsz, hcur⟩⟩ := hown
  · omega
  have hc0 : cur[0]? = some (I (x : Int)) := by
    have : (cur.toList.take ((lanesOf m).length * 1))[0]? = some (I (x : Int)) := by rw [hcur]; exact h0
    rw [List.getElem?_take, if_pos (by omega)] at this
    simpa using this
  clear hcur h0 hle hsz hg
  generalize (lanesOf m).length = n at *
  go_wp2
  go_ret
  exact ⟨by rw [HL.out]; rfl, hc1⟩
theorem new_pen (p : PenT) (w : World) : (w.alloc (.cells (penC p) 71)).heap[w.heap.size]? = some (.cells (penC p) 71 (0, 0)) := by rw [heap_alloc, if_pos rfl]
set_option maxRecDepth 100000 in
theorem r19Group_any (p : PenT) (hg : p.grp = 0 ∨ p.grp = 1) (w : World) : Calls Tryz.prog 163 #[.agg (penC p)] w fun e w' => e = .returned (I (groupP p : Nat)) ∧ Ch [] w w' := by
  have H1 := fun w => rH1_any p.hash w
  have A1 : ∀ w, Calls Tryz.prog 192 #[.int .i64 2, U (hash1 p.hash), .int .i64 0] w fun e w' => e = .returned (I (((g0 (hash1 p.hash) + 0) % 2 : Nat) : Int)) ∧ w = w' := fun w => rAt8_any (hash1 p.hash) 0 (by omega) w
  have A2 : ∀ w, Calls Tryz.prog 192 #[.int .i64 2, U (hash1 p.hash), .int .i64 1] w fun e w' => e = .returned (I (((g0 (hash1 p.hash) + 1) % 2 : Nat) : Int)) ∧ w = w' := fun w => rAt8_any (hash1 p.hash) 1 (by omega) w
  have HG : Hid (groupP p = (g0 (hash1 p.hash) + p.grp.toNat) % 2) := Lib.hid (by rw [groupP])
  generalize groupP p = gp at *
  generalize g0 (hash1 p.hash) = x at *
  rcases hg with hg | hg
  all_goals
    rw [hg] at HG
    first
      | (have A3 := A1; rw [show (x + 0) % 2 = gp from HG.out.symm] at A3)
      | (have A3 := A2; rw [show (x + 1) % 2 = gp from HG.out.symm] at A3)
    clear A1 A2 HG
    go_enter Tryz.func163, Tryz.ntmps163
    go_wp2
    have hC0 : Ch [] w (w.alloc (.cells (penC p) 71)) := (Ch.refl [] w).alloc _
    have b0 := new_pen p w
    generalize w.alloc (.cells (penC p) 71) = W0 at *
    have hg0 : ∀ g : Gar W0, (g.1).heap[w.heap.size]? = some (.cells (penC p) 71 (0, 0)) := fun g => hkeep g.2 b0
    refine wp_region_gar (by kernel_rfl) (by kernel_rfl) ?_
    repeat (go_big_quiet_step (first | (go_at_call 131; exact garL (H1 _)) | (go_at_call 192; exact garL (A3 _))))
    refine wpQuiet_nil ?_
    rintro W1 ⟨g1, hw1⟩
    have hc1 : Ch [] W0 W1 := by rw [hw1]; exact g1.2
    clear hw1 g1 hg0
    go_wp2
    go_ret
    exact ⟨rfl, hC0.trans hc1⟩
set_option maxHeartbeats 400000 in
set_option maxRecDepth 100000 in
theorem r19Was_any (p : PenT) (hf0 : 0 < p.free) (hf1 : p.free ≤ 16) (w : World) : Calls Tryz.prog 169 #[.agg (penC p)] w fun e w' => e = .returned (.bool (wasP p)) ∧ Ch [] w w' := by
  obtain ⟨f, hf⟩ : ∃ f : Nat, p.free = (f : Int) + 1 := ⟨(p.free - 1).toNat, by omega⟩
  have hf15 : (f : Int) ≤ 15 := by omega
  clear hf0 hf1
  have HW : Hid (wasP p = (byteAt p.fctrl (f % 8) == 128#8)) := Lib.hid (by rw [wasP, hf, show ((f : Int) + 1 - 1).toNat = f by omega, emptyM_bit _ _ (Nat.mod_lt _ (by decide))])
  have A1 : ∀ w, Calls Tryz.prog 76 #[U p.fctrl, I ((f : Int) % 8)] w fun e w' => e = .returned (Y (byteAt p.fctrl (f % 8))) ∧ w = w' := fun w => by
    have := rAt_any p.fctrl (f % 8) (by omega) w
    rwa [show ((f % 8 : Nat) : Int) = (f : Int) % 8 by omega] at this
  generalize wasP p = r at *
  generalize byteAt p.fctrl (f % 8) = y at *
  have hy := Y128 y
  have hff : (0 : Int) ≤ (f : Int) := by omega
  go_enter Tryz.func169, Tryz.ntmps169
  go_wp2_with (go_at_call 76; refine (A1 _).mono ?_; rintro e w' ⟨rfl, rfl⟩)
  go_ret
  refine ⟨?_, (Ch.refl [] w).alloc _⟩
  rw [HW.out, ← hy]; rfl
end Go.Proofs.Hc
