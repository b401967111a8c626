/- Package write: among, wants, stores. -/
import Derived.Test.YtmfajobocpaimaaGreatKHxe
import Derived.Test.YtmfajobocpaimaaGreatKHnl
import Derived.Test.YtmfajobocpaimaaGreatKHpa
import Derived.Test.YtmfajobocpaimaaGreatKHq
import Derived.Test.YtmfajobocpaimaaGreatKHr
import Derived.Test.YtmfajobocpaimaaGreatKHop2
import Derived.Below
import Derived.BigQuiet
import Derived.Deep.Draws
import Derived.Deep.Light
import Derived.Deep.QuietTactic
import Derived.Deep.RegionHeld
import Derived.Laws.CopyRow
import Derived.Laws.StructEq
import Derived.Laws.Tables
import Derived.Lib.AppendZerosOnto
import Derived.Lib.Hide
import Derived.Lib.Tables
import Derived.Lib.Walk
import Derived.LoopIn
import Derived.LoopN
import Derived.LoopNIn
import Derived.Maps.AppendAt
import Derived.Maps.Views
import Derived.OwnWalkIn
import Derived.RangeFuncBox
import Derived.RangeFuncCalls
import Derived.RangeFuncRecord
import Derived.RangeFuncSeq
import Derived.Recover
import Derived.RegionTactic
import Derived.Shelf.Slices.Clone
import Derived.StillTail
import Derived.StillTailTactics
import Derived.TacticsInMore
import Derived.Test.YtmfajobocpaimaaGreatProg
import Derived.WalkKit
import Derived.WalkLawsBesides
import Derived.WalkMore
import Derived.WalkSpells
set_option linter.unusedSimpArgs false
set_option linter.unusedVariables false
namespace Go.Proofs.Hc
open Go.RowKit
attribute [local go_sem] wrap_u64 wrap_u8 bits_xor64 bits_and64 bits_or64 bits_not64 bits_xor8 bits_and8 bits_or8 signed64 signed8 ofInt_N BitVec.ofInt_add BitVec.ofInt_mul ofInt_sub' ofInt8_N64 ofInt64_N8 wide8 eqN neN shr_pow shr1 shr7 shr56
attribute [local go_sem high] bits_com64 shl_wrap
attribute [local go_sem] cell_heap ice_heap cellAt_cells iceAt_cells setAt_cells rowAt_cells canLay_cells laidAt_cells size_onObj size_setCell rowRes_some layRes_true
attribute [local go_sem] load26 load73 load23 store26 build73
attribute [local go_sem ↓] lrow26 lrow73 lrow23 srow26 zero26 brow73 heap_alloc heap_drew heap_drewN heap_setCell heap_onObj
attribute [local go_sem] tcells_size hcells_size tcells_get hcells_get tcells_one hcells_one hcells_table tcells_table hcells_all hcells_ctrl tcells_ctrl
attribute [local go_sem] nn2 nm2 nn3 nm3 nn4 nm4 nn5 nm5 nn6 nm6 nn7 nm7 nn8 nm8
attribute [local go_sem] nn2 nm2 nn3 nm3 nn4 nm4 nn5 nm5 nn6 nm6 nn7 nm7 nn8 nm8
attribute [local go_sem] ofInt_N
attribute [local go_sem] Oper.semAt_some make_func1
theorem pen_h0 (p : PenT) : (penC p)[0]? = some (I p.ph) := rfl
theorem pen_h2 (p : PenT) : (penC p)[2]? = some (I p.op) := rfl
theorem pen_h4 (p : PenT) : (penC p)[4]? = some (U p.a) := rfl
theorem pen_h13 (p : PenT) : (penC p)[13]? = some (I p.free) := rfl
theorem pen_h16 (p : PenT) : (penC p)[16]? = some (U p.val) := rfl
theorem pen_h17 (p : PenT) : (penC p)[17]? = some (.bool p.found) := rfl
attribute [local go_sem] pen_h0 pen_h2 pen_h4 pen_h13 pen_h16 pen_h17 penC_size penC_one penC_all
attribute [local irreducible] penC
theorem eqw_cases (x k : Int) : x = k ∨ (x == k) = false := by
  by_cases h : x = k
  · exact .inl h
  · exact .inr (by simpa using h)
theorem N8_zeroW (m : BitVec 8) : (N m == 0) = (m == 0#8) := by rw [← eqN]; rfl
theorem left_casesW (m : BitVec 8) : ((m != 0#8) = true ∧ (N m == 0) = false ∧ (N m != 0) = true) ∨ ((m != 0#8) = false ∧ (N m == 0) = true ∧ (N m != 0) = false) := by
  rw [bne, bne, N8_zeroW]
  cases m == 0#8 <;> simp
/-- A row of numbers. -/
def intsC (l : List Int) : Array Value := (l.map fun n => I n).toArray
theorem intsC_get (l : List Int) (j : Nat) (x : Int) (h : l[j]? = some x) : (intsC l)[j]? = some (I x) := by
  unfold intsC; simp [h]
/-- The place of a number in a row, or a number below nought. -/
def IdxI (w : World) (l : List Int) (x : Int) (e : Ending) (w' : World) : Prop := ∃ n : Int, e = .returned (I n) ∧ (0 ≤ n ↔ x ∈ l) ∧ -1 ≤ n ∧ w = w'
set_option maxHeartbeats 1000000 in
set_option maxRecDepth 100000 in
theorem index_ints (l : List Int) (x : Int) (g c : Nat) (w : World) (hl : l.length ≤ 900) (hb : w.heap[g]? = some (.cells (intsC l) 3 (0, 0))) :
    Calls Tryz.prog 252 #[.slice (some ⟨g, 0, none⟩) l.length c, I x] w (IdxI w l x) := by
  have HG := Lib.hid (intsC_get l)
  generalize intsC l = cur at *
  go_enter Tryz.func252, Tryz.ntmps252
  go_wp2
  go_loop [8] (fun i => ∃ j : Nat, i = .int .i64 j ∧ j ≤ l.length ∧ Hid (∀ y ∈ l.take j, y ≠ x)) (fun i => l.length - (intOf i).toNat)
  case atStart => exact ⟨0, rfl, Nat.zero_le _, Lib.hid (by simp)⟩
  case round =>
    obtain ⟨j, rfl, hjl, hno⟩ := hrel
    rcases Nat.lt_or_ge j l.length with hlt | hge
    · obtain ⟨y, hy⟩ : ∃ y, l[j]? = some y := ⟨l[j]'hlt, List.getElem?_eq_getElem hlt⟩
      have hc := HG.out j y hy
      have HY := Lib.hid hy
      have hdec : decide (j < l.length) = true := by simpa using hlt
      clear hy
      rcases eqw_cases x y with he | he
      · subst he
        go_wp2
        go_ret
        refine ⟨j, rfl, ⟨fun _ => List.mem_iff_getElem?.2 ⟨j, HY.out⟩, fun _ => by omega⟩, by omega, rfl⟩
      · have HE : Hid (y ≠ x) := Lib.hid (fun e => by rw [e] at he; simp at he)
        go_wp2
        go_round
        case rel => exact ⟨j + 1, by go_num, hlt, Lib.hid (by
          intro z hz
          rw [List.take_add_one, HY.out] at hz
          rcases List.mem_append.1 hz with h1 | h1
          · exact hno.out z h1
          · have : z = y := by simpa using h1
            rw [this]; exact HE.out)⟩
        case measure => simp [intOf]; omega
    · have hme : j = l.length := Nat.le_antisymm hjl hge
      have hdec : decide (j < l.length) = false := by simpa using hge
      have HM := Lib.hid hme
      clear hme hge
      go_wp2
      go_ret
      refine ⟨-1, rfl, ⟨fun h => by omega, fun h => ?_⟩, by omega, rfl⟩
      have := hno.out x (by rw [HM.out, List.take_length]; exact h)
      exact absurd rfl this
theorem contains_ints (l : List Int) (x : Int) (g c : Nat) (w : World) (hl : l.length ≤ 900) (hb : w.heap[g]? = some (.cells (intsC l) 3 (0, 0))) :
    Calls Tryz.prog 218 #[.slice (some ⟨g, 0, none⟩) l.length c, I x] w fun e w' => e = .returned (.bool (decide (x ∈ l))) ∧ w = w' := by
  obtain ⟨r, hr⟩ : ∃ r, decide (x ∈ l) = r := ⟨_, rfl⟩
  rw [hr]
  have HR := Lib.hid hr
  clear hr
  go_enter Tryz.func218, Tryz.ntmps218
  go_wp2_with fail
  refine (index_ints l x g c w hl hb).mono ?_
  rintro e w1 ⟨n, rfl, hn, hn1, rfl⟩
  have HD : Hid (r = decide (0 ≤ n)) := Lib.hid (by rw [← HR.out, decide_eq_decide]; exact hn.symm)
  clear hn hn1 HR
  go_wp2
  all_goals
    go_ret
    refine ⟨?_, rfl⟩
    rw [HD.out]
    first | rfl | (simp; done) | (simp; omega)
theorem among_ints (l : List Int) (x : Int) (g c : Nat) (w : World) (hl : l.length ≤ 900) (hb : w.heap[g]? = some (.cells (intsC l) 3 (0, 0))) :
    Calls Tryz.prog 157 #[I x, .slice (some ⟨g, 0, none⟩) l.length c] w fun e w' => e = .returned (.bool (decide (x ∈ l))) ∧ w = w' := by
  have C1 := contains_ints l x g c w hl hb
  generalize decide (x ∈ l) = r at *
  go_enter Tryz.func157, Tryz.ntmps157
  go_wp2_with (go_at_call 218; refine C1.mono ?_; rintro e w' ⟨rfl, rfl⟩)
  go_ret
  exact ⟨rfl, rfl⟩
theorem is_any (p : PenT) (b g : Nat) (n : Int) (w : World) (hb : w.heap[b]? = some (.cells #[.pointer (some ⟨g, 0, none⟩)] 168 (0, 0))) (hg : w.heap[g]? = some (.cells (penC p) 170 (0, 0))) :
    Calls Tryz.prog 185 #[I n, .pointer (some ⟨b, 0, none⟩)] w fun e w' => e = .returned (.bool (p.op == n)) ∧ w = w' := by
  go_enter Tryz.func185, Tryz.ntmps185
  go_wp2
  go_ret
  exact ⟨rfl, rfl⟩
set_option maxHeartbeats 2000000 in
set_option maxRecDepth 100000 in
theorem wants_found (p : PenT) (g : Nat) (w : World) (hg : w.heap[g]? = some (.cells (penC p) 170 (0, 0))) (hf : p.found = true) :
    Calls Tryz.prog 115 #[.pointer (some ⟨g, 0, none⟩)] w fun e w' => e = .returned (I (wantsP p : Nat)) ∧ Ch [] w w' := by
  have HW : Hid (wantsP p = if (p.op == 2 || p.op == 4 && p.val == p.a) then 2 else if p.op == 3 then 3 else 0) := Lib.hid (by rw [wantsP, if_pos hf])
  have I2 := fun (W : World) (b : Nat) (h1 : W.heap[b]? = some (.cells #[.pointer (some ⟨g, 0, none⟩)] 168 (0, 0))) (h2 : W.heap[g]? = some (.cells (penC p) 170 (0, 0))) => is_any p b g 2 W h1 h2
  have I3 := fun (W : World) (b : Nat) (h1 : W.heap[b]? = some (.cells #[.pointer (some ⟨g, 0, none⟩)] 168 (0, 0))) (h2 : W.heap[g]? = some (.cells (penC p) 170 (0, 0))) => is_any p b g 3 W h1 h2
  have I4 := fun (W : World) (b : Nat) (h1 : W.heap[b]? = some (.cells #[.pointer (some ⟨g, 0, none⟩)] 168 (0, 0))) (h2 : W.heap[g]? = some (.cells (penC p) 170 (0, 0))) => is_any p b g 4 W h1 h2
  have hC0 : Ch [] w (w.alloc (.cells #[.pointer (some ⟨g, 0, none⟩)] 168)) := (Ch.refl [] w).alloc _
  have b0 : (w.alloc (.cells #[.pointer (some ⟨g, 0, none⟩)] 168)).heap[w.heap.size]? = some (.cells #[.pointer (some ⟨g, 0, none⟩)] 168 (0, 0)) := by rw [heap_alloc, if_pos rfl]
  have g0' := hkeep hC0 hg
  obtain ⟨v, hv⟩ : ∃ v, (p.val == p.a) = v := ⟨_, rfl⟩
  generalize wantsP p = n at *
  generalize (p.op == 2) = q2 at *
  generalize (p.op == 3) = q3 at *
  generalize (p.op == 4) = q4 at *
  rw [hv] at HW
  have hcs : q2 = true ∨ q2 = false ∧ q4 = true ∧ v = true ∨ q2 = false ∧ q4 = true ∧ v = false ∧ q3 = true ∨ q2 = false ∧ q4 = true ∧ v = false ∧ q3 = false ∨ q2 = false ∧ q4 = false ∧ q3 = true ∨ q2 = false ∧ q4 = false ∧ q3 = false := by
    cases q2 <;> cases q3 <;> cases q4 <;> cases v <;> simp
  rcases hcs with rfl | ⟨rfl, rfl, rfl⟩ | ⟨rfl, rfl, rfl, rfl⟩ | ⟨rfl, rfl, rfl, rfl⟩ | ⟨rfl, rfl, rfl⟩ | ⟨rfl, rfl, rfl⟩
  all_goals
    go_enter Tryz.func115, Tryz.ntmps115
    go_wp2
    generalize w.alloc (.cells #[.pointer (some ⟨g, 0, none⟩)] 168) = W0 at *
    have hgb : ∀ g1 : Gar W0, (g1.1).heap[w.heap.size]? = some (.cells #[.pointer (some ⟨g, 0, none⟩)] 168 (0, 0)) := fun g1 => hkeep g1.2 b0
    have hgg : ∀ g1 : Gar W0, (g1.1).heap[g]? = some (.cells (penC p) 170 (0, 0)) := fun g1 => hkeep g1.2 g0'
    refine wp_region_gar (by kernel_rfl) (by kernel_rfl) ?_
    repeat (go_big_quiet_step (first | (with_reducible exact garL (I2 _ _ (hgb _) (hgg _))) | (with_reducible exact garL (I4 _ _ (hgb _) (hgg _)))))
    refine wpQuiet_nil ?_
    rintro W1 ⟨g1, hw1⟩
    have hc1 : Ch [] W0 W1 := by rw [hw1]; exact g1.2
    have b1 := hkeep hc1 b0
    have g1' := hkeep hc1 g0'
    clear hw1 g1 hgb hgg b0 g0'
    go_wp2_with (refine (I3 _ _ b1 g1').mono ?_; rintro e w' ⟨rfl, rfl⟩)
    go_ret
    refine ⟨?_, hC0.trans hc1⟩
    rw [HW.out]
    simp
set_option maxHeartbeats 2000000 in
set_option maxRecDepth 100000 in
theorem wants_not (p : PenT) (g : Nat) (w : World) (hg : w.heap[g]? = some (.cells (penC p) 170 (0, 0))) (hf : p.found = false) :
    Calls Tryz.prog 115 #[.pointer (some ⟨g, 0, none⟩)] w fun e w' => e = .returned (I (wantsP p : Nat)) ∧ Ch [] w w' := by
  have HW : Hid (wantsP p = if (p.op == 2 || p.op == 5) then 1 else 0) := Lib.hid (by rw [wantsP, hf, if_neg (by decide)])
  have I2 := fun (W : World) (b : Nat) (h1 : W.heap[b]? = some (.cells #[.pointer (some ⟨g, 0, none⟩)] 168 (0, 0))) (h2 : W.heap[g]? = some (.cells (penC p) 170 (0, 0))) => is_any p b g 2 W h1 h2
  have I5 := fun (W : World) (b : Nat) (h1 : W.heap[b]? = some (.cells #[.pointer (some ⟨g, 0, none⟩)] 168 (0, 0))) (h2 : W.heap[g]? = some (.cells (penC p) 170 (0, 0))) => is_any p b g 5 W h1 h2
  have hC0 : Ch [] w (w.alloc (.cells #[.pointer (some ⟨g, 0, none⟩)] 168)) := (Ch.refl [] w).alloc _
  have b0 : (w.alloc (.cells #[.pointer (some ⟨g, 0, none⟩)] 168)).heap[w.heap.size]? = some (.cells #[.pointer (some ⟨g, 0, none⟩)] 168 (0, 0)) := by rw [heap_alloc, if_pos rfl]
  have g0' := hkeep hC0 hg
  generalize wantsP p = n at *
  generalize (p.op == 2) = q2 at *
  generalize (p.op == 5) = q5 at *
  have hcs : q2 = true ∨ q2 = false ∧ q5 = true ∨ q2 = false ∧ q5 = false := by
    cases q2 <;> cases q5 <;> simp
  rcases hcs with rfl | ⟨rfl, rfl⟩ | ⟨rfl, rfl⟩
  all_goals
    go_enter Tryz.func115, Tryz.ntmps115
    go_wp2
    generalize w.alloc (.cells #[.pointer (some ⟨g, 0, none⟩)] 168) = W0 at *
    have hgb : ∀ g1 : Gar W0, (g1.1).heap[w.heap.size]? = some (.cells #[.pointer (some ⟨g, 0, none⟩)] 168 (0, 0)) := fun g1 => hkeep g1.2 b0
    have hgg : ∀ g1 : Gar W0, (g1.1).heap[g]? = some (.cells (penC p) 170 (0, 0)) := fun g1 => hkeep g1.2 g0'
    refine wp_region_gar (by kernel_rfl) (by kernel_rfl) ?_
    repeat (go_big_quiet_step (fail))
    refine wpQuiet_nil ?_
    rintro W1 ⟨g1, hw1⟩
    have hc1 : Ch [] W0 W1 := by rw [hw1]; exact g1.2
    have b1 := hkeep hc1 b0
    have g1' := hkeep hc1 g0'
    clear hw1 g1 hgb hgg b0 g0'
    go_wp2_with (first | ((with_reducible refine (I2 _ _ b1 g1').mono ?_); rintro e w' ⟨rfl, rfl⟩) | ((with_reducible refine (I5 _ _ b1 g1').mono ?_); rintro e w' ⟨rfl, rfl⟩))
    go_ret
    refine ⟨?_, hC0.trans hc1⟩
    rw [HW.out]
    simp
theorem wants_any (p : PenT) (g : Nat) (w : World) (hg : w.heap[g]? = some (.cells (penC p) 170 (0, 0))) :
    Calls Tryz.prog 115 #[.pointer (some ⟨g, 0, none⟩)] w fun e w' => e = .returned (I (wantsP p : Nat)) ∧ Ch [] w w' := by
  cases hf : p.found
  · exact wants_not p g w hg hf
  · exact wants_found p g w hg hf
end Go.Proofs.Hc
