/- Package write: among, wants, stores. -/
import Derived.Test.YtmfajobocpaimaaGreatKHmet
import Derived.Test.YtmfajobocpaimaaGreatKHcs
import Derived.Test.YtmfajobocpaimaaGreatKHm
import Derived.Test.YtmfajobocpaimaaGreatKHma
import Derived.Test.YtmfajobocpaimaaGreatKHnl
import Derived.Test.YtmfajobocpaimaaGreatKHye
import Derived.Test.YtmfajobocpaimaaGreatKHni
import Derived.Test.YtmfajobocpaimaaGreatKHxh
import Derived.Below
import Derived.BigQuiet
import Derived.Deep.Draws
import Derived.Deep.Light
import Derived.Deep.QuietTactic
import Derived.Deep.RegionHeld
import Derived.Laws.CopyRow
import Derived.Laws.StructEq
import Derived.Laws.Tables
import Derived.Lib.AppendZerosOnto
import Derived.Lib.Hide
import Derived.Lib.Tables
import Derived.Lib.Walk
import Derived.LoopIn
import Derived.LoopN
import Derived.LoopNIn
import Derived.Maps.AppendAt
import Derived.Maps.Views
import Derived.OwnWalkIn
import Derived.RangeFuncBox
import Derived.RangeFuncCalls
import Derived.RangeFuncRecord
import Derived.RangeFuncSeq
import Derived.Recover
import Derived.RegionTactic
import Derived.Shelf.Slices.Clone
import Derived.StillTail
import Derived.StillTailTactics
import Derived.TacticsInMore
import Derived.Test.YtmfajobocpaimaaGreatProg
import Derived.WalkKit
import Derived.WalkLawsBesides
import Derived.WalkMore
import Derived.WalkSpells
import Derived.ScopeJumps
set_option linter.unusedSimpArgs false
set_option linter.unusedVariables false
namespace Go.Proofs.Hc
open Go.RowKit
attribute [local go_sem] wrap_u64 wrap_u8 bits_xor64 bits_and64 bits_or64 bits_not64 bits_xor8 bits_and8 bits_or8 signed64 signed8 ofInt_N BitVec.ofInt_add BitVec.ofInt_mul ofInt_sub' ofInt8_N64 ofInt64_N8 wide8 eqN neN shr_pow shr1 shr7 shr56
attribute [local go_sem high] bits_com64 shl_wrap
attribute [local go_sem] cell_heap ice_heap cellAt_cells iceAt_cells setAt_cells rowAt_cells canLay_cells laidAt_cells size_onObj size_setCell rowRes_some layRes_true
attribute [local go_sem] load26 load73 load23 store26 build73
attribute [local go_sem ↓] lrow26 lrow73 lrow23 srow26 zero26 brow73 heap_alloc heap_drew heap_drewN heap_setCell heap_onObj
attribute [local go_sem] tcells_size hcells_size tcells_get hcells_get tcells_one hcells_one hcells_table tcells_table hcells_all hcells_ctrl tcells_ctrl
attribute [local go_sem] nn2 nm2 nn3 nm3 nn4 nm4 nn5 nm5 nn6 nm6 nn7 nm7 nn8 nm8
attribute [local go_sem] nn2 nm2 nn3 nm3 nn4 nm4 nn5 nm5 nn6 nm6 nn7 nm7 nn8 nm8
attribute [local go_sem] ofInt_N
attribute [local go_sem] Oper.semAt_some make_func1
theorem pen_h0 (p : PenT) : (penC p)[0]? = some (I p.ph) := rfl
theorem pen_h2 (p : PenT) : (penC p)[2]? = some (I p.op) := rfl
theorem pen_h4 (p : PenT) : (penC p)[4]? = some (U p.a) := rfl
theorem pen_h13 (p : PenT) : (penC p)[13]? = some (I p.free) := rfl
theorem pen_h16 (p : PenT) : (penC p)[16]? = some (U p.val) := rfl
theorem pen_h17 (p : PenT) : (penC p)[17]? = some (.bool p.found) := rfl
attribute [local go_sem] pen_h0 pen_h2 pen_h4 pen_h13 pen_h16 pen_h17 penC_size penC_one penC_all
attribute [local irreducible] penC
theorem eqw_cases (x k : Int) : x = k ∨ (x == k) = false := by
  by_cases h : x = k
  · exact .inl h
  · exact .inr (by simpa using h)
theorem N8_zeroW (m : BitVec 8) : (N m == 0) = (m == 0#8) := by rw [← eqN]; rfl
theorem left_casesW (m : BitVec 8) : ((m != 0#8) = true ∧ (N m == 0) = false ∧ (N m != 0) = true) ∨ ((m != 0#8) = false ∧ (N m == 0) = true ∧ (N m != 0) = false) := by
  rw [bne, bne, N8_zeroW]
  cases m == 0#8 <;> simp
/-- A row of numbers. -/
def intsC (l : List Int) : Array Value := (l.map fun n => I n).toArray
theorem intsC_get (l : List Int) (j : Nat) (x : Int) (h : l[j]? = some x) : (intsC l)[j]? = some (I x) := by
  unfold intsC; simp [h]
/-- The place of a number in a row, or a number below nought. -/
def IdxI (w : World) (l : List Int) (x : Int) (e : Ending) (w' : World) : Prop := ∃ n : Int, e = .returned (I n) ∧ (0 ≤ n ↔ x ∈ l) ∧ -1 ≤ n ∧ w = w'
set_option maxHeartbeats 1000000 in
set_option maxRecDepth 100000 in
theorem index_ints (l : List Int) (x : Int) (g c : Nat) (w : World) (hl : l.length ≤ 900) (hb : w.heap[g]? = some (.cells (intsC l) 3 (0, 0))) :
    Calls Tryz.prog 252 #[.slice (some ⟨g, 0, none⟩) l.length c, I x] w (IdxI w l x) := by
  have HG := Lib.hid (intsC_get l)
  generalize intsC l = cur at *
  go_enter Tryz.func252, Tryz.ntmps252
  go_wp2
  go_loop [8] (fun i => ∃ j : Nat, i = .int .i64 j ∧ j ≤ l.length ∧ Hid (∀ y ∈ l.take j, y ≠ x)) (fun i => l.length - (intOf i).toNat)
  case atStart => exact ⟨0, rfl, Nat.zero_le _, Lib.hid (by simp)⟩
  case round =>
    obtain ⟨j, rfl, hjl, hno⟩ := hrel
    rcases Nat.lt_or_ge j l.length with hlt | hge
    · obtain ⟨y, hy⟩ : ∃ y, l[j]? = some y := ⟨l[j]'hlt, List.getElem?_eq_getElem hlt⟩
      have hc := HG.out j y hy
      have HY := Lib.hid hy
      have hdec : decide (j < l.length) = true := by simpa using hlt
      clear hy
      rcases eqw_cases x y with he | he
      · subst he
        go_wp2
        go_ret
        refine ⟨j, rfl, ⟨fun _ => List.mem_iff_getElem?.2 ⟨j, HY.out⟩, fun _ => by omega⟩, by omega, rfl⟩
      · have HE : Hid (y ≠ x) := Lib.hid (fun e => by rw [e] at he; simp at he)
        go_wp2
        go_round
        case rel => exact ⟨j + 1, by go_num, hlt, Lib.hid (by
          intro z hz
          rw [List.take_add_one, HY.out] at hz
          rcases List.mem_append.1 hz with h1 | h1
          · exact hno.out z h1
          · have : z = y := by simpa using h1
            rw [this]; exact HE.out)⟩
        case measure => simp [intOf]; omega
    · have hme : j = l.length := Nat.le_antisymm hjl hge
      have hdec : decide (j < l.length) = false := by simpa using hge
      have HM := Lib.hid hme
      clear hme hge
      go_wp2
      go_ret
      refine ⟨-1, rfl, ⟨fun h => by omega, fun h => ?_⟩, by omega, rfl⟩
      have := hno.out x (by rw [HM.out, List.take_length]; exact h)
      exact absurd rfl this
theorem contains_ints (l : List Int) (x : Int) (g c : Nat) (w : World) (hl : l.length ≤ 900) (hb : w.heap[g]? = some (.cells (intsC l) 3 (0, 0))) :
    Calls Tryz.prog 218 #[.slice (some ⟨g, 0, none⟩) l.length c, I x] w fun e w' => e = .returned (.bool (decide (x ∈ l))) ∧ w = w' := by
  obtain ⟨r, hr⟩ : ∃ r, decide (x ∈ l) = r := ⟨_, rfl⟩
  rw [hr]
  have HR := Lib.hid hr
  clear hr
  go_enter Tryz.func218, Tryz.ntmps218
  go_wp2_with fail
  refine (index_ints l x g c w hl hb).mono ?_
  rintro e w1 ⟨n, rfl, hn, hn1, rfl⟩
  have HD : Hid (r = decide (0 ≤ n)) := Lib.hid (by rw [← HR.out, decide_eq_decide]; exact hn.symm)
  clear hn hn1 HR
  go_wp2
  all_goals
    go_ret
    refine ⟨?_, rfl⟩
    rw [HD.out]
    first | rfl | (simp; done) | (simp; omega)
theorem among_ints (l : List Int) (x : Int) (g c : Nat) (w : World) (hl : l.length ≤ 900) (hb : w.heap[g]? = some (.cells (intsC l) 3 (0, 0))) :
    Calls Tryz.prog 157 #[I x, .slice (some ⟨g, 0, none⟩) l.length c] w fun e w' => e = .returned (.bool (decide (x ∈ l))) ∧ w = w' := by
  have C1 := contains_ints l x g c w hl hb
  generalize decide (x ∈ l) = r at *
  go_enter Tryz.func157, Tryz.ntmps157
  go_wp2_with (go_at_call 218; refine C1.mono ?_; rintro e w' ⟨rfl, rfl⟩)
  go_ret
  exact ⟨rfl, rfl⟩
theorem is_any (p : PenT) (b g : Nat) (n : Int) (w : World) (hb : w.heap[b]? = some (.cells #[.pointer (some ⟨g, 0, none⟩)] 168 (0, 0))) (hg : w.heap[g]? = some (.cells (penC p) 170 (0, 0))) :
    Calls Tryz.prog 185 #[I n, .pointer (some ⟨b, 0, none⟩)] w fun e w' => e = .returned (.bool (p.op == n)) ∧ w = w' := by
  go_enter Tryz.func185, Tryz.ntmps185
  go_wp2
  go_ret
  exact ⟨rfl, rfl⟩
set_option maxHeartbeats 2000000 in
set_option maxRecDepth 100000 in
theorem wants_found (p : PenT) (g : Nat) (w : World) (hg : w.heap[g]? = some (.cells (penC p) 170 (0, 0))) (hf : p.found = true) :
    Calls Tryz.prog 115 #[.pointer (some ⟨g, 0, none⟩)] w fun e w' => e = .returned (I (wantsP p : Nat)) ∧ Ch [] w w' := by
  have HW : Hid (wantsP p = if (p.op == 2 || p.op == 4 && p.val == p.a) then 2 else if p.op == 3 then 3 else 0) := Lib.hid (by rw [wantsP, if_pos hf])
  have I2 := fun (W : World) (b : Nat) (h1 : W.heap[b]? = some (.cells #[.pointer (some ⟨g, 0, none⟩)] 168 (0, 0))) (h2 : W.heap[g]? = some (.cells (penC p) 170 (0, 0))) => is_any p b g 2 W h1 h2
  have I3 := fun (W : World) (b : Nat) (h1 : W.heap[b]? = some (.cells #[.pointer (some ⟨g, 0, none⟩)] 168 (0, 0))) (h2 : W.heap[g]? = some (.cells (penC p) 170 (0, 0))) => is_any p b g 3 W h1 h2
  have I4 := fun (W : World) (b : Nat) (h1 : W.heap[b]? = some (.cells #[.pointer (some ⟨g, 0, none⟩)] 168 (0, 0))) (h2 : W.heap[g]? = some (.cells (penC p) 170 (0, 0))) => is_any p b g 4 W h1 h2
  have hC0 : Ch [] w (w.alloc (.cells #[.pointer (some ⟨g, 0, none⟩)] 168)) := (Ch.refl [] w).alloc _
  have b0 : (w.alloc (.cells #[.pointer (some ⟨g, 0, none⟩)] 168)).heap[w.heap.size]? = some (.cells #[.pointer (some ⟨g, 0, none⟩)] 168 (0, 0)) := by rw [heap_alloc, if_pos rfl]
  have g0' := hkeep hC0 hg
  obtain ⟨v, hv⟩ : ∃ v, (p.val == p.a) = v := ⟨_, rfl⟩
  generalize wantsP p = n at *
  generalize (p.op == 2) = q2 at *
  generalize (p.op == 3) = q3 at *
  generalize (p.op == 4) = q4 at *
  rw [hv] at HW
  have hcs : q2 = true ∨ q2 = false ∧ q4 = true ∧ v = true ∨ q2 = false ∧ q4 = true ∧ v = false ∧ q3 = true ∨ q2 = false ∧ q4 = true ∧ v = false ∧ q3 = false ∨ q2 = false ∧ q4 = false ∧ q3 = true ∨ q2 = false ∧ q4 = false ∧ q3 = false := by
    cases q2 <;> cases q3 <;> cases q4 <;> cases v <;> simp
  rcases hcs with rfl | ⟨rfl, rfl, rfl⟩ | ⟨rfl, rfl, rfl, rfl⟩ | ⟨rfl, rfl, rfl, rfl⟩ | ⟨rfl, rfl, rfl⟩ | ⟨rfl, rfl, rfl⟩
  all_goals
    go_enter Tryz.func115, Tryz.ntmps115
    go_wp2
    generalize w.alloc (.cells #[.pointer (some ⟨g, 0, none⟩)] 168) = W0 at *
    have hgb : ∀ g1 : Gar W0, (g1.1).heap[w.heap.size]? = some (.cells #[.pointer (some ⟨g, 0, none⟩)] 168 (0, 0)) := fun g1 => hkeep g1.2 b0
    have hgg : ∀ g1 : Gar W0, (g1.1).heap[g]? = some (.cells (penC p) 170 (0, 0)) := fun g1 => hkeep g1.2 g0'
    refine wp_region_gar (by kernel_rfl) (by kernel_rfl) ?_
    repeat (go_big_quiet_step (first | (with_reducible exact garL (I2 _ _ (hgb _) (hgg _))) | (with_reducible exact garL (I4 _ _ (hgb _) (hgg _)))))
    refine wpQuiet_nil ?_
    rintro W1 ⟨g1, hw1⟩
    have hc1 : Ch [] W0 W1 := by rw [hw1]; exact g1.2
    have b1 := hkeep hc1 b0
    have g1' := hkeep hc1 g0'
    clear hw1 g1 hgb hgg b0 g0'
    go_wp2_with (refine (I3 _ _ b1 g1').mono ?_; rintro e w' ⟨rfl, rfl⟩)
    go_ret
    refine ⟨?_, hC0.trans hc1⟩
    rw [HW.out]
    simp
set_option maxHeartbeats 2000000 in
set_option maxRecDepth 100000 in
theorem wants_not (p : PenT) (g : Nat) (w : World) (hg : w.heap[g]? = some (.cells (penC p) 170 (0, 0))) (hf : p.found = false) :
    Calls Tryz.prog 115 #[.pointer (some ⟨g, 0, none⟩)] w fun e w' => e = .returned (I (wantsP p : Nat)) ∧ Ch [] w w' := by
  have HW : Hid (wantsP p = if (p.op == 2 || p.op == 5) then 1 else 0) := Lib.hid (by rw [wantsP, hf, if_neg (by decide)])
  have I2 := fun (W : World) (b : Nat) (h1 : W.heap[b]? = some (.cells #[.pointer (some ⟨g, 0, none⟩)] 168 (0, 0))) (h2 : W.heap[g]? = some (.cells (penC p) 170 (0, 0))) => is_any p b g 2 W h1 h2
  have I5 := fun (W : World) (b : Nat) (h1 : W.heap[b]? = some (.cells #[.pointer (some ⟨g, 0, none⟩)] 168 (0, 0))) (h2 : W.heap[g]? = some (.cells (penC p) 170 (0, 0))) => is_any p b g 5 W h1 h2
  have hC0 : Ch [] w (w.alloc (.cells #[.pointer (some ⟨g, 0, none⟩)] 168)) := (Ch.refl [] w).alloc _
  have b0 : (w.alloc (.cells #[.pointer (some ⟨g, 0, none⟩)] 168)).heap[w.heap.size]? = some (.cells #[.pointer (some ⟨g, 0, none⟩)] 168 (0, 0)) := by rw [heap_alloc, if_pos rfl]
  have g0' := hkeep hC0 hg
  generalize wantsP p = n at *
  generalize (p.op == 2) = q2 at *
  generalize (p.op == 5) = q5 at *
  have hcs : q2 = true ∨ q2 = false ∧ q5 = true ∨ q2 = false ∧ q5 = false := by
    cases q2 <;> cases q5 <;> simp
  rcases hcs with rfl | ⟨rfl, rfl⟩ | ⟨rfl, rfl⟩
  all_goals
    go_enter Tryz.func115, Tryz.ntmps115
    go_wp2
    generalize w.alloc (.cells #[.pointer (some ⟨g, 0, none⟩)] 168) = W0 at *
    have hgb : ∀ g1 : Gar W0, (g1.1).heap[w.heap.size]? = some (.cells #[.pointer (some ⟨g, 0, none⟩)] 168 (0, 0)) := fun g1 => hkeep g1.2 b0
    have hgg : ∀ g1 : Gar W0, (g1.1).heap[g]? = some (.cells (penC p) 170 (0, 0)) := fun g1 => hkeep g1.2 g0'
    refine wp_region_gar (by kernel_rfl) (by kernel_rfl) ?_
    repeat (go_big_quiet_step (fail))
    refine wpQuiet_nil ?_
    rintro W1 ⟨g1, hw1⟩
    have hc1 : Ch [] W0 W1 := by rw [hw1]; exact g1.2
    have b1 := hkeep hc1 b0
    have g1' := hkeep hc1 g0'
    clear hw1 g1 hgb hgg b0 g0'
    go_wp2_with (first | ((with_reducible refine (I2 _ _ b1 g1').mono ?_); rintro e w' ⟨rfl, rfl⟩) | ((with_reducible refine (I5 _ _ b1 g1').mono ?_); rintro e w' ⟨rfl, rfl⟩))
    go_ret
    refine ⟨?_, hC0.trans hc1⟩
    rw [HW.out]
    simp
theorem wants_any (p : PenT) (g : Nat) (w : World) (hg : w.heap[g]? = some (.cells (penC p) 170 (0, 0))) :
    Calls Tryz.prog 115 #[.pointer (some ⟨g, 0, none⟩)] w fun e w' => e = .returned (I (wantsP p : Nat)) ∧ Ch [] w w' := by
  cases hf : p.found
  · exact wants_not p g w hg hf
  · exact wants_found p g w hg hf
end Go.Proofs.Hc
/- Package write: stores (an iterator), goes. -/
namespace Go.Proofs.Hc
open Go.RowKit
attribute [local go_sem] wrap_u64 wrap_u8 bits_xor64 bits_and64 bits_or64 bits_not64 bits_xor8 bits_and8 bits_or8 signed64 signed8 ofInt_N BitVec.ofInt_add BitVec.ofInt_mul ofInt_sub' ofInt8_N64 ofInt64_N8 wide8 eqN neN shr_pow shr1 shr7 shr56
attribute [local go_sem high] bits_com64 shl_wrap
attribute [local go_sem] cell_heap ice_heap cellAt_cells iceAt_cells setAt_cells rowAt_cells canLay_cells laidAt_cells size_onObj size_setCell rowRes_some layRes_true
attribute [local go_sem] load26 load73 load23 store26 build73
attribute [local go_sem ↓] lrow26 lrow73 lrow23 srow26 zero26 brow73 heap_alloc heap_drew heap_drewN heap_setCell heap_onObj
attribute [local go_sem] tcells_size hcells_size tcells_get hcells_get tcells_one hcells_one hcells_table tcells_table hcells_all hcells_ctrl tcells_ctrl
attribute [local go_sem] nn2 nm2 nn3 nm3 nn4 nm4 nn5 nm5 nn6 nm6 nn7 nm7 nn8 nm8
attribute [local go_sem] nn2 nm2 nn3 nm3 nn4 nm4 nn5 nm5 nn6 nm6 nn7 nm7 nn8 nm8
attribute [local go_sem] ofInt_N ofInt_pow8
attribute [local go_sem] Oper.semAt_some make_func1
attribute [local go_sem] pen_g0 pen_g1 pen_g2 pen_g3 pen_g4 pen_g5 pen_g6 pen_g7 pen_g8 pen_g9 pen_g10 pen_g11 pen_g12 pen_g13 pen_g14 pen_g15 pen_g16 pen_g17 penC_size penC_one penC_all
attribute [local irreducible] penC
/-- The phases of the stores, in order. -/
def storesL (n : Nat) : List Int := if n = 1 then [6, 7, 8, 9, 10, 11, 12, 13] else if n = 2 then [6, 8, 13] else [6, 9, 10, 11, 12, 13]
theorem storesL_len (n : Nat) : (storesL n).length ≤ 8 := by
  unfold storesL
  split
  · decide
  · split <;> decide
abbrev rows4 (a b c : Nat) : Array Value := #[.slice none 0 0, .slice (some ⟨a, 0, none⟩) 8 8, .slice (some ⟨b, 0, none⟩) 3 3, .slice (some ⟨c, 0, none⟩) 6 6]
theorem rows4_one (a b c : Nat) : allOne (rows4 a b c) = true := by unfold allOne rows4; simp [Value.oneCell']
theorem brow4 (ps : Array (Nat × Value)) : Instr.build 268 ps = buildRow 268 ps := rfl
theorem build4 (a b c : Nat) (w : World) : (buildRow 268 #[(1, .slice (some ⟨a, 0, none⟩) 8 8), (2, .slice (some ⟨b, 0, none⟩) 3 3), (3, .slice (some ⟨c, 0, none⟩) 6 6)]).run Tryz.prog w = .ok (.agg (rows4 a b c)) w := by kernel_rfl
abbrev rows40 : Array Value := #[.slice none 0 0, .slice none 0 0, .slice none 0 0, .slice none 0 0]
theorem zero4_run (w : World) : (zeroValue 268).run Tryz.prog w = .ok (.agg rows40) w := by kernel_rfl
theorem store4 (g o : Nat) (vs : Array Value) (w : World) : (storeRow 268 ⟨g, o, none⟩ (.agg vs)).run Tryz.prog w = layRes Tryz.prog 268 g o vs w (((w.heap[g]?).map (canLay o 4 vs)).getD false) :=
  run_lay (by kernel_rfl) g o vs w
theorem srow4 (a : Addr) (v : Value) : storeVar 268 a v = storeRow 268 a v := rfl
theorem laidAt_4 (a b c : Nat) (T : TypeId) (fr : Nat × Nat) : laidAt 0 (rows4 a b c) (.cells rows40 T fr) = .cells (rows4 a b c) T fr := by
  rw [laidAt_cells, laid_whole _ _ (by rfl)]
attribute [local go_sem] build4 store4 rows4_one
attribute [local go_sem ↓] brow4 zero4_run srow4
attribute [local go_sem high] laidAt_4
/-- The iterator's cells. -/
structure StAt (w : World) (r b g : Nat) : Prop where
  box : w.heap[b]? = some (.cells #[.pointer (some ⟨g, 0, none⟩)] 168 (0, 0))
  rows : ∃ x y z, w.heap[r]? = some (.cells (rows4 x y z) 268 (0, 0)) ∧ w.heap[x]? = some (.cells (intsC (storesL 1)) 3 (0, 0)) ∧ w.heap[y]? = some (.cells (intsC (storesL 2)) 3 (0, 0)) ∧ w.heap[z]? = some (.cells (intsC (storesL 3)) 3 (0, 0))
/-- The answer of stores. -/
def StPost (w : World) (g : Nat) (e : Ending) (w' : World) : Prop := ∃ r b, e = .returned (.func (.func 253) #[] #[.pointer (some ⟨r, 0, none⟩), .pointer (some ⟨b, 0, none⟩)]) ∧ StAt w' r b g ∧ Ch [] w w'
set_option maxHeartbeats 1000000 in
set_option maxRecDepth 100000 in
theorem stores_any (g : Nat) (w : World) : Calls Tryz.prog 219 #[.pointer (some ⟨g, 0, none⟩)] w (StPost w g) := by
  go_enter Tryz.func219, Tryz.ntmps219
  go_wp2
  go_ret
  have e1 : intsC (storesL 1) = #[.int .i64 6, .int .i64 7, .int .i64 8, .int .i64 9, .int .i64 10, .int .i64 11, .int .i64 12, .int .i64 13] := rfl
  have e2 : intsC (storesL 2) = #[.int .i64 6, .int .i64 8, .int .i64 13] := rfl
  have e3 : intsC (storesL 3) = #[.int .i64 6, .int .i64 9, .int .i64 10, .int .i64 11, .int .i64 12, .int .i64 13] := rfl
  refine ⟨w.heap.size + 1 + 1 + 1 + 1, w.heap.size, rfl, ⟨?_, w.heap.size + 1, w.heap.size + 1 + 1, w.heap.size + 1 + 1 + 1, ?_, ?_, ?_, ?_⟩, ?_⟩
  · simp [go_sem]
  · simp [go_sem]
  · rw [e1]; simp [go_sem]
  · rw [e2]; simp [go_sem]
  · rw [e3]; simp [go_sem]
  · exact ((((((Ch.refl [] w).alloc _).alloc _).alloc _).alloc _).alloc _).onObj (p := w.heap.size + 1 + 1 + 1 + 1) (.inr (by omega)) _
theorem split_at {α : Type} {l : List α} {j : Nat} {x : α} (h : l[j]? = some x) : l = l.take j ++ x :: l.drop (j + 1) := by
  obtain ⟨hlt, hx⟩ := List.getElem?_eq_some_iff.1 h
  rw [← hx, ← List.drop_eq_getElem_cons hlt, List.take_append_drop]
theorem enters_stores (args : Array Value) (w : World) : (callFunc 253 args).run Tryz.prog w = .ok (.enter 253 args) w := by kernel_rfl
set_option maxHeartbeats 1000000 in
set_option maxRecDepth 100000 in
theorem stores_yields (p : PenT) (xs : List Int) (r b g q n : Nat) (rc : Array Value) (w : World) (hxl : xs.length ≤ 8) (hwn : wantsP p = n) (hn4 : n < 4)
    (hb : w.heap[b]? = some (.cells #[.pointer (some ⟨g, 0, none⟩)] 168 (0, 0))) (hg : w.heap[g]? = some (.cells (penC p) 170 (0, 0)))
    (hr : w.heap[r]? = some (.cells rc 268 (0, 0))) (hrow : rc[n]? = some (.slice (some ⟨q, 0, none⟩) xs.length xs.length)) (hq : w.heap[q]? = some (.cells (intsC xs) 3 (0, 0))) :
    Yields Tryz.prog 253 #[.pointer (some ⟨r, 0, none⟩), .pointer (some ⟨b, 0, none⟩)] (fun x : Int => #[I x]) xs [] [r, b, g, q] w := by
  intro nn l J Jx W hW hk hJ hJx hY h0
  have hb' := (hk b (by simp)).trans hb
  have hg' := (hk g (by simp)).trans hg
  have hr' := (hk r (by simp)).trans hr
  have hq' := (hk q (by simp)).trans hq
  have W1 := fun w hg => wants_any p g w hg
  rw [hwn] at W1
  have HG := Lib.hid (intsC_get xs)
  have hn4' : (n : Int) < 4 := by omega
  clear hb hg hr hq hk hwn hn4
  generalize intsC xs = cur at *
  refine callsIn_of_wp Tryz.func253 rfl trivial ?_
  simp only [Tryz.ntmps253, List.size_toArray, List.length_cons, List.length_nil, Nat.reduceAdd, Nat.reduceSub, Array.replicate_succ, Array.replicate_zero, List.push_toArray, List.append_toArray, List.nil_append, List.cons_append]
  gi_wp2_with fail
  refine ⟨trivial, ?_⟩
  gi_at_call 115
  refine (callsIn_wide.2 (W1 _ hg')).mono ?_
  rintro e W2 ⟨rfl, hc2⟩
  have b2 := hkeep hc2 hb'
  have g2 := hkeep hc2 hg'
  have r2 := hkeep hc2 hr'
  have q2 := hkeep hc2 hq'
  have j2 := hJ _ _ _ h0 hc2
  clear hb' hg' hr' hq' W1 hc2 h0
  gi_wp2
  gi_loopw [11] (fun i wr => ∃ j : Nat, i = .int .i64 j ∧ j ≤ xs.length ∧ J (xs.take j) wr ∧ wr.heap[q]? = some (.cells cur 3 (0, 0))) (fun i _ => xs.length - (intOf i).toNat)
  case atStart => exact ⟨0, rfl, Nat.zero_le _, j2, q2⟩
  case round =>
    obtain ⟨j, rfl, hjl, hj, hqr⟩ := hrel
    rcases Nat.lt_or_ge j xs.length with hlt | hge
    · obtain ⟨x, hx⟩ : ∃ x, xs[j]? = some x := ⟨xs[j]'hlt, List.getElem?_eq_getElem hlt⟩
      have hcx := HG.out j x hx
      have hdec : decide (j < xs.length) = true := by simpa using hlt
      obtain ⟨fn, tmps, assign, body, hy, hR⟩ := hY (xs.take j) x (xs.drop (j + 1)) wr (split_at hx) hj
      have hy : Sem.run Tryz.prog (Instr.yield l #[I x]) wr = .ok (.round l fn tmps assign body) wr := hy
      have HT : Hid (xs.take (j + 1) = xs.take j ++ [x]) := Lib.hid (by rw [List.take_add_one, hx]; rfl)
      clear hx
      gi_wp2
      refine hR.mono ?_
      rintro e W3 (⟨rfl, hJ3, hz3, hk3⟩ | ⟨rfl, hJx3⟩)
      · have hq3 := (hk3 q (by simp)).trans hqr
        clear hk3 hy hqr hz3
        gi_wp2
        go_roundw
        case rel => exact ⟨j + 1, by go_num, hlt, by rw [HT.out]; exact hJ3, hq3⟩
        case measure => simp [intOf]; omega
      · gi_wp2
        refine bodyPost_ret (results_none rfl _ _ _) rfl ?_
        exact ⟨⟨_, rfl⟩, .inr hJx3⟩
    · have hme : j = xs.length := Nat.le_antisymm hjl hge
      have hdec : decide (j < xs.length) = false := by simpa using hge
      have HJ : Hid (J xs wr) := Lib.hid (by rw [hme, List.take_length] at hj; exact hj)
      clear hme hge hj
      gi_wp2
      refine bodyPost_end (results_none rfl _ _ _) rfl ?_
      exact ⟨⟨_, rfl⟩, .inl HJ.out⟩
end Go.Proofs.Hc
