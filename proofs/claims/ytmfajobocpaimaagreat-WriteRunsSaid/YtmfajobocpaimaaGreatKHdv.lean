/- slices.Equal and Clone at rows of words. -/
import Derived.Test.YtmfajobocpaimaaGreatKHxe
import Derived.Test.YtmfajobocpaimaaGreatKHnl
import Derived.Test.YtmfajobocpaimaaGreatKHpa
import Derived.Test.YtmfajobocpaimaaGreatKHq
import Derived.Test.YtmfajobocpaimaaGreatKHr
import Derived.Test.YtmfajobocpaimaaGreatKHdh
import Derived.Test.YtmfajobocpaimaaGreatKHde
import Derived.Test.YtmfajobocpaimaaGreatKHop2
import Derived.Below
import Derived.BigQuiet
import Derived.Deep.Draws
import Derived.Deep.Light
import Derived.Deep.QuietTactic
import Derived.Deep.RegionHeld
import Derived.Deep.Slices
import Derived.Laws.CopyRow
import Derived.Laws.StructEq
import Derived.Laws.Tables
import Derived.Lib.AppendZerosOnto
import Derived.Lib.Hide
import Derived.Lib.Tables
import Derived.Lib.Walk
import Derived.LoopIn
import Derived.LoopN
import Derived.LoopNIn
import Derived.Maps.AppendAt
import Derived.Maps.Views
import Derived.OpenShut
import Derived.OwnWalkIn
import Derived.ProofKit
import Derived.RangeFuncBox
import Derived.RangeFuncCalls
import Derived.RangeFuncRecord
import Derived.RangeFuncSeq
import Derived.Recover
import Derived.RegionTactic
import Derived.Shelf.Slices.Clone
import Derived.StillTail
import Derived.StillTailTactics
import Derived.TacticsInMore
import Derived.Test.YtmfajobocpaimaaGreatProg
import Derived.WalkKit
import Derived.WalkLawsBesides
import Derived.WalkMore
import Derived.WalkSpells
import Derived.ChangeKeysEq
set_option linter.unusedSimpArgs false
set_option linter.unusedVariables false
namespace Go.Proofs.Hc
open Go.RowKit
attribute [local go_sem] wrap_u64 wrap_u8 bits_xor64 bits_and64 bits_or64 bits_not64 bits_xor8 bits_and8 bits_or8 signed64 signed8 ofInt_N BitVec.ofInt_add BitVec.ofInt_mul ofInt_sub' ofInt8_N64 ofInt64_N8 wide8 eqN neN shr_pow shr1 shr7 shr56
attribute [local go_sem high] bits_com64 shl_wrap
attribute [local go_sem] cell_heap ice_heap cellAt_cells iceAt_cells setAt_cells rowAt_cells canLay_cells laidAt_cells size_onObj size_setCell rowRes_some layRes_true
attribute [local go_sem] load26 load73 load23 store26 build73
attribute [local go_sem ↓] lrow26 lrow73 lrow23 srow26 zero26 brow73 heap_alloc heap_drew heap_drewN heap_setCell heap_onObj
attribute [local go_sem] tcells_size hcells_size tcells_get hcells_get tcells_one hcells_one hcells_table tcells_table hcells_all hcells_ctrl tcells_ctrl
attribute [local go_sem] nn2 nm2 nn3 nm3 nn4 nm4 nn5 nm5 nn6 nm6 nn7 nm7 nn8 nm8
attribute [local go_sem] nn2 nm2 nn3 nm3 nn4 nm4 nn5 nm5 nn6 nm6 nn7 nm7 nn8 nm8
attribute [local go_sem] Oper.semAt_some make_func1
set_option maxHeartbeats 1000000 in
set_option maxRecDepth 100000 in
theorem eqWords_any (l : List (BitVec 64)) (a b : Option Addr) (c d : Nat) (cur cur2 : Array Value) (w : World) (hl : l.length ≤ 900000)
    (hpa : WordsAt cur l) (ha : 0 < l.length → ∃ r, a = some ⟨r, 0, none⟩) (hr : ∀ r, a = some ⟨r, 0, none⟩ → w.heap[r]? = some (.cells cur 22 (0, 0)))
    (hpb : WordsAt cur2 l) (hb : 0 < l.length → ∃ r, b = some ⟨r, 0, none⟩) (hs : ∀ r, b = some ⟨r, 0, none⟩ → w.heap[r]? = some (.cells cur2 22 (0, 0))) :
    Calls Tryz.prog 46 #[.slice a l.length c, .slice b l.length d] w fun e w' => e = .returned (.bool true) ∧ Ch [] w w' := by
  have HP := Lib.hid hpa
  have HA := Lib.hid ha
  have HR := Lib.hid hr
  have HPB := Lib.hid hpb
  have HAB := Lib.hid hb
  have HRB := Lib.hid hs
  clear hpa ha hr hpb hb hs
  go_enter Tryz.func46, Tryz.ntmps46
  go_wp2
  go_loopw [13] (fun i wr => ∃ j : Nat, i = .int .i64 j ∧ j ≤ l.length ∧ Ch [] w wr) (fun i _ => l.length - (intOf i).toNat)
  case atStart => exact ⟨0, rfl, Nat.zero_le _, Ch.refl _ _⟩
  case round =>
    obtain ⟨j, hj, hjl, hcr⟩ := hrel
    subst hj
    rcases Nat.lt_or_ge j l.length with hlt | hge
    · obtain ⟨r, hra⟩ := HA.out (by omega)
      obtain ⟨q, hqb⟩ := HAB.out (by omega)
      obtain ⟨y, hy⟩ : ∃ y, l[j]? = some y := ⟨l[j]'hlt, List.getElem?_eq_getElem hlt⟩
      have hrow : cur[j]? = some (U y) := HP.out j y hy
      have hrow2 : cur2[j]? = some (U y) := HPB.out j y hy
      subst hra hqb
      have hrr : wr.heap[r]? = some (.cells cur 22 (0, 0)) := hkeep hcr (HR.out r rfl)
      have hqq : wr.heap[q]? = some (.cells cur2 22 (0, 0)) := hkeep hcr (HRB.out q rfl)
      have hdec : decide (j < l.length) = true := by simpa using hlt
      have hg0 : ∀ g : Gar wr, (g.1).heap[q]? = some (.cells cur2 22 (0, 0)) := fun g => hkeep g.2 hqq
      have hg1 : ∀ g : Gar wr, (g.1).heap[r]? = some (.cells cur 22 (0, 0)) := fun g => hkeep g.2 hrr
      clear hy
      go_wp2
      refine wp_region_gar (by kernel_rfl) (by kernel_rfl) ?_
      repeat (go_big_quiet_step (fail))
      refine wpQuiet_nil ?_
      rintro w1 ⟨g1, hw1⟩
      have hc1 : Ch [] w w1 := hcr.trans (by rw [hw1]; exact g1.2)
      clear hw1 g1 hg0 hg1
      go_wp2
      go_roundw
      case rel => exact ⟨j + 1, by go_num, hlt, hc1⟩
      case measure => simp [intOf]; omega
    · have hj : j = l.length := by omega
      subst hj
      go_wp2
      go_ret
      exact ⟨rfl, hcr⟩
theorem words_oneZ (l : List (BitVec 64)) : ∀ u ∈ l.map (fun x => U x), u.oneCell' = true := by
  intro u hu
  obtain ⟨y, _, rfl⟩ := List.mem_map.1 hu
  rfl
set_option maxHeartbeats 1000000 in
set_option maxRecDepth 100000 in
theorem cloneWords_any (l : List (BitVec 64)) (x : Addr) (c : Nat) (w : World) (hl : l.length ≤ 900000) (h : ∀ w', Ch [] w w' → ∀ j u, (l.map fun x => U x)[j]? = some u → w'.cell? (x.add j) = some u) :
    Calls Tryz.prog 47 #[.slice (some x) l.length c] w fun e w' => ∃ a' c', e = .returned (.slice a' l.length c') ∧ w'.ownsRow w.heap.size 22 1 (.slice a' l.length c') l.length (l.map fun x => U x) ∧ Ch [] w w' := by
  have q22 : ∀ (w : World) (a : Option Addr) (n c n' c' : Nat), (binOp .eql 53 (.slice a n c) (.slice none n' c')).run Tryz.prog w = .ok (.bool a.isNone) w := fun w a n c n' c' => Lib.run_eql_slice_nil w _ _ a n c n' c' Tryz.underlying53
  obtain ⟨i0, hi, hz0, hz1, hz2⟩ := info_parts infoU
  have hmade : (w.alloc (.cells #[] 22)).ownsRow w.heap.size 22 1 (.slice (some ⟨w.heap.size, 0, none⟩) 0 0) 0 [] := World.ownsRow_made w #[] 0 (Nat.le_refl _) (Nat.zero_le _) (by simp)
  have hcA : Ch [] w (w.alloc (.cells #[] 22)) := (Ch.refl [] w).alloc _
  obtain ⟨v', w1, hrun, hown, hgr, _⟩ := run_append_own (P := Tryz.prog) (w.alloc (.cells #[] 22)) w.heap.size 53 53 22 i0 (U 0#64) 1 8 Tryz.underlying53 hi hz0 hz1 hz2 rfl (by decide) _ 0 [] hmade x l.length c (l.map fun x => U x) (by simp) (h _ hcA) (words_oneZ l) (by unfold maxLen; omega) (by omega) (by simp)
  rw [Nat.zero_add, List.nil_append] at hown
  have hc1 : Ch [] w w1 := hcA.trans2 (Ch.of_grown (S := [w.heap.size]) hgr (fun k hk => by simp [Value.ownBlock] at hk; simp [hk])) (by simp)
  have bs : ∀ w : World, (Instr.buildSlice 53 0 #[]).run Tryz.prog w = .ok (.slice (some ⟨w.heap.size, 0, none⟩) 0 0) (w.alloc (.cells #[] 22)) := fun w => by kernel_rfl
  have HO := Lib.hid hown
  have HC := Lib.hid hc1
  clear hmade hcA hgr hown hc1 h
  go_enter Tryz.func47, Tryz.ntmps47
  go_wp2_with (at_builtin; refine Lib.wpList_append_run _ rfl _ _ 53 53 rfl _ _ rfl rfl _ _ hrun ?_)
  go_ret
  obtain ⟨a', c', rfl⟩ := own_form HO.out
  exact ⟨a', c', rfl, HO.out, HC.out⟩
end Go.Proofs.Hc
/- Law 19: own. -/
namespace Go.Proofs.Hc
open Go.RowKit
attribute [local go_sem] wrap_u64 wrap_u8 bits_xor64 bits_and64 bits_or64 bits_not64 bits_xor8 bits_and8 bits_or8 signed64 signed8 ofInt_N BitVec.ofInt_add BitVec.ofInt_mul ofInt_sub' ofInt8_N64 ofInt64_N8 wide8 eqN neN shr_pow shr1 shr7 shr56
attribute [local go_sem high] bits_com64 shl_wrap
attribute [local go_sem] cell_heap ice_heap cellAt_cells iceAt_cells setAt_cells rowAt_cells canLay_cells laidAt_cells size_onObj size_setCell rowRes_some layRes_true
attribute [local go_sem] load26 load73 load23 store26 build73
attribute [local go_sem ↓] lrow26 lrow73 lrow23 srow26 zero26 brow73 heap_alloc heap_drew heap_drewN heap_setCell heap_onObj
attribute [local go_sem] tcells_size hcells_size tcells_get hcells_get tcells_one hcells_one hcells_table tcells_table hcells_all hcells_ctrl tcells_ctrl
attribute [local go_sem] nn2 nm2 nn3 nm3 nn4 nm4 nn5 nm5 nn6 nm6 nn7 nm7 nn8 nm8
attribute [local go_sem] nn2 nm2 nn3 nm3 nn4 nm4 nn5 nm5 nn6 nm6 nn7 nm7 nn8 nm8
attribute [local go_sem] Oper.semAt_some make_func1
set_option maxHeartbeats 1000000 in
set_option maxRecDepth 100000 in
theorem own_some (l : List (BitVec 64)) (x : Addr) (n c : Nat) (w : World) (hn : n ≤ 9223372036854775807) (hc : n ≤ c) (hl : l.length = min n 200) (h : ∀ w', Ch [] w w' → ∀ j u, (l.map fun x => U x)[j]? = some u → w'.cell? (x.add j) = some u) :
    Calls Tryz.prog 42 #[.slice (some x) n c] w fun e w' => ∃ a' c', e = .returned (.slice a' l.length c') ∧ w'.ownsRow w.heap.size 22 1 (.slice a' l.length c') l.length (l.map fun x => U x) ∧ Ch [] w w' := by
  have K1 := fun (w' : World) (hw : Ch [] w w') => cloneWords_any l x c w' (by omega) (fun w'' h'' => h w'' (hw.trans h''))
  generalize hm : l.length = m at *
  have hm0 : (0 : Int) ≤ m := by omega
  have hmc : m ≤ c := by omega
  have hm200 : (m : Int) ≤ 200 := by omega
  have HK := Lib.hid K1
  have HM : Hid ((min (n : Int) 200).toNat = m) := Lib.hid (by omega)
  have hnc : (n : Int) ≤ c := by omega
  clear hl K1 hm h hn
  go_enter Tryz.func42, Tryz.ntmps42
  go_wp2_with fail
  rw [HM.out]
  refine (HK.out _ (Ch.refl _ _)).mono ?_
  rintro e w1 ⟨a', c', rfl, ho, hc1⟩
  have HO := Lib.hid ho
  clear ho
  go_wp2
  go_ret
  exact ⟨a', c', rfl, HO.out, hc1⟩
theorem cloneWords_none (c : Nat) (w : World) : Calls Tryz.prog 47 #[.slice none 0 c] w fun e w' => e = .returned (.slice none 0 0) ∧ w = w' := by
  have q22 : ∀ (w : World) (a : Option Addr) (n c n' c' : Nat), (binOp .eql 53 (.slice a n c) (.slice none n' c')).run Tryz.prog w = .ok (.bool a.isNone) w := fun w a n c n' c' => Lib.run_eql_slice_nil w _ _ a n c n' c' Tryz.underlying53
  go_enter Tryz.func47, Tryz.ntmps47
  go_wp2
  go_ret
  exact ⟨rfl, rfl⟩
end Go.Proofs.Hc
/- Law 19: arguments opened (a row of words with its capacity, a pen), own. -/
namespace Go.Proofs.Hc
open Go.ChangeShapes Go.WideShapes Go.ChangeAt Go.RowKit
section
variable {H : Type} {enc : TypeId × Value → H} {w : World} {base : Nat} {spare : Nat → Bool} {held : Bool}
set_option maxRecDepth 100000 in
theorem open_words {r : Reach} {b0 : Nat} {v : Value} {d : DataW H} {p : List MemPlace} (hv : Value.okWide Tryz.prog w r b0 53 v) (h : DataW.Trod enc Tryz.prog w 0 (fun _ => true) held 53 v d p) :
    ∃ a n c ks, v = .slice a n c ∧ n ≤ c ∧ c ≤ 9223372036854775807 ∧ (a = none → n = 0 ∧ c = 0) ∧ KeysIn w a n ks := by
  obtain ⟨a, n, c, ks, rfl, hn, hps⟩ := open_keys hv h
  obtain ⟨fuel, hf⟩ := h
  rcases Go.Deep.open_slice Tryz.underlying53 hf with ⟨hcs, _⟩ | ⟨x, l, c', m, n', D, Pl, hcs, _, hl, hm, hmm, _, hel⟩
  · simp [Value.cells] at hcs
    obtain ⟨rfl, rfl, rfl⟩ := hcs
    exact ⟨none, 0, 0, ks, rfl, by omega, by omega, fun _ => ⟨rfl, rfl⟩, hps⟩
  · simp [Value.cells] at hcs
    obtain ⟨rfl, rfl, rfl⟩ := hcs
    unfold maxLen at hm
    exact ⟨some x, n, c, ks, rfl, hl, by omega, (fun h => by cases h), hps⟩
theorem cells_call : Tryz.prog.cellsOf 68 = 4 := by kernel_rfl
theorem cells_pen : Tryz.prog.cellsOf 71 = 18 := by kernel_rfl
theorem cells_mask : Tryz.prog.cellsOf 69 = 1 := by kernel_rfl
theorem cells_bool : Tryz.prog.cellsOf 4 = 1 := by kernel_rfl
theorem fields_at {fs : Array Field} {l : List (TypeId × Nat)} (hl : fs.toList.map (fun f => (f.type, f.offset)) = l) {xs : List (DataW H × List MemPlace)} {n : Nat} {cs : List Value} (hxl : xs.length = fs.size)
    (hx : ∀ (i : Nat) (f : Field), fs[i]? = some f → DataW.trod enc Tryz.prog w base spare held n f.type ((cs.drop f.offset).take (Tryz.prog.cellsOf f.type)) = xs[i]?) : ∀ (i t o : Nat), l[i]? = some (t, o) → ∃ y, DataW.trod enc Tryz.prog w base spare held n t ((cs.drop o).take (Tryz.prog.cellsOf t)) = some y := by
  intro i t o hi
  obtain ⟨f, hf, rfl, rfl⟩ := field_at hl hi
  have := hx i f hf
  have hlt := (Array.getElem?_eq_some_iff.1 hf).1
  rw [List.getElem?_eq_getElem (by omega)] at this
  exact ⟨_, this⟩
theorem rd_int {n o : Nat} {t : TypeId} {k : IntKind} {cs : List Value} {y : DataW H × List MemPlace} (ht : Tryz.prog.underlying t = some (.int k)) (hc : Tryz.prog.cellsOf t = 1) (h : DataW.trod enc Tryz.prog w base spare held n t ((cs.drop o).take (Tryz.prog.cellsOf t)) = some y) : ∃ m, cs[o]? = some (.int k m) ∧ (Lit.int k m).wf = true := by
  obtain ⟨m, hm, _, hw⟩ := DataW.trod_int ht h
  rw [hc] at hm
  exact ⟨m, one_cell hm, hw⟩
theorem wfr_u8 {n : Int} (h : (Lit.int .u8 n).wf = true) : 0 ≤ n ∧ n < 256 := by
  have : 0 ≤ n ∧ n ≤ 255 := by simpa [Lit.wf, IntKind.min, IntKind.max, IntKind.signed, IntKind.bits] using h
  omega
theorem Y_of {n : Int} (h : (Lit.int .u8 n).wf = true) : Y (BitVec.ofInt 8 n) = .int .u8 n := by
  obtain ⟨h0, h1⟩ := wfr_u8 h
  show Value.int .u8 (N (BitVec.ofInt 8 n)) = _
  have : N (BitVec.ofInt 8 n) = n := by
    unfold N
    rw [BitVec.toNat_ofInt]
    have e : ((2 ^ 8 : Nat) : Int) = 256 := by decide
    rw [e, Int.emod_eq_of_lt h0 h1]
    omega
  rw [this]
theorem call_cellsOf {fuel : Nat} {cs : List Value} {x : DataW H × List MemPlace} (h : DataW.trod enc Tryz.prog w base spare held fuel 68 cs = some x) :
    cs.length = 4 ∧ (∃ m, cs[0]? = some (I m)) ∧ (∃ m, cs[1]? = some (U m)) ∧ (∃ m, cs[2]? = some (U m)) ∧ (∃ m, cs[3]? = some (U m)) := by
  obtain ⟨xs, n, _, _, hlen, hxl, hx⟩ := DataW.trod_struct call_under h
  have rd := fields_at (n := n) (cs := cs) call_fields hxl hx
  obtain ⟨y0, e0⟩ := rd 0 _ _ rfl
  obtain ⟨m0, h0, _⟩ := rd_int Tryz.underlying3 cells_int e0
  obtain ⟨y1, e1⟩ := rd 1 _ _ rfl
  obtain ⟨m1, h1, w1⟩ := rd_int Tryz.underlying22 cells_u64 e1
  obtain ⟨y2, e2⟩ := rd 2 _ _ rfl
  obtain ⟨m2, h2, w2⟩ := rd_int Tryz.underlying22 cells_u64 e2
  obtain ⟨y3, e3⟩ := rd 3 _ _ rfl
  obtain ⟨m3, h3, w3⟩ := rd_int Tryz.underlying22 cells_u64 e3
  exact ⟨hlen.trans cells_call, ⟨m0, h0⟩, ⟨_, by rw [U_of w1]; exact h1⟩, ⟨_, by rw [U_of w2]; exact h2⟩, ⟨_, by rw [U_of w3]; exact h3⟩⟩
set_option maxRecDepth 100000 in
theorem pen_cellsOf {fuel : Nat} {cs : List Value} {x : DataW H × List MemPlace} (h : DataW.trod enc Tryz.prog w base spare held fuel 71 cs = some x) : ∃ p : PenT, cs = (penC p).toList := by
  obtain ⟨xs, n, _, _, hlen, hxl, hx⟩ := DataW.trod_struct pen_under h
  have rd := fields_at (n := n) (cs := cs) pen_fields hxl hx
  have hlen := hlen.trans cells_pen
  have ri : ∀ (i o : Nat), ([(3, 0), (3, 1), (68, 2), (22, 6), (22, 7), (22, 8), (22, 9), (3, 10), (22, 11), (69, 12), (3, 13), (22, 14), (3, 15), (22, 16), (4, 17)] : List (TypeId × Nat))[i]? = some (3, o) → ∃ m, cs[o]? = some (I m) := fun i o hi => by
    obtain ⟨y, e⟩ := rd i _ o hi
    obtain ⟨m, h, _⟩ := rd_int Tryz.underlying3 cells_int e
    exact ⟨m, h⟩
  have ru : ∀ (i o : Nat), ([(3, 0), (3, 1), (68, 2), (22, 6), (22, 7), (22, 8), (22, 9), (3, 10), (22, 11), (69, 12), (3, 13), (22, 14), (3, 15), (22, 16), (4, 17)] : List (TypeId × Nat))[i]? = some (22, o) → ∃ m, cs[o]? = some (U m) := fun i o hi => by
    obtain ⟨y, e⟩ := rd i _ o hi
    obtain ⟨m, h, hw⟩ := rd_int Tryz.underlying22 cells_u64 e
    exact ⟨_, by rw [U_of hw]; exact h⟩
  obtain ⟨m0, h0⟩ := ri 0 0 rfl
  obtain ⟨m1, h1⟩ := ri 1 1 rfl
  obtain ⟨yc, ec⟩ := rd 2 _ 2 rfl
  obtain ⟨-, ⟨m2, h2⟩, ⟨m3, h3⟩, ⟨m4, h4⟩, ⟨m5, h5⟩⟩ := call_cellsOf ec
  have h2 := drop_take_get h2
  have h3 := drop_take_get h3
  have h4 := drop_take_get h4
  have h5 := drop_take_get h5
  obtain ⟨m6, h6⟩ := ru 3 6 rfl
  obtain ⟨m7, h7⟩ := ru 4 7 rfl
  obtain ⟨m8, h8⟩ := ru 5 8 rfl
  obtain ⟨m9, h9⟩ := ru 6 9 rfl
  obtain ⟨m10, h10⟩ := ri 7 10 rfl
  obtain ⟨m11, h11⟩ := ru 8 11 rfl
  obtain ⟨y12, e12⟩ := rd 9 _ 12 rfl
  obtain ⟨m12, h12, w12⟩ := rd_int mask_under cells_mask e12
  rw [← Y_of w12] at h12
  obtain ⟨m13, h13⟩ := ri 10 13 rfl
  obtain ⟨m14, h14⟩ := ru 11 14 rfl
  obtain ⟨m15, h15⟩ := ri 12 15 rfl
  obtain ⟨m16, h16⟩ := ru 13 16 rfl
  obtain ⟨y17, e17⟩ := rd 14 _ 17 rfl
  obtain ⟨m17, h17, _⟩ := DataW.trod_bool bool_under e17
  rw [cells_bool] at h17
  have h17 := one_cell h17
  refine ⟨⟨m0, m1, m2, m3, m4, m5, m6, m7, m8, m9, m10, m11, BitVec.ofInt 8 m12, m13, m14, m15, m16, m17⟩, ?_⟩
  apply List.ext_getElem?
  intro i
  match i with
  | 0 => exact h0
  | 1 => exact h1
  | 2 => exact h2
  | 3 => exact h3
  | 4 => exact h4
  | 5 => exact h5
  | 6 => exact h6
  | 7 => exact h7
  | 8 => exact h8
  | 9 => exact h9
  | 10 => exact h10
  | 11 => exact h11
  | 12 => exact h12
  | 13 => exact h13
  | 14 => exact h14
  | 15 => exact h15
  | 16 => exact h16
  | 17 => exact h17
  | i + 18 =>
    rw [List.getElem?_eq_none (by omega), List.getElem?_eq_none (by show 18 ≤ i + 18; omega)]
set_option maxRecDepth 100000 in
theorem open_pen {r : Reach} {b0 : Nat} {v : Value} {d : DataW H} {p : List MemPlace} (hv : Value.okWide Tryz.prog w r b0 71 v) (h : DataW.Trod enc Tryz.prog w base spare held 71 v d p) : ∃ q : PenT, v = .agg (penC q) := by
  obtain ⟨cs, rfl, hsz⟩ := okWide_struct pen_under hv
  obtain ⟨fuel, hf⟩ := h
  have hf' : DataW.trod enc Tryz.prog w base spare held fuel 71 cs.toList = some (d, p) := hf
  obtain ⟨q, hq⟩ := pen_cellsOf hf'
  exact ⟨q, congrArg Value.agg (Array.ext' hq)⟩
end
theorem KeysIn.ch {w w' : World} {a : Option Addr} {n : Nat} {ks : Nat → BitVec 64} (h : KeysIn w a n ks) (c : Ch [] w w') {k : Nat} (hk : k ≤ n) : KeysIn w' a k ks := fun j hj => by
  obtain ⟨kb, ko, h1, h2, h3⟩ := h j (by omega)
  exact ⟨kb, ko, h1, by have := c.size; omega, by rw [c.block kb h2 (by simp)]; exact h3⟩
attribute [local go_sem] wrap_u64 wrap_u8 bits_xor64 bits_and64 bits_or64 bits_not64 bits_xor8 bits_and8 bits_or8 signed64 signed8 ofInt_N BitVec.ofInt_add BitVec.ofInt_mul ofInt_sub' ofInt8_N64 ofInt64_N8 wide8 eqN neN shr_pow shr1 shr7 shr56
attribute [local go_sem high] bits_com64 shl_wrap
attribute [local go_sem] cell_heap ice_heap cellAt_cells iceAt_cells setAt_cells rowAt_cells canLay_cells laidAt_cells size_onObj size_setCell rowRes_some layRes_true
attribute [local go_sem] load26 load73 load23 store26 build73
attribute [local go_sem ↓] lrow26 lrow73 lrow23 srow26 zero26 brow73 heap_alloc heap_drew heap_drewN heap_setCell heap_onObj
attribute [local go_sem] tcells_size hcells_size tcells_get hcells_get tcells_one hcells_one hcells_table tcells_table hcells_all hcells_ctrl tcells_ctrl
attribute [local go_sem] nn2 nm2 nn3 nm3 nn4 nm4 nn5 nm5 nn6 nm6 nn7 nm7 nn8 nm8
attribute [local go_sem] nn2 nm2 nn3 nm3 nn4 nm4 nn5 nm5 nn6 nm6 nn7 nm7 nn8 nm8
attribute [local go_sem] Oper.semAt_some make_func1
set_option maxHeartbeats 1000000 in
set_option maxRecDepth 100000 in
theorem own_none (w : World) : Calls Tryz.prog 42 #[.slice none 0 0] w fun e w' => e = .returned (.slice none 0 0) ∧ w = w' := by
  have K1 := fun w => cloneWords_none 0 w
  go_enter Tryz.func42, Tryz.ntmps42
  go_wp2_with fail
  refine (K1 _).mono ?_
  rintro e w' ⟨rfl, rfl⟩
  go_wp2
  go_ret
  exact ⟨rfl, rfl⟩
/-- The front part of a row of words. -/
def frontW (ks : Nat → BitVec 64) (n : Nat) : List (BitVec 64) := (List.range n).map ks
theorem frontW_len (ks : Nat → BitVec 64) (n : Nat) : (frontW ks n).length = n := by simp [frontW]
theorem own_words (a : Option Addr) (n c : Nat) (ks : Nat → BitVec 64) (w : World) (hn : n ≤ c) (hc : c ≤ 9223372036854775807) (ha : a = none → n = 0 ∧ c = 0) (h : KeysIn w a n ks) :
    Calls Tryz.prog 42 #[.slice a n c] w fun e w' => ∃ a' c', e = .returned (.slice a' (min n 200) c') ∧ w'.ownsRow w.heap.size 22 1 (.slice a' (min n 200) c') (min n 200) ((frontW ks (min n 200)).map fun x => U x) ∧ Ch [] w w' := by
  cases a with
  | none =>
    obtain ⟨rfl, rfl⟩ := ha rfl
    refine (own_none w).mono ?_
    rintro e w' ⟨rfl, rfl⟩
    exact ⟨none, 0, rfl, World.ownsRow_nil _ _ _ _, Ch.refl _ _⟩
  | some x =>
    have := own_some (frontW ks (min n 200)) x n c w (by omega) hn (by rw [frontW_len]) (by
      intro w' c1 j u hj
      have hlt := (List.getElem?_eq_some_iff.1 hj).1
      rw [List.length_map, frontW_len] at hlt
      obtain ⟨kb, ko, hka, hkb, hrow⟩ := h j (by omega)
      obtain rfl : x = ⟨kb, ko, none⟩ := by simpa using hka
      rw [List.getElem?_map] at hj
      unfold frontW at hj
      rw [List.getElem?_map, List.getElem?_range hlt] at hj
      have hj : U (ks j) = u := by simpa using hj
      subst hj
      have hadd : (⟨kb, ko, none⟩ : Addr).add j = ⟨kb, ko + j, none⟩ := by unfold Addr.add; split <;> simp_all
      rw [hadd, cell_heap, c1.block kb hkb (by simp)]
      exact hrow)
    rw [frontW_len] at this
    exact this
end Go.Proofs.Hc
