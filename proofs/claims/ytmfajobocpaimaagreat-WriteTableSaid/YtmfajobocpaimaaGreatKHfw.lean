/- Law 19, WriteTable: the walk, call by call . -/
import Derived.Test.YtmfajobocpaimaaGreatKHm
import Derived.Test.YtmfajobocpaimaaGreatKHcs
import Derived.Test.YtmfajobocpaimaaGreatKHcg
import Derived.Test.YtmfajobocpaimaaGreatKHdk
import Derived.Test.YtmfajobocpaimaaGreatKHdo
import Derived.Test.YtmfajobocpaimaaGreatKHds
import Derived.Test.YtmfajobocpaimaaGreatKHdv
import Derived.Test.YtmfajobocpaimaaGreatKHed
import Derived.Test.YtmfajobocpaimaaGreatKHee
import Derived.Test.YtmfajobocpaimaaGreatKHef
import Derived.Test.YtmfajobocpaimaaGreatKHeg
import Derived.Test.YtmfajobocpaimaaGreatKHeh
import Derived.Test.YtmfajobocpaimaaGreatKHj
import Derived.Test.YtmfajobocpaimaaGreatKHma
import Derived.Test.YtmfajobocpaimaaGreatKHnl
import Derived.Test.YtmfajobocpaimaaGreatKHh
import Derived.Test.YtmfajobocpaimaaGreatKHxo
import Derived.Test.YtmfajobocpaimaaGreatKHtr
import Derived.Test.YtmfajobocpaimaaGreatKHxc
import Derived.Below
import Derived.BigQuiet
import Derived.ChangeKeysEq
import Derived.Deep.Draws
import Derived.Deep.Light
import Derived.Deep.OwnRows
import Derived.Deep.QuietTactic
import Derived.Deep.RegionHeld
import Derived.Deep.Slices
import Derived.IntWalk
import Derived.Laws.CopyOwn
import Derived.Laws.CopyRow
import Derived.Laws.StructEq
import Derived.Laws.Tables
import Derived.Lib.AppendZerosOnto
import Derived.Lib.Hide
import Derived.Lib.Tables
import Derived.Lib.Walk
import Derived.LoopIn
import Derived.LoopN
import Derived.LoopNIn
import Derived.Maps.AppendAt
import Derived.Maps.Views
import Derived.OpenShut
import Derived.OwnWalkIn
import Derived.ProofKit
import Derived.RangeFuncBox
import Derived.RangeFuncCalls
import Derived.RangeFuncRecord
import Derived.RangeFuncSeq
import Derived.Recover
import Derived.RegionTactic
import Derived.ScopeJumps
import Derived.Shelf.Slices.Clone
import Derived.StillTail
import Derived.StillTailTactics
import Derived.TacticsInMore
import Derived.Test.YtmfajobocpaimaaGreatProg
import Derived.WalkKit
import Derived.WalkLawsBesides
import Derived.WalkMore
import Derived.WalkSpells
import Derived.Test.YtmfajobocpaimaaGreatRows
set_option linter.unusedSimpArgs false
set_option linter.unusedVariables false
namespace Go.Proofs.Hc
open Go.RowKit
attribute [local go_sem] wrap_u64 wrap_u8 bits_xor64 bits_and64 bits_or64 bits_not64 bits_xor8 bits_and8 bits_or8 signed64 signed8 ofInt_N BitVec.ofInt_add BitVec.ofInt_mul ofInt_sub' ofInt8_N64 ofInt64_N8 wide8 eqN neN shr_pow shr1 shr7 shr56
attribute [local go_sem high] bits_com64 shl_wrap
attribute [local go_sem] cell_heap ice_heap cellAt_cells iceAt_cells setAt_cells rowAt_cells canLay_cells laidAt_cells size_onObj size_setCell rowRes_some layRes_true
attribute [local go_sem] load26 load73 load23 store26 build73
attribute [local go_sem ↓] lrow26 lrow73 lrow23 srow26 zero26 brow73 heap_alloc heap_drew heap_drewN heap_setCell heap_onObj
attribute [local go_sem] tcells_size hcells_size tcells_get hcells_get tcells_one hcells_one hcells_table tcells_table hcells_all hcells_ctrl tcells_ctrl
attribute [local go_sem] nn2 nm2 nn3 nm3 nn4 nm4 nn5 nm5 nn6 nm6 nn7 nm7 nn8 nm8
attribute [local go_sem] nn2 nm2 nn3 nm3 nn4 nm4 nn5 nm5 nn6 nm6 nn7 nm7 nn8 nm8
attribute [local go_sem] ofInt_N ofInt_pow8
attribute [local go_sem] Oper.semAt_some make_func1
attribute [local go_sem] pen_g0 pen_g1 pen_g2 pen_g3 pen_g4 pen_g5 pen_g6 pen_g7 pen_g8 pen_g9 pen_g10 pen_g11 pen_g12 pen_g13 pen_g14 pen_g15 pen_g16 pen_g17 penC_size penC_one penC_all
attribute [local irreducible] penC
attribute [local go_sem] pen_s0 pen_s1 pen_s2 pen_s3 pen_s4 pen_s5 pen_s6 pen_s7 pen_s8 pen_s9 pen_s10 pen_s11 pen_s12 pen_s13 pen_s14 pen_s15 pen_s16 pen_s17
attribute [local go_sem] boxPen loadPen storePen buildPen0
attribute [local go_sem ↓] lrowPen srowPen wzeroPen_run browPen
attribute [local go_sem high] wlaidAt_pen laidAt_t
attribute [local go_sem] workC_size workC_one workC_all workC_tab workC_g0 workC_g1 workC_g2 workC_i0 workC_i1 workC_i2 boxWork loadWork
attribute [local go_sem ↓] lrowWork
attribute [local go_sem] callC_size callC_one callC_all boxCall loadCall callC_i0 callC_i1 callC_i2 callC_i3 callC_j0 callC_j1 callC_j2 callC_j3
attribute [local go_sem ↓] lrowCall
attribute [local irreducible] callC workC tcells
set_option maxHeartbeats 2000000 in
set_option maxRecDepth 100000 in
theorem table_none (s : BitVec 64) (sl op : Int) (t : Tab) (key a b : BitVec 64) (w : World) (hok : workOk s sl t = false) : Calls Tryz.prog 13 #[.agg (workC s sl t), .agg (callC op key a b)] w fun e w' => e = .returned (.bool true) ∧ Ch [] w w' := by
  have y0 : ((w.alloc (.cells (workC s sl t) 88)).alloc (.cells (callC op key a b) 68)).heap[w.heap.size + 1]? = some (.cells (callC op key a b) 68 (0, 0)) := by simp [go_sem]
  have k0 : ((w.alloc (.cells (workC s sl t) 88)).alloc (.cells (callC op key a b) 68)).heap[w.heap.size]? = some (.cells (workC s sl t) 88 (0, 0)) := by simp [go_sem]
  have C0 : Ch [] w ((w.alloc (.cells (workC s sl t) 88)).alloc (.cells (callC op key a b) 68)) := ((Ch.refl [] w).alloc _).alloc _
  have W1 := fun w => wakes19_any w
  have H1 := fun w => hashOf_any s key w
  obtain ⟨hh, hhe⟩ : ∃ h, hashOf s key = h := ⟨_, rfl⟩
  rw [hhe] at H1
  have CY := fun w => cells_no s sl t w hok
  clear hok hhe
  go_enter Tryz.func13, Tryz.ntmps13
  go_wp2_with fail
  obtain ⟨w0, hw0⟩ : ∃ W, (w.alloc (.cells (workC s sl t) 88)).alloc (.cells (callC op key a b) 68) = W := ⟨_, rfl⟩
  rw [hw0] at y0 k0 C0 ⊢
  clear hw0
  refine (W1 _).mono ?_
  rintro e w1 ⟨rfl, hc1⟩
  have y1 := hkeep hc1 y0
  have k1 := hkeep hc1 k0
  have C1 := C0.trans hc1
  go_wp2_with fail
  refine (CY _).mono ?_
  rintro e w2 ⟨rfl, hc2⟩
  have y2 := hkeep hc2 y1
  have k2 := hkeep hc2 k1
  have C2 := C1.trans hc2
  go_wp2_with fail
  refine (H1 _).mono ?_
  rintro e w' ⟨rfl, rfl⟩
  go_wp2
  go_ret
  exact ⟨rfl, C2⟩
set_option maxHeartbeats 2000000 in
set_option maxRecDepth 100000 in
theorem table_op (s : BitVec 64) (sl op : Int) (t : Tab) (key a b : BitVec 64) (w : World) (hok : workOk s sl t = true) (hop : op < 2 ∨ 5 < op) : Calls Tryz.prog 13 #[.agg (workC s sl t), .agg (callC op key a b)] w fun e w' => e = .returned (.bool true) ∧ Ch [] w w' := by
  have y0 : ((w.alloc (.cells (workC s sl t) 88)).alloc (.cells (callC op key a b) 68)).heap[w.heap.size + 1]? = some (.cells (callC op key a b) 68 (0, 0)) := by simp [go_sem]
  have k0 : ((w.alloc (.cells (workC s sl t) 88)).alloc (.cells (callC op key a b) 68)).heap[w.heap.size]? = some (.cells (workC s sl t) 88 (0, 0)) := by simp [go_sem]
  have C0 : Ch [] w ((w.alloc (.cells (workC s sl t) 88)).alloc (.cells (callC op key a b) 68)) := ((Ch.refl [] w).alloc _).alloc _
  have W1 := fun w => wakes19_any w
  have H1 := fun w => hashOf_any s key w
  obtain ⟨hh, hhe⟩ : ∃ h, hashOf s key = h := ⟨_, rfl⟩
  rw [hhe] at H1
  have CY := fun w => cells_yes s sl t w hok
  clear hok hhe
  rcases hop with hop | hop
  · have hd : decide (op < 2) = true := by simpa using hop
    go_enter Tryz.func13, Tryz.ntmps13
    go_wp2_with fail
    obtain ⟨w0, hw0⟩ : ∃ W, (w.alloc (.cells (workC s sl t) 88)).alloc (.cells (callC op key a b) 68) = W := ⟨_, rfl⟩
    rw [hw0] at y0 k0 C0 ⊢
    clear hw0
    refine (W1 _).mono ?_
    rintro e w1 ⟨rfl, hc1⟩
    have y1 := hkeep hc1 y0
    have k1 := hkeep hc1 k0
    have C1 := C0.trans hc1
    go_wp2_with fail
    refine (CY _).mono ?_
    rintro e w2 ⟨R, rfl, -, -, hc2⟩
    have y2 := hkeep hc2 y1
    have k2 := hkeep hc2 k1
    have C2 := C1.trans hc2
    go_wp2_with fail
    refine (H1 _).mono ?_
    rintro e w' ⟨rfl, rfl⟩
    go_wp2
    go_ret
    exact ⟨rfl, C2⟩
  · have hd : decide (op < 2) = false := by simp; omega
    have hd2 : decide (5 < op) = true := by simpa using hop
    go_enter Tryz.func13, Tryz.ntmps13
    go_wp2_with fail
    obtain ⟨w0, hw0⟩ : ∃ W, (w.alloc (.cells (workC s sl t) 88)).alloc (.cells (callC op key a b) 68) = W := ⟨_, rfl⟩
    rw [hw0] at y0 k0 C0 ⊢
    clear hw0
    refine (W1 _).mono ?_
    rintro e w1 ⟨rfl, hc1⟩
    have y1 := hkeep hc1 y0
    have k1 := hkeep hc1 k0
    have C1 := C0.trans hc1
    go_wp2_with fail
    refine (CY _).mono ?_
    rintro e w2 ⟨R, rfl, -, -, hc2⟩
    have y2 := hkeep hc2 y1
    have k2 := hkeep hc2 k1
    have C2 := C1.trans hc2
    go_wp2_with fail
    refine (H1 _).mono ?_
    rintro e w' ⟨rfl, rfl⟩
    go_wp2
    go_ret
    exact ⟨rfl, C2⟩
set_option maxHeartbeats 2000000 in
set_option maxRecDepth 100000 in
theorem table_not (s : BitVec 64) (sl op : Int) (t : Tab) (key a b : BitVec 64) (w : World) (hok : workOk s sl t = true) (h2 : 2 ≤ op) (h5 : op ≤ 5) (hgo : hasT t (hashOf s key) = false) : Calls Tryz.prog 13 #[.agg (workC s sl t), .agg (callC op key a b)] w fun e w' => e = .returned (.bool true) ∧ Ch [] w w' := by
  have y0 : ((w.alloc (.cells (workC s sl t) 88)).alloc (.cells (callC op key a b) 68)).heap[w.heap.size + 1]? = some (.cells (callC op key a b) 68 (0, 0)) := by simp [go_sem]
  have k0 : ((w.alloc (.cells (workC s sl t) 88)).alloc (.cells (callC op key a b) 68)).heap[w.heap.size]? = some (.cells (workC s sl t) 88 (0, 0)) := by simp [go_sem]
  have C0 : Ch [] w ((w.alloc (.cells (workC s sl t) 88)).alloc (.cells (callC op key a b) 68)) := ((Ch.refl [] w).alloc _).alloc _
  have W1 := fun w => wakes19_any w
  have H1 := fun w => hashOf_any s key w
  obtain ⟨hh, hhe⟩ : ∃ h, hashOf s key = h := ⟨_, rfl⟩
  have CY := fun w => cells_yes s sl t w hok
  have G1 := fun w => has_any t (hashOf s key) w
  rw [hgo, hhe] at G1
  rw [hhe] at H1
  have hd : decide (op < 2) = false := by simp; omega
  have hd2 : decide (5 < op) = false := by simp; omega
  clear hok hhe hgo h2 h5
  go_enter Tryz.func13, Tryz.ntmps13
  go_wp2_with fail
  obtain ⟨w0, hw0⟩ : ∃ W, (w.alloc (.cells (workC s sl t) 88)).alloc (.cells (callC op key a b) 68) = W := ⟨_, rfl⟩
  rw [hw0] at y0 k0 C0 ⊢
  clear hw0
  refine (W1 _).mono ?_
  rintro e w1 ⟨rfl, hc1⟩
  have y1 := hkeep hc1 y0
  have k1 := hkeep hc1 k0
  have C1 := C0.trans hc1
  go_wp2_with fail
  refine (CY _).mono ?_
  rintro e w2 ⟨R, rfl, -, -, hc2⟩
  have y2 := hkeep hc2 y1
  have k2 := hkeep hc2 k1
  have C2 := C1.trans hc2
  go_wp2_with fail
  refine (H1 _).mono ?_
  rintro e w' ⟨rfl, rfl⟩
  go_wp2_with fail
  refine (G1 _).mono ?_
  rintro e w3 ⟨rfl, hc3⟩
  go_wp2
  go_ret
  exact ⟨rfl, C2.trans hc3⟩
theorem tableLaw (s : BitVec 64) (sl op : Int) (t : Tab) (key a b : BitVec 64) (w : World) : Calls Tryz.prog 13 #[.agg (workC s sl t), .agg (callC op key a b)] w fun e w' => e = .returned (.bool true) ∧ Ch [] w w' := by
  cases hok : workOk s sl t with
  | false => exact table_none s sl op t key a b w hok
  | true =>
    by_cases hop : op < 2 ∨ 5 < op
    · exact table_op s sl op t key a b w hok hop
    · cases hgo : hasT t (hashOf s key) with
      | false => exact table_not s sl op t key a b w hok (by omega) (by omega) hgo
      | true =>
        rcases (show op = 2 ∨ op = 3 ∨ op = 4 ∨ op = 5 by omega) with rfl | rfl | rfl | rfl
        · exact table_op2 s sl t key a b w hok hgo
        · exact table_op3 s sl t key a b w hok hgo
        · exact table_op4 s sl t key a b w hok hgo
        · exact table_op5 s sl t key a b w hok hgo
end Go.Proofs.Hc
/- Law 19: arguments opened (a table by a seed in a slab, a call). -/
namespace Go.Proofs.Hc
open Go.ChangeShapes Go.WideShapes Go.ChangeAt Go.RowKit
section
variable {H : Type} {enc : TypeId × Value → H} {w : World} {base : Nat} {spare : Nat → Bool} {held : Bool}
theorem work_under : Tryz.prog.underlying 88 = some (.struct (Tryz.prog.fieldsOf 88)) := by kernel_rfl
theorem work_fields : (Tryz.prog.fieldsOf 88).toList.map (fun f => (f.type, f.offset)) = [(22, 0), (3, 1), (26, 2)] := by kernel_rfl
theorem cells_work : Tryz.prog.cellsOf 88 = 41 := by kernel_rfl
theorem work_cellsOf {fuel : Nat} {cs : List Value} {x : DataW H × List MemPlace} (h : DataW.trod enc Tryz.prog w base spare held fuel 88 cs = some x) : ∃ s sl t, cs = (workC s sl t).toList := by
  obtain ⟨xs, n, _, _, hlen, hxl, hx⟩ := DataW.trod_struct work_under h
  have rd := fields_at (n := n) (cs := cs) work_fields hxl hx
  have hlen := hlen.trans cells_work
  obtain ⟨y0, e0⟩ := rd 0 _ _ rfl
  obtain ⟨m0, h0, w0⟩ := rd_int Tryz.underlying22 cells_u64 e0
  rw [← U_of w0] at h0
  obtain ⟨y1, e1⟩ := rd 1 _ _ rfl
  obtain ⟨m1, h1, _⟩ := rd_int Tryz.underlying3 cells_int e1
  obtain ⟨y2, e2⟩ := rd 2 _ _ rfl
  obtain ⟨hl, hc⟩ := table_cells e2
  have ht := tabOf_cells hl hc
  rw [cells_t] at ht hl
  refine ⟨BitVec.ofInt 64 m0, m1, tabOf ((cs.drop 2).take 39), ?_⟩
  unfold workC
  rw [Array.toList_append, ht]
  apply List.ext_getElem?
  intro i
  match i with
  | 0 => exact h0
  | 1 => exact h1
  | i + 2 =>
    rw [List.getElem?_append_right (by simp)]
    show cs[i + 2]? = ((cs.drop 2).take 39)[i]?
    rw [List.getElem?_take]
    by_cases hi : i < 39
    · rw [if_pos hi, List.getElem?_drop, Nat.add_comm]
    · rw [if_neg hi, List.getElem?_eq_none (by omega)]
set_option maxRecDepth 100000 in
theorem open_work {r : Reach} {b0 : Nat} {v : Value} {d : DataW H} {p : List MemPlace} (hv : Value.okWide Tryz.prog w r b0 88 v) (h : DataW.Trod enc Tryz.prog w base spare held 88 v d p) : ∃ s sl t, v = .agg (workC s sl t) := by
  obtain ⟨cs, rfl, hsz⟩ := okWide_struct work_under hv
  obtain ⟨fuel, hf⟩ := h
  have hf' : DataW.trod enc Tryz.prog w base spare held fuel 88 cs.toList = some (d, p) := hf
  obtain ⟨s, sl, t, hq⟩ := work_cellsOf hf'
  exact ⟨s, sl, t, congrArg Value.agg (Array.ext' hq)⟩
set_option maxRecDepth 100000 in
theorem open_call {r : Reach} {b0 : Nat} {v : Value} {d : DataW H} {p : List MemPlace} (hv : Value.okWide Tryz.prog w r b0 68 v) (h : DataW.Trod enc Tryz.prog w base spare held 68 v d p) : ∃ op k a b, v = .agg (callC op k a b) := by
  obtain ⟨cs, rfl, hsz⟩ := okWide_struct call_under hv
  obtain ⟨fuel, hf⟩ := h
  have hf' : DataW.trod enc Tryz.prog w base spare held fuel 68 cs.toList = some (d, p) := hf
  obtain ⟨hl, ⟨m0, h0⟩, ⟨m1, h1⟩, ⟨m2, h2⟩, ⟨m3, h3⟩⟩ := call_cellsOf hf'
  refine ⟨m0, m1, m2, m3, congrArg Value.agg (Array.ext' ?_)⟩
  apply List.ext_getElem?
  intro i
  match i with
  | 0 => exact h0
  | 1 => exact h1
  | 2 => exact h2
  | 3 => exact h3
  | i + 4 => rw [List.getElem?_eq_none (by omega), List.getElem?_eq_none (by show 4 ≤ i + 4; omega)]
end
end Go.Proofs.Hc
/- WriteTable returns true for every table by a seed in a slab and every call, and its arguments read behind the call as they read before. Conditions: none. -/
namespace Go.Proofs.YtmfajobocpaimaaGreat
open Go.ChangeShapes Go.WideShapes Go.ChangeAt Go.RowKit Go.Proofs.Hc
set_option linter.unusedVariables false
theorem tables_laidOut : laidOutB Tryz.prog = true := by kernel_rfl
theorem tables_own : ownKnob Tryz.prog.godebug = none := by kernel_rfl
set_option maxRecDepth 100000 in
theorem tables_lifted (os : Os) (started : os.Started) (H : Type) (enc : TypeId × Value → H) :
    ReturnsInHanded {} Tryz.checked os 13 .any (Rows.writeTableSpec.pre6 enc Tryz.prog Tryz.f13 Rows.writeTableRow.domain false) (Rows.writeTableSpec.post enc Tryz.prog Tryz.f13 false true false false) := by
  refine returnsInHanded_of_change (C := Tryz.checked) tables_own started (by kernel_rfl) Tryz.func13
    (ChangeSpec.witness6 (enc := enc) (C := Tryz.checked) false ⟨#[], #[.agg (workC 0#64 0 zeroT), .agg (callC 0 0#64 0#64 0#64)], []⟩ 8 (by kernel_rfl) (by kernel_rfl) (by kernel_rfl) (by kernel_rfl)) ?_
  intro W base args ds gs before hval0 hW hcnd _
  have hval : ∀ (j : Nat) t v, Tryz.f13.params[j]? = some t → args[j]? = some v → Value.okWide Tryz.prog W .any base t v := hval0
  have hW' := hW
  obtain ⟨p, q, hA0, hV, rfl, hfz, hnd⟩ := hW
  have hA : DataW.TrodAll enc Tryz.prog W 0 (fun _ => true) true Tryz.f13.params.toList args.toList ds p := hA0
  rw [Tryz.params13] at hA hval
  obtain ⟨v0, vs0, d0, ds0, p0, q0, hargs, rfl, rfl, h0, r0⟩ := trodAll_cons hA
  obtain ⟨v1, vs1, d1, ds1, p1, q1, rfl, rfl, rfl, h1, r1⟩ := trodAll_cons r0
  obtain ⟨rfl, rfl, rfl⟩ := trodAll_nil r1
  obtain rfl : args = #[v0, v1] := by cases args; simp_all
  obtain ⟨rfl, rfl⟩ := trodVars_none hV
  have lt0 : ∀ x ∈ p0, x.block < W.heap.size := by obtain ⟨m, hm⟩ := h0; exact DataW.trod_lt m _ _ _ hm
  have lt1 : ∀ x ∈ p1, x.block < W.heap.size := by obtain ⟨m, hm⟩ := h1; exact DataW.trod_lt m _ _ _ hm
  obtain ⟨s, sl, t, rfl⟩ := open_work (hval 0 88 v0 rfl rfl) h0
  obtain ⟨op, key, a, b, rfl⟩ := open_call (hval 1 68 v1 rfl rfl) h1
  clear hA0 hval0
  refine (tableLaw s sl op t key a b W).mono fun e W' ⟨he, hc⟩ => ?_
  subst he
  have bel := hc.below_nil
  exact ⟨_, rfl, _, _, _, [], _, [], hW', trodAll_mk1 (shut_bool Tryz.underlying4 _), (trodAll_cons_mk (Below.trod tables_laidOut (by kernel_rfl) (of_decide_eq_true (by kernel_rfl)) h0 bel lt0) (trodAll_cons_mk (Below.trod tables_laidOut (by kernel_rfl) (of_decide_eq_true (by kernel_rfl)) h1 bel lt1) trodAll_mk0)), rfl, bel.frame _, fun h => by cases h⟩
theorem tables_over : Rows.writeTableRow.holds Tryz.pinned (OpenSpec.ofChange Rows.writeTableSpec) :=
  OpenClaim.holds_of_wide 13 Tryz.f13 rfl rfl rfl rfl rfl rfl rfl ⟨rfl, rfl, rfl, rfl, rfl⟩ rfl rfl rfl rfl rfl (by kernel_rfl) Tryz.func13 (by kernel_rfl)
    (of_decide_eq_true (by kernel_rfl)) (by unfold Func.isWrapper; first | (rw [if_pos (by decide +kernel)]; kernel_rfl) | (rw [if_neg (by decide +kernel)]; exact ⟨rfl, rfl⟩))
    (fun os started H enc _ => tables_lifted os started H enc)
theorem tables_holds : Rows.WriteTableSaid := tables_over
#print axioms tables_holds
end Go.Proofs.YtmfajobocpaimaaGreat
