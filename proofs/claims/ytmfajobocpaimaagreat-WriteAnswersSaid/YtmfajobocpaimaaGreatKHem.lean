/- Package write: Answer. -/
import Derived.Test.YtmfajobocpaimaaGreatKHmet
import Derived.Test.YtmfajobocpaimaaGreatKHcg
import Derived.Test.YtmfajobocpaimaaGreatKHcs
import Derived.Test.YtmfajobocpaimaaGreatKHdh
import Derived.Test.YtmfajobocpaimaaGreatKHdk
import Derived.Test.YtmfajobocpaimaaGreatKHdo
import Derived.Test.YtmfajobocpaimaaGreatKHds
import Derived.Test.YtmfajobocpaimaaGreatKHdt
import Derived.Test.YtmfajobocpaimaaGreatKHdv
import Derived.Test.YtmfajobocpaimaaGreatKHec
import Derived.Test.YtmfajobocpaimaaGreatKHed
import Derived.Test.YtmfajobocpaimaaGreatKHej
import Derived.Test.YtmfajobocpaimaaGreatKHm
import Derived.Test.YtmfajobocpaimaaGreatKHma
import Derived.Test.YtmfajobocpaimaaGreatKHnl
import Derived.Test.YtmfajobocpaimaaGreatKHns
import Derived.Test.YtmfajobocpaimaaGreatKHnt
import Derived.Test.YtmfajobocpaimaaGreatKHpb
import Derived.Test.YtmfajobocpaimaaGreatKHh
import Derived.Test.YtmfajobocpaimaaGreatKHtc
import Derived.Test.YtmfajobocpaimaaGreatKHtm
import Derived.Test.YtmfajobocpaimaaGreatKHni
import Derived.Test.YtmfajobocpaimaaGreatKHxh
import Derived.Test.YtmfajobocpaimaaGreatKHxo
import Derived.Below
import Derived.BigQuiet
import Derived.ChangeKeysEq
import Derived.Deep.Draws
import Derived.Deep.Light
import Derived.Deep.OwnRows
import Derived.Deep.QuietTactic
import Derived.Deep.RegionHeld
import Derived.Deep.Slices
import Derived.IntWalk
import Derived.Laws.CopyOwn
import Derived.Laws.CopyRow
import Derived.Laws.StructEq
import Derived.Laws.Tables
import Derived.Lib.AppendZerosOnto
import Derived.Lib.Hide
import Derived.Lib.Tables
import Derived.Lib.Walk
import Derived.LoopIn
import Derived.LoopN
import Derived.LoopNIn
import Derived.Maps.AppendAt
import Derived.Maps.Views
import Derived.OpenShut
import Derived.OwnWalkIn
import Derived.ProofKit
import Derived.RangeFuncBox
import Derived.RangeFuncCalls
import Derived.RangeFuncRecord
import Derived.RangeFuncSeq
import Derived.Recover
import Derived.RegionTactic
import Derived.ScopeJumps
import Derived.Shelf.Slices.Clone
import Derived.StillTail
import Derived.StillTailTactics
import Derived.TacticsInMore
import Derived.Test.YtmfajobocpaimaaGreatProg
import Derived.WalkKit
import Derived.WalkLawsBesides
import Derived.WalkMore
import Derived.WalkSpells
set_option linter.unusedSimpArgs false
set_option linter.unusedVariables false
namespace Go.Proofs.Hc
open Go.RowKit
attribute [local go_sem] wrap_u64 wrap_u8 bits_xor64 bits_and64 bits_or64 bits_not64 bits_xor8 bits_and8 bits_or8 signed64 signed8 ofInt_N BitVec.ofInt_add BitVec.ofInt_mul ofInt_sub' ofInt8_N64 ofInt64_N8 wide8 eqN neN shr_pow shr1 shr7 shr56
attribute [local go_sem high] bits_com64 shl_wrap
attribute [local go_sem] cell_heap ice_heap cellAt_cells iceAt_cells setAt_cells rowAt_cells canLay_cells laidAt_cells size_onObj size_setCell rowRes_some layRes_true
attribute [local go_sem] load26 load73 load23 store26 build73
attribute [local go_sem ↓] lrow26 lrow73 lrow23 srow26 zero26 brow73 heap_alloc heap_drew heap_drewN heap_setCell heap_onObj
attribute [local go_sem] tcells_size hcells_size tcells_get hcells_get tcells_one hcells_one hcells_table tcells_table hcells_all hcells_ctrl tcells_ctrl
attribute [local go_sem] nn2 nm2 nn3 nm3 nn4 nm4 nn5 nm5 nn6 nm6 nn7 nm7 nn8 nm8
attribute [local go_sem] nn2 nm2 nn3 nm3 nn4 nm4 nn5 nm5 nn6 nm6 nn7 nm7 nn8 nm8
attribute [local go_sem] ofInt_N ofInt_pow8
attribute [local go_sem] Oper.semAt_some make_func1
attribute [local go_sem] pen_g0 pen_g1 pen_g2 pen_g3 pen_g4 pen_g5 pen_g6 pen_g7 pen_g8 pen_g9 pen_g10 pen_g11 pen_g12 pen_g13 pen_g14 pen_g15 pen_g16 pen_g17 penC_size penC_one penC_all
attribute [local irreducible] penC
attribute [local go_sem] pen_s0 pen_s1 pen_s2 pen_s3 pen_s4 pen_s5 pen_s6 pen_s7 pen_s8 pen_s9 pen_s10 pen_s11 pen_s12 pen_s13 pen_s14 pen_s15 pen_s16 pen_s17
attribute [local go_sem] boxPen loadPen storePen buildPen0
attribute [local go_sem ↓] lrowPen srowPen wzeroPen_run browPen
attribute [local go_sem high] wlaidAt_pen
/-- An answer's cells. -/
def ansC (v : BitVec 64) (d : Bool) : Array Value := #[I 0, U v, .bool d, .slice none 0 0]
theorem ansC_size (v : BitVec 64) (d : Bool) : (ansC v d).size = 4 := rfl
theorem ansC_one (v : BitVec 64) (d : Bool) : allOne (ansC v d) = true := by unfold allOne ansC; simp [Value.oneCell']
theorem ansC_all (v : BitVec 64) (d : Bool) : (ansC v d).extract 0 4 = ansC v d := by have := Array.extract_size (xs := ansC v d); rwa [ansC_size] at this
theorem ansC_g0 (v : BitVec 64) (d : Bool) : (ansC v d)[0]? = some (I 0) := rfl
theorem ansC_g1 (v : BitVec 64) (d : Bool) : (ansC v d)[1]? = some (U v) := rfl
theorem ansC_g2 (v : BitVec 64) (d : Bool) : (ansC v d)[2]? = some (.bool d) := rfl
theorem ansC_i0 (v : BitVec 64) (d : Bool) (h : 0 < (ansC v d).size) : (ansC v d)[0] = I 0 := rfl
theorem ansC_i1 (v : BitVec 64) (d : Bool) (h : 1 < (ansC v d).size) : (ansC v d)[1] = U v := rfl
theorem ansC_i2 (v : BitVec 64) (d : Bool) (h : 2 < (ansC v d).size) : (ansC v d)[2] = .bool d := rfl
theorem ansC_s1 (v x : BitVec 64) (d : Bool) : (ansC v d).setIfInBounds 1 (U x) = ansC x d := rfl
theorem ansC_s1z (v : BitVec 64) (d : Bool) : (ansC v d).setIfInBounds 1 (.int .u64 0) = ansC 0#64 d := rfl
theorem ansC_s2 (v : BitVec 64) (d x : Bool) : (ansC v d).setIfInBounds 2 (.bool x) = ansC v x := rfl
theorem loadAns (g o : Nat) (w : World) : (loadRow 102 ⟨g, o, none⟩).run Tryz.prog w = rowRes Tryz.prog 102 g o w ((w.heap[g]?).bind (rowAt o 4)) :=
  run_row Tryz.underlying102 rfl (by kernel_rfl) g o w
theorem storeAns (g o : Nat) (vs : Array Value) (w : World) : (storeRow 102 ⟨g, o, none⟩ (.agg vs)).run Tryz.prog w = layRes Tryz.prog 102 g o vs w (((w.heap[g]?).map (canLay o 4 vs)).getD false) :=
  run_lay (by kernel_rfl) g o vs w
theorem lrowAns (a : Addr) : loadVar 102 a = loadRow 102 a := rfl
theorem srowAns (a : Addr) (v : Value) : storeVar 102 a v = storeRow 102 a v := rfl
theorem zeroAns_run (w : World) : (zeroValue 102).run Tryz.prog w = .ok (.agg (ansC 0#64 false)) w := by kernel_rfl
theorem browAns (ps : Array (Nat × Value)) : Instr.build 102 ps = buildRow 102 ps := rfl
theorem buildAns (v : BitVec 64) (d : Bool) (w : World) : (buildRow 102 #[(1, U v), (2, .bool d)]).run Tryz.prog w = .ok (.agg (ansC v d)) w := by kernel_rfl
theorem buildAns0 (w : World) : (buildRow 102 #[]).run Tryz.prog w = .ok (.agg (ansC 0#64 false)) w := by kernel_rfl
theorem laidAtAns (a b : BitVec 64) (c d : Bool) (T : TypeId) (fr : Nat × Nat) : laidAt 0 (ansC a c) (.cells (ansC b d) T fr) = .cells (ansC a c) T fr := by
  rw [laidAt_cells, laid_whole _ _ (by rw [ansC_size, ansC_size])]
attribute [local go_sem] ansC_size ansC_one ansC_all ansC_g0 ansC_g1 ansC_g2 ansC_i0 ansC_i1 ansC_i2 ansC_s1 ansC_s1z ansC_s2 loadAns storeAns buildAns buildAns0
attribute [local go_sem ↓] lrowAns srowAns zeroAns_run browAns
attribute [local go_sem high] laidAtAns
attribute [local irreducible] ansC
/-- What a call comes to, that is over. -/
def answP (p : PenT) : BitVec 64 × Bool := if p.found then (p.val, if p.op == 4 then p.val == p.a else true) else (if p.op == 5 then p.a else 0#64, false)
theorem ans_results {fn : Func} {p q : Tmp} (h : fn.results = #[.cell p 102, .tmp q]) (tmps : Array Value) (b : Nat) (w : World) (v : BitVec 64) (d : Bool) (y : Value) (hp : tmps.getD p undef = .pointer (some ⟨b, 0, none⟩)) (hq : tmps.getD q undef = y)
    (hb : w.heap[b]? = some (.cells (ansC v d) 102 (0, 0))) : (results fn tmps).run Tryz.prog w = .ok (.tuple #[.agg (ansC v d), y]) w := by
  have hl := run_loadVar_row (P := Tryz.prog) w b 102 102 (ansC v d) (0, 0) _ hb Tryz.underlying102 rfl (by rw [ansC_size]; kernel_rfl)
  have hp' : tmps[p]?.getD undef = .pointer (some ⟨b, 0, none⟩) := by simpa using hp
  have hq' : tmps[q]?.getD undef = y := by simpa using hq
  simp [results, h, hp', hq', asAddr, hl]
set_option maxHeartbeats 2000000 in
set_option maxRecDepth 100000 in
theorem answer_no (p : PenT) (hr : rightP p = true) (hph : p.ph = 16) (w : World) : Calls Tryz.prog 60 #[.agg (penC p)] w fun e w' => e = .returned (.tuple #[.agg (ansC 0#64 false), .bool false]) ∧ Ch [] w w' := by
  have K1 := fun w => check_pen p w
  rw [checkV_yes hr] at K1
  have C0 : Ch [] w ((w.alloc (.cells (penC p) 71)).alloc (.cells (ansC 0#64 false) 102)) := ((Ch.refl [] w).alloc _).alloc _
  have b0 : ((w.alloc (.cells (penC p) 71)).alloc (.cells (ansC 0#64 false) 102)).heap[w.heap.size]? = some (.cells (penC p) 71 (0, 0)) := by simp [go_sem]
  have z0 : ((w.alloc (.cells (penC p) 71)).alloc (.cells (ansC 0#64 false) 102)).heap[w.heap.size + 1]? = some (.cells (ansC 0#64 false) 102 (0, 0)) := by simp [go_sem]
  go_enter Tryz.func60, Tryz.ntmps60
  go_wp2_with fail
  obtain ⟨w0, hw0⟩ : ∃ W, (w.alloc (.cells (penC p) 71)).alloc (.cells (ansC 0#64 false) 102) = W := ⟨_, rfl⟩
  rw [hw0] at C0 b0 z0 ⊢
  clear hw0
  refine (K1 _).mono ?_
  rintro e w1 ⟨rfl, hc1⟩
  have b1 := hkeep hc1 b0
  have z1 := hkeep hc1 z0
  have C1 := C0.trans hc1
  go_wp2
  refine bodyPost_ret (ans_results Tryz.results60 _ (w.heap.size + 1) _ 0#64 false _ rfl rfl ?_) rfl ⟨rfl, C1.onObj (p := w.heap.size + 1) (.inr (by omega)) _⟩
  simp [go_sem, z1]
set_option maxHeartbeats 2000000 in
set_option maxRecDepth 100000 in
theorem answer_yes (p : PenT) (hr : rightP p = true) (hph : p.ph = 14) (w : World) : Calls Tryz.prog 60 #[.agg (penC p)] w fun e w' => e = .returned (.tuple #[.agg (ansC (answP p).1 (answP p).2), .bool true]) ∧ Ch [] w w' := by
  have K1 := fun w => check_pen p w
  rw [checkV_yes hr] at K1
  have C0 : Ch [] w ((w.alloc (.cells (penC p) 71)).alloc (.cells (ansC 0#64 false) 102)) := ((Ch.refl [] w).alloc _).alloc _
  have b0 : ((w.alloc (.cells (penC p) 71)).alloc (.cells (ansC 0#64 false) 102)).heap[w.heap.size]? = some (.cells (penC p) 71 (0, 0)) := by simp [go_sem]
  have z0 : ((w.alloc (.cells (penC p) 71)).alloc (.cells (ansC 0#64 false) 102)).heap[w.heap.size + 1]? = some (.cells (ansC 0#64 false) 102 (0, 0)) := by simp [go_sem]
  have hcase : ∃ v d, answP p = (v, d) := ⟨_, _, rfl⟩
  obtain ⟨v, d, hvd⟩ := hcase
  rw [hvd]
  have HV := Lib.hid hvd
  clear hvd hr
  have h4 : p.op = 4 ∨ (p.op == 4) = false := by by_cases h : p.op = 4; exact .inl h; exact .inr (by simpa using h)
  have h5 : p.op = 5 ∨ (p.op == 5) = false := by by_cases h : p.op = 5; exact .inl h; exact .inr (by simpa using h)
  cases hf : p.found
  · rcases h5 with h5 | h5
    · go_enter Tryz.func60, Tryz.ntmps60
      go_wp2_with fail
      obtain ⟨w0, hw0⟩ : ∃ W, (w.alloc (.cells (penC p) 71)).alloc (.cells (ansC 0#64 false) 102) = W := ⟨_, rfl⟩
      rw [hw0] at C0 b0 z0 ⊢
      clear hw0
      refine (K1 _).mono ?_
      rintro e w1 ⟨rfl, hc1⟩
      have b1 := hkeep hc1 b0
      have z1 := hkeep hc1 z0
      have C1 := C0.trans hc1
      have n1 : ¬ w.heap.size = w1.heap.size := by have := blk_lt19 b1; omega
      have n2 : ¬ w.heap.size + 1 = w1.heap.size := by have := blk_lt19 z1; omega
      have hz1 := C1.size
      clear b0 z0 C0 hc1
      go_wp2
      obtain ⟨rfl, rfl⟩ : p.a = v ∧ false = d := by have := HV.out; unfold answP at this; simpa [hf, h5] using this
      refine bodyPost_ret (ans_results Tryz.results60 _ (w.heap.size + 1) _ _ _ _ rfl rfl ?_) rfl ⟨rfl, ((((C1.alloc _).onObj (.inr hz1) _).setCell (p := ⟨w1.heap.size, _, none⟩) (.inr hz1) _).onObj (p := w.heap.size + 1) (.inr (by omega)) _)⟩
      simp [go_sem, z1, n2]
    · go_enter Tryz.func60, Tryz.ntmps60
      go_wp2_with fail
      obtain ⟨w0, hw0⟩ : ∃ W, (w.alloc (.cells (penC p) 71)).alloc (.cells (ansC 0#64 false) 102) = W := ⟨_, rfl⟩
      rw [hw0] at C0 b0 z0 ⊢
      clear hw0
      refine (K1 _).mono ?_
      rintro e w1 ⟨rfl, hc1⟩
      have b1 := hkeep hc1 b0
      have z1 := hkeep hc1 z0
      have C1 := C0.trans hc1
      have n1 : ¬ w.heap.size = w1.heap.size := by have := blk_lt19 b1; omega
      have n2 : ¬ w.heap.size + 1 = w1.heap.size := by have := blk_lt19 z1; omega
      have hz1 := C1.size
      clear b0 z0 C0 hc1
      go_wp2
      obtain ⟨rfl, rfl⟩ : 0#64 = v ∧ false = d := by have := HV.out; unfold answP at this; simpa [hf, h5] using this
      refine bodyPost_ret (ans_results Tryz.results60 _ (w.heap.size + 1) _ _ _ _ rfl rfl ?_) rfl ⟨rfl, ((((C1.alloc _).onObj (.inr hz1) _).setCell (p := ⟨w1.heap.size, _, none⟩) (.inr hz1) _).onObj (p := w.heap.size + 1) (.inr (by omega)) _)⟩
      simp [go_sem, z1, n2]
  · rcases h4 with h4 | h4
    · go_enter Tryz.func60, Tryz.ntmps60
      go_wp2_with fail
      obtain ⟨w0, hw0⟩ : ∃ W, (w.alloc (.cells (penC p) 71)).alloc (.cells (ansC 0#64 false) 102) = W := ⟨_, rfl⟩
      rw [hw0] at C0 b0 z0 ⊢
      clear hw0
      refine (K1 _).mono ?_
      rintro e w1 ⟨rfl, hc1⟩
      have b1 := hkeep hc1 b0
      have z1 := hkeep hc1 z0
      have C1 := C0.trans hc1
      have n1 : ¬ w.heap.size = w1.heap.size := by have := blk_lt19 b1; omega
      have n2 : ¬ w.heap.size + 1 = w1.heap.size := by have := blk_lt19 z1; omega
      have hz1 := C1.size
      clear b0 z0 C0 hc1
      go_wp2
      obtain ⟨rfl, rfl⟩ : p.val = v ∧ (p.val == p.a) = d := by have := HV.out; unfold answP at this; simpa [hf, h4] using this
      refine bodyPost_ret (ans_results Tryz.results60 _ (w.heap.size + 1) _ _ _ _ rfl rfl ?_) rfl ⟨rfl, ((((C1.alloc _).onObj (.inr hz1) _).setCell (p := ⟨w1.heap.size, _, none⟩) (.inr hz1) _).onObj (p := w.heap.size + 1) (.inr (by omega)) _)⟩
      simp [go_sem, z1, n2]
    · go_enter Tryz.func60, Tryz.ntmps60
      go_wp2_with fail
      obtain ⟨w0, hw0⟩ : ∃ W, (w.alloc (.cells (penC p) 71)).alloc (.cells (ansC 0#64 false) 102) = W := ⟨_, rfl⟩
      rw [hw0] at C0 b0 z0 ⊢
      clear hw0
      refine (K1 _).mono ?_
      rintro e w1 ⟨rfl, hc1⟩
      have b1 := hkeep hc1 b0
      have z1 := hkeep hc1 z0
      have C1 := C0.trans hc1
      have n1 : ¬ w.heap.size = w1.heap.size := by have := blk_lt19 b1; omega
      have n2 : ¬ w.heap.size + 1 = w1.heap.size := by have := blk_lt19 z1; omega
      have hz1 := C1.size
      clear b0 z0 C0 hc1
      go_wp2
      obtain ⟨rfl, rfl⟩ : p.val = v ∧ true = d := by have := HV.out; unfold answP at this; simpa [hf, h4] using this
      refine bodyPost_ret (ans_results Tryz.results60 _ (w.heap.size + 1) _ _ _ _ rfl rfl ?_) rfl ⟨rfl, (((C1.alloc _).onObj (.inr hz1) _).onObj (p := w.heap.size + 1) (.inr (by omega)) _)⟩
      simp [go_sem, z1, n2]
end Go.Proofs.Hc
/- Law 19, WriteTable: the walk, call by call (printed by gen_answers19.py). -/
namespace Go.Proofs.Hc
open Go.RowKit
attribute [local go_sem] wrap_u64 wrap_u8 bits_xor64 bits_and64 bits_or64 bits_not64 bits_xor8 bits_and8 bits_or8 signed64 signed8 ofInt_N BitVec.ofInt_add BitVec.ofInt_mul ofInt_sub' ofInt8_N64 ofInt64_N8 wide8 eqN neN shr_pow shr1 shr7 shr56
attribute [local go_sem high] bits_com64 shl_wrap
attribute [local go_sem] cell_heap ice_heap cellAt_cells iceAt_cells setAt_cells rowAt_cells canLay_cells laidAt_cells size_onObj size_setCell rowRes_some layRes_true
attribute [local go_sem] load26 load73 load23 store26 build73
attribute [local go_sem ↓] lrow26 lrow73 lrow23 srow26 zero26 brow73 heap_alloc heap_drew heap_drewN heap_setCell heap_onObj
attribute [local go_sem] tcells_size hcells_size tcells_get hcells_get tcells_one hcells_one hcells_table tcells_table hcells_all hcells_ctrl tcells_ctrl
attribute [local go_sem] nn2 nm2 nn3 nm3 nn4 nm4 nn5 nm5 nn6 nm6 nn7 nm7 nn8 nm8
attribute [local go_sem] nn2 nm2 nn3 nm3 nn4 nm4 nn5 nm5 nn6 nm6 nn7 nm7 nn8 nm8
attribute [local go_sem] ofInt_N ofInt_pow8
attribute [local go_sem] Oper.semAt_some make_func1
attribute [local go_sem] pen_g0 pen_g1 pen_g2 pen_g3 pen_g4 pen_g5 pen_g6 pen_g7 pen_g8 pen_g9 pen_g10 pen_g11 pen_g12 pen_g13 pen_g14 pen_g15 pen_g16 pen_g17 penC_size penC_one penC_all
attribute [local irreducible] penC
attribute [local go_sem] pen_s0 pen_s1 pen_s2 pen_s3 pen_s4 pen_s5 pen_s6 pen_s7 pen_s8 pen_s9 pen_s10 pen_s11 pen_s12 pen_s13 pen_s14 pen_s15 pen_s16 pen_s17
attribute [local go_sem] boxPen loadPen storePen buildPen0
attribute [local go_sem ↓] lrowPen srowPen wzeroPen_run browPen
attribute [local go_sem high] wlaidAt_pen laidAt_t
attribute [local go_sem] workC_size workC_one workC_all workC_tab workC_g0 workC_g1 workC_g2 workC_i0 workC_i1 workC_i2 boxWork loadWork
attribute [local go_sem ↓] lrowWork
attribute [local go_sem] callC_size callC_one callC_all boxCall loadCall callC_i0 callC_i1 callC_i2 callC_i3 callC_j0 callC_j1 callC_j2 callC_j3
attribute [local go_sem ↓] lrowCall
attribute [local irreducible] callC workC tcells
attribute [local go_sem] ansC_size ansC_one ansC_all ansC_g0 ansC_g1 ansC_g2 ansC_i0 ansC_i1 ansC_i2 loadAns storeAns
attribute [local go_sem ↓] lrowAns srowAns zeroAns_run
attribute [local go_sem high] laidAtAns
attribute [local irreducible] ansC
attribute [local go_sem] Oper.semAt_some make_func1
theorem ans_put (v : BitVec 64) (d : Bool) (w : World) : (World.onObj (w.alloc (.cells (ansC 0#64 false) 102)) w.heap.size (laidAt 0 (ansC v d))).heap[w.heap.size]? = some (.cells (ansC v d) 102 (0, 0)) := by
  rw [heap_onObj, if_pos rfl, heap_alloc, if_pos rfl, Option.map_some, laidAtAns]
theorem ans_put_ch (v : BitVec 64) (d : Bool) (w : World) : Ch [] w (World.onObj (w.alloc (.cells (ansC 0#64 false) 102)) w.heap.size (laidAt 0 (ansC v d))) := ((Ch.refl [] w).alloc _).onObj (.inr (Nat.le_refl _)) _
theorem index_own (l : List (BitVec 64 × BitVec 64)) (op : Int) (k av bv : BitVec 64) (pb : Nat) (a : Option Addr) (c base : Nat) (w : World) (hl : l.length ≤ 900000) (h : w.ownsRow base 31 2 (.slice a l.length c) l.length (pcells l)) (hp : w.heap[pb]? = some (.cells (callC op k av bv) 68 (0, 0))) :
    Calls Tryz.prog 61 #[.slice a l.length c, .func (.func 62) #[] #[.pointer (some ⟨pb, 0, none⟩)]] w (IdxF w l k) := by
  obtain ⟨cur, h1, h2, h3⟩ := pairs_at rfl h
  exact indexA_any l op (k, ()) av bv pb a c cur w hl h1 h2 (fun r hr => (h3 r hr).2) hp
/-- What a found key's place in the row of pairs is. -/
theorem idx_found {t : Tab} {s key : BitVec 64} {j n : Nat} (m : May t s) (h : foundE t s key = .ok (j, n)) {w w' : World} {e : Ending} (hi : IdxF w (pairsT t) key e w') : ∃ i : Nat, e = .returned (I i) ∧ (pairsT t)[i]? = some (key, t.v j) ∧ Ch [] w w' := by
  obtain ⟨h1, h2, h3⟩ := found_is h
  obtain ⟨x, he, hC, ⟨rfl, hno⟩ | ⟨i, q, rfl, hq, hk, _⟩⟩ := hi
  · exact absurd h3 (hno _ ((mem_pairs t _).2 ⟨j, h1, h2, rfl⟩))
  · obtain ⟨j', hj', hf', rfl⟩ := (mem_pairs t q).1 (List.mem_of_getElem? hq)
    have hjj := m.inj j' j hj' h1 hf' h2 (hk.trans h3.symm)
    subst hjj
    exact ⟨i, he, by rw [hq, ← h3], hC⟩
theorem idx_not {t : Tab} {s key : BitVec 64} (m : May t s) (hk : hasKT t key = false) {w w' : World} {e : Ending} (hi : IdxF w (pairsT t) key e w') : e = .returned (I (-1)) ∧ Ch [] w w' := by
  obtain ⟨x, he, hC, ⟨rfl, hno⟩ | ⟨i, q, rfl, hq, hqk, _⟩⟩ := hi
  · exact ⟨he, hC⟩
  · obtain ⟨j', hj', hf', rfl⟩ := (mem_pairs t q).1 (List.mem_of_getElem? hq)
    have := (hasKT_iff t key).2 ⟨j', hj', hf', hqk⟩
    rw [hk] at this; cases this
theorem pair_val {w : World} {base c i : Nat} {a : Option Addr} {l : List (BitVec 64 × BitVec 64)} {k v : BitVec 64} (h : w.ownsRow base 31 2 (.slice a l.length c) l.length (pcells l)) (hi : l[i]? = some (k, v)) : ∃ r cur, a = some ⟨r, 0, none⟩ ∧ w.heap[r]? = some (.cells cur 31 (0, 0)) ∧ cur[i * 2 + 1]? = some (U v) := by
  have hlt := (List.getElem?_eq_some_iff.1 hi).1
  obtain ⟨hlen, ⟨hv, h0⟩ | ⟨r, cap, cur, hv, hb, hW, hle, hcm, hsz, htake⟩⟩ := h
  · omega
  · simp only [Value.slice.injEq] at hv
    refine ⟨r, cur, hv.1, hW, ?_⟩
    have := (pcells_at l i (k, v) hi).2
    rw [← htake, List.getElem?_take, if_pos (by omega)] at this
    rw [Nat.mul_comm]
    simpa using this
set_option maxHeartbeats 3000000 in
set_option maxRecDepth 100000 in
theorem answers_op5 (s : BitVec 64) (sl : Int) (t : Tab) (key a b : BitVec 64) (w : World) (hok : workOk s sl t = true) (hgo : hasT t (hashOf s key) = true) :
    Calls Tryz.prog 12 #[.agg (workC s sl t), .agg (callC 5 key a b)] w fun e w' => e = .returned (.bool true) ∧ Ch [] w w' := by
  obtain ⟨hm, hev, s0, s2⟩ := work_ok hok
  have m := (may_iff t s).1 hm
  obtain ⟨B, hB⟩ : ∃ B : Nat, (16 + 40 * sl).toNat = B := ⟨_, rfl⟩
  have hWL := workL_is t hB
  have hBn : B + 40 ≤ 136 := by omega
  have hBI : 16 + 40 * sl + 0 = (B : Int) := by omega
  have hBI2 : (B : Int) ≤ 136 := by omega
  have hB0 : (0 : Int) ≤ B := by omega
  have hB1 : 1 < B := by omega
  have hBc : B + 40 ≤ (idxL 136).length := by rw [idxL_len]; exact hBn
  have hr := first_right key a b (hashOf s key) s0 (by omega : sl < 128) (by omega : (2 : Int) ≤ 5) (by omega : (5 : Int) ≤ 5)
  have hL0' : (workL sl t).length = 136 := by rw [hWL, laidW_len t hBc, idxL_len]
  obtain ⟨mk, lE, pE, hmk, hrun, hlE⟩ := runs_any (meas (firstP sl 5 key a b (hashOf s key))) (workL sl t) (firstP sl 5 key a b (hashOf s key)) (Nat.le_refl _) hr (by show 56 + 40 * sl ≤ _; rw [hL0']; omega)
  have hmk2 : mk ≤ 100000 := by have : meas (firstP sl 5 key a b (hashOf s key)) = 10000 := rfl; omega
  have hRI : RunIs (idxL 136) B t s 1#64 5 key a b lE pE := table_run m hgo hBc hB1 idxL_one s0 hB.symm hev (by rw [← hWL]; exact hrun)
  have S1 : ∀ R w, w.heap[R]? = some (.cells (wcells (workL sl t)) 22 (0, 0)) → Calls Tryz.prog 48 #[.slice (some ⟨R, 0, none⟩) 136 136, I sl, .agg (callC 5 key a b), U (hashOf s key)] w fun e w' => ∃ R, e = .returned (.tuple #[.slice (some ⟨R, 0, none⟩) 136 136, .agg (penC pE), I (mk : Nat), I 0]) ∧ lE.length = 136 ∧ w.heap.size ≤ R ∧ w'.heap[R]? = some (.cells (wcells lE) 22 (0, 0)) ∧ Ch [] w w' := fun R w hb => by
    have := wRun_go (workL sl t) lE R 136 (wcells (workL sl t)) sl 5 key a b (hashOf s key) w (by omega) (by omega) hb (wcells_at _) hr (by rw [hL0']; omega) pE mk hrun hmk2
    rw [hL0'] at this
    exact this
  have hrE := hrun.right hr
  have W1 := fun w => wakes19_any w
  have CY := fun w => cells_yes s sl t w hok
  have H1 := fun w => hashOf_any s key w
  have G1 := fun w => has_any t (hashOf s key) w
  rw [hgo] at G1
  have L1 := fun w => cell_ok sl 0 s0 (by omega) (by omega) (by omega) w
  rw [hBI] at L1
  obtain ⟨L0, hL0e⟩ : ∃ L, workL sl t = L := ⟨_, rfl⟩
  rw [hL0e] at hWL hL0' S1 CY
  have hL0 : L0.length = 136 := hL0'
  have hL01 : L0[1]? = some 1#64 := by rw [hWL, laidW_get t hBc, if_neg (by omega)]; exact idxL_one
  have HF := Lib.hid (fun (X : Tab) => laidW_over (c := (idxL 136)) t X hBc)
  have HF1 := Lib.hid (fun (X : Tab) y => laidW_over (c := (idxL 136).set 1 y) (B := B) t X (by rw [List.length_set]; exact hBc))
  have HS1 := Lib.hid (fun y => laidW_one (c := idxL 136) t y hBc hB1)
  obtain ⟨hh, hhe⟩ : ∃ h, hashOf s key = h := ⟨_, rfl⟩
  rw [hhe] at S1 H1 G1
  clear hok hgo hr hmk hmk2 hrun hlE hL0' hL0e hhe hBc hBI hev
  have y0 : ((w.alloc (.cells (workC s sl t) 88)).alloc (.cells (callC 5 key a b) 68)).heap[w.heap.size + 1]? = some (.cells (callC 5 key a b) 68 (0, 0)) := by simp [go_sem]
  have k0 : ((w.alloc (.cells (workC s sl t) 88)).alloc (.cells (callC 5 key a b) 68)).heap[w.heap.size]? = some (.cells (workC s sl t) 88 (0, 0)) := by simp [go_sem]
  have C0 : Ch [] w ((w.alloc (.cells (workC s sl t) 88)).alloc (.cells (callC 5 key a b) 68)) := ((Ch.refl [] w).alloc _).alloc _
  go_enter Tryz.func12, Tryz.ntmps12
  go_wp2_with fail
  obtain ⟨w0, hw0⟩ : ∃ W, (w.alloc (.cells (workC s sl t) 88)).alloc (.cells (callC 5 key a b) 68) = W := ⟨_, rfl⟩
  rw [hw0] at y0 k0 C0 ⊢
  clear hw0
  obtain ⟨A, hA⟩ : ∃ b, w.heap.size = b := ⟨_, rfl⟩
  rw [hA] at y0 k0 ⊢
  obtain ⟨A1, hA1⟩ : ∃ b, A + 1 = b := ⟨_, rfl⟩
  rw [hA1] at y0 ⊢
  refine (W1 _).mono ?_
  rintro e w1 ⟨rfl, hc1⟩
  have k1 := hkeep (hc1) k0
  have y1 := hkeep (hc1) y0
  have C1 := C0.trans (hc1)
  clear k0 y0 C0 hc1 
  go_wp2_with fail
  refine (CY _).mono ?_
  rintro e w2 ⟨R, rfl, hRw, r2, hc2⟩
  have k2 := hkeep (hc2) k1
  have y2 := hkeep (hc2) y1
  have C2 := C1.trans (hc2)
  clear k1 y1 C1 hc2 
  go_wp2_with fail
  refine (H1 _).mono ?_
  rintro e w' ⟨rfl, rfl⟩
  go_wp2_with fail
  refine (G1 _).mono ?_
  rintro e w3 ⟨rfl, hc3⟩
  have k3 := hkeep (hc3) k2
  have y3 := hkeep (hc3) y2
  have r3 := hkeep (hc3) r2
  have C3 := C2.trans (hc3)
  clear k2 y2 r2 C2 hc3 
  go_wp2_with fail
  refine (S1 _ _ r3).mono ?_
  rintro e w4 ⟨R8, rfl, hlE2, hR8, n4, hc4⟩
  have k4 := hkeep (hc4) k3
  have y4 := hkeep (hc4) y3
  have r4 := hkeep (hc4) r3
  have C4 := C3.trans (hc4)
  clear k3 y3 r3 C3 hc4 
  have nk : ¬ A = w4.heap.size := by have := blk_lt19 k4; omega
  have ny : ¬ A1 = w4.heap.size := by have := blk_lt19 y4; omega
  have nr : ¬ R = w4.heap.size := by have := blk_lt19 r4; omega
  have nn : ¬ R8 = w4.heap.size := by have := blk_lt19 n4; omega
  go_wp2_with fail
  clear nk ny nr nn
  have k5 := hkeep (pen_put_ch pE w4) k4
  have y5 := hkeep (pen_put_ch pE w4) y4
  have r5 := hkeep (pen_put_ch pE w4) r4
  have n5 := hkeep (pen_put_ch pE w4) n4
  have C5 := C4.trans (pen_put_ch pE w4)
  have q5 := pen_put pE w4
  have hlA9 := C4.size
  have lkA9 := blk_lt19 k4
  have lyA9 := blk_lt19 y4
  have lrA9 := blk_lt19 r4
  have lnA9 := blk_lt19 n4
  clear k4 y4 r4 n4 C4 
  obtain ⟨w5, hw5⟩ : ∃ W, World.onObj (w4.alloc (.cells (penC zeroPen) 71)) w4.heap.size (laidAt 0 (penC pE)) = W := ⟨_, rfl⟩
  rw [hw5] at k5 y5 r5 n5 q5 C5  ⊢
  clear hw5
  obtain ⟨A9, hbA9⟩ : ∃ b, w4.heap.size = b := ⟨_, rfl⟩
  rw [hbA9] at q5 hlA9 lkA9 lyA9 lrA9 lnA9 ⊢
  clear hbA9
  have P1 := fun w => Pairs_yes t s w hm
  have hlp : (pairsT t).length ≤ 14 := by have := live_le m; omega
  rcases hRI with ⟨j, nf, hfo, hj, hpo, hpa, hpf, hvv, hph, hif⟩ | ⟨hfo, hnk, hpo, hpa, hpf, hif⟩
  · have hans : answP pE = (t.v j, true) := by unfold answP; rw [hpf, if_pos rfl, hpo, hvv]; rw [if_neg (by decide)]
    have AN := fun w => answer_yes pE hrE hph w
    rw [hans] at AN
    refine (AN _).mono ?_
    rintro e w6 ⟨rfl, hc6⟩
    have k6 := hkeep (hc6) k5
    have y6 := hkeep (hc6) y5
    have r6 := hkeep (hc6) r5
    have n6 := hkeep (hc6) n5
    have q6 := hkeep (hc6) q5
    have C6 := C5.trans (hc6)
    clear k5 y5 r5 n5 q5 C5 hc6 
    have nk : ¬ A = w6.heap.size := by have := blk_lt19 k6; omega
    have ny : ¬ A1 = w6.heap.size := by have := blk_lt19 y6; omega
    have nr : ¬ R = w6.heap.size := by have := blk_lt19 r6; omega
    have nn : ¬ R8 = w6.heap.size := by have := blk_lt19 n6; omega
    have nq : ¬ A9 = w6.heap.size := by have := blk_lt19 q6; omega
    go_wp2_with fail
    clear nk ny nr nn nq
    have k7 := hkeep (ans_put_ch (t.v j) true w6) k6
    have y7 := hkeep (ans_put_ch (t.v j) true w6) y6
    have r7 := hkeep (ans_put_ch (t.v j) true w6) r6
    have n7 := hkeep (ans_put_ch (t.v j) true w6) n6
    have q7 := hkeep (ans_put_ch (t.v j) true w6) q6
    have C7 := C6.trans (ans_put_ch (t.v j) true w6)
    have e7 := ans_put (t.v j) true w6
    have hlA12 := C6.size
    clear k6 y6 r6 n6 q6 C6 
    obtain ⟨w7, hw7⟩ : ∃ W, World.onObj (w6.alloc (.cells (ansC 0#64 false) 102)) w6.heap.size (laidAt 0 (ansC (t.v j) true)) = W := ⟨_, rfl⟩
    rw [hw7] at k7 y7 r7 n7 q7 e7 C7  ⊢
    clear hw7
    obtain ⟨A12, hbA12⟩ : ∃ b, w6.heap.size = b := ⟨_, rfl⟩
    rw [hbA12] at e7 hlA12 ⊢
    clear hbA12
    go_wp2_with fail
    refine (P1 _).mono ?_
    rintro e w8 ⟨ap, cp, rfl, hop, hc8⟩
    have k8 := hkeep (hc8) k7
    have y8 := hkeep (hc8) y7
    have r8 := hkeep (hc8) r7
    have n8 := hkeep (hc8) n7
    have q8 := hkeep (hc8) q7
    have e8 := hkeep (hc8) e7
    have C8 := C7.trans (hc8)
    clear k7 y7 r7 n7 q7 e7 C7 hc8 
    go_wp2_with fail
    refine (index_own (pairsT t) 5 key a b A1 ap cp _ _ (by omega) hop y8).mono ?_
    rintro e w9 hidx
    obtain ⟨i, rfl, hi, hc9⟩ := idx_found m hfo hidx
    have hil := (List.getElem?_eq_some_iff.1 hi).1
    have k9 := hkeep (hc9) k8
    have y9 := hkeep (hc9) y8
    have r9 := hkeep (hc9) r8
    have n9 := hkeep (hc9) n8
    have q9 := hkeep (hc9) q8
    have e9 := hkeep (hc9) e8
    have C9 := C8.trans (hc9)
    clear k8 y8 r8 n8 q8 e8 C8 hc9 hidx
    have hi0 : ¬ ((i : Int) < 0) := by omega
    have hI0 : (0 : Int) ≤ i := by omega
    have hIl : (i : Int) < ((pairsT t).length : Int) := by omega
    have hIs : (i : Int) ≤ 14 := by omega
    go_wp2_with fail
    refine (P1 _).mono ?_
    rintro e w10 ⟨ap2, cp2, rfl, hop2, hc10⟩
    have k10 := hkeep (hc10) k9
    have y10 := hkeep (hc10) y9
    have r10 := hkeep (hc10) r9
    have n10 := hkeep (hc10) n9
    have q10 := hkeep (hc10) q9
    have e10 := hkeep (hc10) e9
    have C10 := C9.trans (hc10)
    clear k9 y9 r9 n9 q9 e9 C9 hc10 
    obtain ⟨rp, curp, rfl, hWp, hcell⟩ := pair_val hop2 hi
    obtain ⟨np, hnp⟩ : ∃ n, (pairsT t).length = n := ⟨_, rfl⟩
    rw [hnp] at hil hIl ⊢
    clear hop hop2 hlp P1 hi
    go_wp2_with fail
    go_ret
    exact ⟨rfl, C10⟩
  · rw [if_pos (by omega)] at hif
    cases hpl : placeT t s key with
    | error ee =>
      rw [hpl] at hif
      obtain ⟨rfl, hph, hif⟩ := hif
      have AN := fun w => answer_no pE hrE hph w
      refine (AN _).mono ?_
      rintro e w6 ⟨rfl, hc6⟩
      have k6 := hkeep (hc6) k5
      have y6 := hkeep (hc6) y5
      have r6 := hkeep (hc6) r5
      have n6 := hkeep (hc6) n5
      have q6 := hkeep (hc6) q5
      have C6 := C5.trans (hc6)
      clear k5 y5 r5 n5 q5 C5 hc6 
      have nk : ¬ A = w6.heap.size := by have := blk_lt19 k6; omega
      have ny : ¬ A1 = w6.heap.size := by have := blk_lt19 y6; omega
      have nr : ¬ R = w6.heap.size := by have := blk_lt19 r6; omega
      have nn : ¬ R8 = w6.heap.size := by have := blk_lt19 n6; omega
      have nq : ¬ A9 = w6.heap.size := by have := blk_lt19 q6; omega
      go_wp2_with fail
      clear nk ny nr nn nq
      have k7 := hkeep (ans_put_ch (0#64) false w6) k6
      have y7 := hkeep (ans_put_ch (0#64) false w6) y6
      have r7 := hkeep (ans_put_ch (0#64) false w6) r6
      have n7 := hkeep (ans_put_ch (0#64) false w6) n6
      have q7 := hkeep (ans_put_ch (0#64) false w6) q6
      have C7 := C6.trans (ans_put_ch (0#64) false w6)
      have e7 := ans_put (0#64) false w6
      have hlA12 := C6.size
      clear k6 y6 r6 n6 q6 C6 
      obtain ⟨w7, hw7⟩ : ∃ W, World.onObj (w6.alloc (.cells (ansC 0#64 false) 102)) w6.heap.size (laidAt 0 (ansC (0#64) false)) = W := ⟨_, rfl⟩
      rw [hw7] at k7 y7 r7 n7 q7 e7 C7  ⊢
      clear hw7
      obtain ⟨A12, hbA12⟩ : ∃ b, w6.heap.size = b := ⟨_, rfl⟩
      rw [hbA12] at e7 hlA12 ⊢
      clear hbA12
      go_ret
      exact ⟨rfl, C7⟩
    | ok sp =>
      rw [hpl] at hif
      obtain ⟨hph, hif⟩ := hif
      have hans : answP pE = (a, false) := by unfold answP; rw [hpf, if_neg (by decide), hpo]; rw [if_pos (by decide), hpa]
      have AN := fun w => answer_yes pE hrE hph w
      rw [hans] at AN
      refine (AN _).mono ?_
      rintro e w6 ⟨rfl, hc6⟩
      have k6 := hkeep (hc6) k5
      have y6 := hkeep (hc6) y5
      have r6 := hkeep (hc6) r5
      have n6 := hkeep (hc6) n5
      have q6 := hkeep (hc6) q5
      have C6 := C5.trans (hc6)
      clear k5 y5 r5 n5 q5 C5 hc6 
      have nk : ¬ A = w6.heap.size := by have := blk_lt19 k6; omega
      have ny : ¬ A1 = w6.heap.size := by have := blk_lt19 y6; omega
      have nr : ¬ R = w6.heap.size := by have := blk_lt19 r6; omega
      have nn : ¬ R8 = w6.heap.size := by have := blk_lt19 n6; omega
      have nq : ¬ A9 = w6.heap.size := by have := blk_lt19 q6; omega
      go_wp2_with fail
      clear nk ny nr nn nq
      have k7 := hkeep (ans_put_ch (a) false w6) k6
      have y7 := hkeep (ans_put_ch (a) false w6) y6
      have r7 := hkeep (ans_put_ch (a) false w6) r6
      have n7 := hkeep (ans_put_ch (a) false w6) n6
      have q7 := hkeep (ans_put_ch (a) false w6) q6
      have C7 := C6.trans (ans_put_ch (a) false w6)
      have e7 := ans_put (a) false w6
      have hlA12 := C6.size
      clear k6 y6 r6 n6 q6 C6 
      obtain ⟨w7, hw7⟩ : ∃ W, World.onObj (w6.alloc (.cells (ansC 0#64 false) 102)) w6.heap.size (laidAt 0 (ansC (a) false)) = W := ⟨_, rfl⟩
      rw [hw7] at k7 y7 r7 n7 q7 e7 C7  ⊢
      clear hw7
      obtain ⟨A12, hbA12⟩ : ∃ b, w6.heap.size = b := ⟨_, rfl⟩
      rw [hbA12] at e7 hlA12 ⊢
      clear hbA12
      go_wp2_with fail
      refine (P1 _).mono ?_
      rintro e w8 ⟨ap, cp, rfl, hop, hc8⟩
      have k8 := hkeep (hc8) k7
      have y8 := hkeep (hc8) y7
      have r8 := hkeep (hc8) r7
      have n8 := hkeep (hc8) n7
      have q8 := hkeep (hc8) q7
      have e8 := hkeep (hc8) e7
      have C8 := C7.trans (hc8)
      clear k7 y7 r7 n7 q7 e7 C7 hc8 
      go_wp2_with fail
      refine (index_own (pairsT t) 5 key a b A1 ap cp _ _ (by omega) hop y8).mono ?_
      rintro e w9 hidx
      obtain ⟨rfl, hc9⟩ := idx_not m hnk hidx
      have k9 := hkeep (hc9) k8
      have y9 := hkeep (hc9) y8
      have r9 := hkeep (hc9) r8
      have n9 := hkeep (hc9) n8
      have q9 := hkeep (hc9) q8
      have e9 := hkeep (hc9) e8
      have C9 := C8.trans (hc9)
      clear k8 y8 r8 n8 q8 e8 C8 hc9 hidx
      clear hop
      go_wp2_with fail
      go_ret
      exact ⟨rfl, C9⟩
end Go.Proofs.Hc
