/- Law 19: does the layer do anything? (printed by gen_wakes19.py) -/
import Derived.Test.YtmfajobocpaimaaGreatKHmet
import Derived.Test.YtmfajobocpaimaaGreatKHcg
import Derived.Test.YtmfajobocpaimaaGreatKHcs
import Derived.Test.YtmfajobocpaimaaGreatKHdh
import Derived.Test.YtmfajobocpaimaaGreatKHdk
import Derived.Test.YtmfajobocpaimaaGreatKHdn
import Derived.Test.YtmfajobocpaimaaGreatKHds
import Derived.Test.YtmfajobocpaimaaGreatKHdv
import Derived.Test.YtmfajobocpaimaaGreatKHm
import Derived.Test.YtmfajobocpaimaaGreatKHma
import Derived.Test.YtmfajobocpaimaaGreatKHnw
import Derived.Test.YtmfajobocpaimaaGreatKHni
import Derived.Test.YtmfajobocpaimaaGreatKHxh
import Derived.Test.YtmfajobocpaimaaGreatKHxo
import Derived.Below
import Derived.BigQuiet
import Derived.Deep.Draws
import Derived.Deep.Light
import Derived.Deep.OwnRows
import Derived.Deep.QuietTactic
import Derived.Deep.RegionHeld
import Derived.IntWalk
import Derived.Laws.CopyOwn
import Derived.Laws.CopyRow
import Derived.Laws.StructEq
import Derived.Laws.Tables
import Derived.Lib.AppendZerosOnto
import Derived.Lib.Hide
import Derived.Lib.Tables
import Derived.Lib.Walk
import Derived.LoopIn
import Derived.LoopN
import Derived.LoopNIn
import Derived.Maps.AppendAt
import Derived.Maps.Views
import Derived.OwnWalkIn
import Derived.RangeFuncBox
import Derived.RangeFuncCalls
import Derived.RangeFuncRecord
import Derived.RangeFuncSeq
import Derived.Recover
import Derived.RegionTactic
import Derived.ScopeJumps
import Derived.Shelf.Slices.Clone
import Derived.StillTail
import Derived.StillTailTactics
import Derived.TacticsInMore
import Derived.Test.YtmfajobocpaimaaGreatProg
import Derived.WalkKit
import Derived.WalkLawsBesides
import Derived.WalkMore
import Derived.WalkSpells
set_option linter.unusedSimpArgs false
set_option linter.unusedVariables false
namespace Go.Proofs.Hc
open Go.RowKit
attribute [local go_sem] wrap_u64 wrap_u8 bits_xor64 bits_and64 bits_or64 bits_not64 bits_xor8 bits_and8 bits_or8 signed64 signed8 ofInt_N BitVec.ofInt_add BitVec.ofInt_mul ofInt_sub' ofInt8_N64 ofInt64_N8 wide8 eqN neN shr_pow shr1 shr7 shr56
attribute [local go_sem high] bits_com64 shl_wrap
attribute [local go_sem] cell_heap ice_heap cellAt_cells iceAt_cells setAt_cells rowAt_cells canLay_cells laidAt_cells size_onObj size_setCell rowRes_some layRes_true
attribute [local go_sem] load26 load73 load23 store26 build73
attribute [local go_sem ↓] lrow26 lrow73 lrow23 srow26 zero26 brow73 heap_alloc heap_drew heap_drewN heap_setCell heap_onObj
attribute [local go_sem] tcells_size hcells_size tcells_get hcells_get tcells_one hcells_one hcells_table tcells_table hcells_all hcells_ctrl tcells_ctrl
attribute [local go_sem] nn2 nm2 nn3 nm3 nn4 nm4 nn5 nm5 nn6 nm6 nn7 nm7 nn8 nm8
attribute [local go_sem] nn2 nm2 nn3 nm3 nn4 nm4 nn5 nm5 nn6 nm6 nn7 nm7 nn8 nm8
attribute [local go_sem] ofInt_N ofInt_pow8
attribute [local go_sem] Oper.semAt_some make_func1
attribute [local go_sem] pen_g0 pen_g1 pen_g2 pen_g3 pen_g4 pen_g5 pen_g6 pen_g7 pen_g8 pen_g9 pen_g10 pen_g11 pen_g12 pen_g13 pen_g14 pen_g15 pen_g16 pen_g17 penC_size penC_one penC_all
attribute [local irreducible] penC
attribute [local go_sem] pen_s0 pen_s1 pen_s2 pen_s3 pen_s4 pen_s5 pen_s6 pen_s7 pen_s8 pen_s9 pen_s10 pen_s11 pen_s12 pen_s13 pen_s14 pen_s15 pen_s16 pen_s17
attribute [local go_sem] boxPen loadPen storePen buildPen0
attribute [local go_sem ↓] lrowPen srowPen wzeroPen_run browPen
attribute [local go_sem high] wlaidAt_pen
attribute [local irreducible] tcells
/-- A run, looked at by the kernel. -/
def chkR (l : List (BitVec 64)) (p : PenT) (k : Nat) (ph : Int) (l' : List (BitVec 64)) : Bool :=
  match runF 60 l p 0 with
  | none => false
  | some r => r.1 == l' && (r.2.1.ph == ph && r.2.2 == k)
theorem chk_runs {l : List (BitVec 64)} {p : PenT} {k : Nat} {ph : Int} {l' : List (BitVec 64)} (h : chkR l p k ph l' = true) : ∃ q, q.ph = ph ∧ RunsTo l p k l' q := by
  unfold chkR at h
  split at h
  · cases h
  · rename_i r hr
    simp only [Bool.and_eq_true, beq_iff_eq] at h
    obtain ⟨h1, h2, h3⟩ := h
    obtain ⟨j, hj, hrun⟩ := runF_runs _ _ _ _ _ hr
    have hjk : j = k := by omega
    subst hjk h1
    exact ⟨_, h2, hrun⟩
def lwA : List (BitVec 64) := [0, 1, 0, 0, 0, 0, 0, 0, 0, 0, 0, 0, 0, 0, 0, 0]
def lwB (n v : BitVec 64) : List (BitVec 64) := lwA ++ [n, 0, 13, 1, 9259542123273814017, 9259542123273814144, 5] ++ List.replicate 15 0 ++ [v] ++ List.replicate 17 0
def lwC : List (BitVec 64) := List.replicate 16 0 ++ [6, 0, 14, 0, 9259542123273814144, 9259542123273814144, 5] ++ List.replicate 15 0 ++ [51] ++ List.replicate 17 0
theorem wk19_1 : chkR (slab0 (bareT 0#64 0 0#64)) (firstP 0 2 5#64 50#64 0#64 1#64) 12 14 (lwB 2 50) = true := by decide +kernel
theorem wk19_2 : chkR (lwB 2 50) (firstP 0 2 5#64 51#64 0#64 1#64) 7 14 (lwB 4 51) = true := by decide +kernel
theorem wk19_3 : chkR (lwB 4 51) (firstP 0 4 5#64 9#64 8#64 1#64) 4 14 (lwB 4 51) = true := by decide +kernel
theorem wk19_4 : chkR (lwB 4 51) (firstP 0 3 5#64 0#64 0#64 1#64) 12 14 lwC = true := by decide +kernel
theorem wk19_5 : chkR (lwB 7 50) (firstP 0 3 5#64 0#64 0#64 1#64) 1 15 (lwB 7 50) = true := by decide +kernel
theorem wk19_r1 : rightP (firstP 0 2 5#64 50#64 0#64 1#64) = true := by decide +kernel
theorem wk19_r2 : rightP (firstP 0 2 5#64 51#64 0#64 1#64) = true := by decide +kernel
theorem wk19_r3 : rightP (firstP 0 4 5#64 9#64 8#64 1#64) = true := by decide +kernel
theorem wk19_r4 : rightP (firstP 0 3 5#64 0#64 0#64 1#64) = true := by decide +kernel
theorem wk19_no : rightP (firstP 128 3 0#64 0#64 0#64 1#64) = false := by decide +kernel
theorem wk_run {l l' : List (BitVec 64)} {op : Int} {k a b h : BitVec 64} {n : Nat} {ph : Int} (hc : chkR l (firstP 0 op k a b h) n ph l' = true) (hr : rightP (firstP 0 op k a b h) = true) (hl : l.length = 56) (hn : n ≤ 100) (r : Nat) (w : World) (hb : w.heap[r]? = some (.cells (wcells l) 22 (0, 0))) :
    Calls Tryz.prog 48 #[.slice (some ⟨r, 0, none⟩) 56 56, I 0, .agg (callC op k a b), U h] w fun e w' => ∃ R q, e = .returned (.tuple #[.slice (some ⟨R, 0, none⟩) 56 56, .agg (penC q), I (n : Nat), I 0]) ∧ q.ph = ph ∧ w.heap.size ≤ R ∧ w'.heap[R]? = some (.cells (wcells l') 22 (0, 0)) ∧ Ch [] w w' := by
  obtain ⟨q, hq, hrun⟩ := chk_runs hc
  have := wRun_go l l' r 56 (wcells l) 0 op k a b h w (by omega) (by omega) hb (wcells_at l) hr (by omega) q n hrun (by omega)
  rw [hl] at this
  refine this.mono ?_
  rintro e w' ⟨R, rfl, _, hR, hW, hC⟩
  exact ⟨R, q, rfl, hq, hR, hW, hC⟩
theorem loadW4 (g o : Nat) (w : World) : (loadRow 150 ⟨g, o, none⟩).run Tryz.prog w = rowRes Tryz.prog 150 g o w ((w.heap[g]?).bind (rowAt o 4)) :=
  run_row Tryz.underlying150 rfl (by kernel_rfl) g o w
theorem storeW4 (g o : Nat) (vs : Array Value) (w : World) : (storeRow 150 ⟨g, o, none⟩ (.agg vs)).run Tryz.prog w = layRes Tryz.prog 150 g o vs w (((w.heap[g]?).map (canLay o 4 vs)).getD false) :=
  run_lay (by kernel_rfl) g o vs w
theorem lrowW4 (a : Addr) : loadVar 150 a = loadRow 150 a := rfl
theorem srowW4 (a : Addr) (v : Value) : storeVar 150 a v = storeRow 150 a v := rfl
/-- Four words. -/
def c4 (a b c d : Int) : Array Value := #[.int .u64 a, .int .u64 b, .int .u64 c, .int .u64 d]
theorem c4_size (a b c d : Int) : (c4 a b c d).size = 4 := rfl
theorem c4_one (a b c d : Int) : allOne (c4 a b c d) = true := by unfold allOne c4; simp [Value.oneCell']
theorem c4_all (a b c d : Int) : (c4 a b c d).extract 0 4 = c4 a b c d := by have := Array.extract_size (xs := c4 a b c d); rwa [c4_size] at this
theorem zeroW4 (w : World) : (zeroValue 150).run Tryz.prog w = .ok (.agg (c4 0 0 0 0)) w := by kernel_rfl
theorem browW4 (ps : Array (Nat × Value)) : Instr.build 150 ps = buildRow 150 ps := rfl
theorem buildW4 (a b c d : Int) (w : World) : (buildRow 150 #[(0, .int .u64 a), (1, .int .u64 b), (2, .int .u64 c), (3, .int .u64 d)]).run Tryz.prog w = .ok (.agg (c4 a b c d)) w := by kernel_rfl
theorem laidAtW4 (a b c d x y z u : Int) (T : TypeId) (fr : Nat × Nat) : laidAt 0 (c4 a b c d) (.cells (c4 x y z u) T fr) = .cells (c4 a b c d) T fr := by
  rw [laidAt_cells, laid_whole _ _ (by rw [c4_size, c4_size])]
theorem eqlW4 (w : World) : (Op.equalIn 10000 150 (.agg (c4 5 50 2 1)) (.agg (c4 5 50 2 1))).run Tryz.prog w = .ok true w := by kernel_rfl
theorem guardW4 (op : BinOp) (x y : Operand) (xs ys : Array Value) (w : World) : (eqGuard op 150 x y (.agg xs) (.agg ys)).run Tryz.prog w = .ok () w := run_eqGuard_agg w op 150 x y xs ys (by kernel_rfl)
attribute [local go_sem] c4_size c4_one c4_all loadW4 storeW4 buildW4 eqlW4 guardW4
attribute [local go_sem ↓] lrowW4 srowW4 zeroW4 browW4
attribute [local go_sem high] laidAtW4
attribute [local irreducible] c4
theorem brow68 (ps : Array (Nat × Value)) : Instr.build 68 ps = buildRow 68 ps := rfl
theorem build68_3 (a b c : Int) (w : World) : (buildRow 68 #[(0, .int .i64 a), (1, .int .u64 b), (2, .int .u64 c)]).run Tryz.prog w = .ok (.agg #[.int .i64 a, .int .u64 b, .int .u64 c, .int .u64 0]) w := by kernel_rfl
theorem build68_4 (a b c d : Int) (w : World) : (buildRow 68 #[(0, .int .i64 a), (1, .int .u64 b), (2, .int .u64 c), (3, .int .u64 d)]).run Tryz.prog w = .ok (.agg #[.int .i64 a, .int .u64 b, .int .u64 c, .int .u64 d]) w := by kernel_rfl
theorem build68_2 (a b : Int) (w : World) : (buildRow 68 #[(0, .int .i64 a), (1, .int .u64 b)]).run Tryz.prog w = .ok (.agg #[.int .i64 a, .int .u64 b, .int .u64 0, .int .u64 0]) w := by kernel_rfl
theorem build68_1 (a : Int) (w : World) : (buildRow 68 #[(0, .int .i64 a)]).run Tryz.prog w = .ok (.agg #[.int .i64 a, .int .u64 0, .int .u64 0, .int .u64 0]) w := by kernel_rfl
attribute [local go_sem] build68_1 build68_2 build68_3 build68_4
attribute [local go_sem ↓] brow68
/-- A pen that was stored into a variable of its own. -/
theorem pen_put (q : PenT) (w : World) : (World.onObj (w.alloc (.cells (penC zeroPen) 71)) w.heap.size (laidAt 0 (penC q))).heap[w.heap.size]? = some (.cells (penC q) 71 (0, 0)) := by
  rw [heap_onObj, if_pos rfl, heap_alloc, if_pos rfl, Option.map_some, wlaidAt_pen]
theorem pen_put_ch (q : PenT) (w : World) : Ch [] w (World.onObj (w.alloc (.cells (penC zeroPen) 71)) w.heap.size (laidAt 0 (penC q))) := ((Ch.refl [] w).alloc _).onObj (.inr (Nat.le_refl _)) _
theorem onObj_other {w : World} {F b : Nat} (f : Obj → Obj) (h : ¬ b = F) : (World.onObj w F f).heap[b]? = w.heap[b]? := by rw [heap_onObj, if_neg h]
theorem setCell_other {w : World} {b : Nat} (p o : Nat) (v : Value) (h : b ≠ p) : (w.setCell ⟨p, o, none⟩ v).heap[b]? = w.heap[b]? := by rw [heap_setCell, if_neg h]
theorem blk_lt19 {w : World} {b : Nat} {o : Obj} (h : w.heap[b]? = some o) : b < w.heap.size := (Array.getElem?_eq_some_iff.1 h).1
set_option maxHeartbeats 4000000 in
set_option maxRecDepth 100000 in
theorem wakes19_any (w : World) : Calls Tryz.prog 41 #[] w fun e w' => e = .returned (.bool true) ∧ Ch [] w w' := by
  have N1 : ∀ w, Calls Tryz.prog 39 #[.int .u64 0, .int .i64 0, .int .u64 0] w fun e w' => e = .returned (.agg (tcells (bareT 0#64 0 0#64))) ∧ Ch [] w w' := fun w => rNew_any 0#64 0 0#64 w
  have L1 := fun w => laid0_any (bareT 0#64 0 0#64) w
  have R1 := fun r w h => wk_run wk19_1 wk19_r1 rfl (by omega) r w h
  have R2 := fun r w h => wk_run wk19_2 wk19_r2 rfl (by omega) r w h
  have R3 := fun r w h => wk_run wk19_3 wk19_r3 rfl (by omega) r w h
  have R4 := fun r w h => wk_run wk19_4 wk19_r4 rfl (by omega) r w h
  have R5 := fun r w h => wk_run wk19_5 wk19_r4 rfl (by omega) r w h
  have hset : (wcells (lwB 2 50)).setIfInBounds 16 (.int .u64 7) = wcells (lwB 7 50) := by
    have := wcells_set (lwB 2 50) 16 7#64
    exact this
  have h22 : (wcells (lwB 2 50))[22]? = some (.int .u64 5) := rfl
  have h38 : (wcells (lwB 2 50))[38]? = some (.int .u64 50) := rfl
  have h16 : (wcells (lwB 2 50))[16]? = some (.int .u64 2) := rfl
  have h1 : (wcells (lwB 2 50))[1]? = some (.int .u64 1) := rfl
  obtain ⟨T0, hT0⟩ : ∃ T, tcells (bareT 0#64 0 0#64) = T := ⟨_, rfl⟩
  rw [hT0] at N1 L1
  obtain ⟨k0, hk0⟩ : ∃ k, wcells (slab0 (bareT 0#64 0 0#64)) = k := ⟨_, rfl⟩
  rw [hk0] at L1 R1
  obtain ⟨k1, hk1⟩ : ∃ k, wcells (lwB 2 50) = k := ⟨_, rfl⟩
  rw [hk1] at R1 R2 hset h22 h38 h16 h1
  obtain ⟨k2, hk2⟩ : ∃ k, wcells (lwB 4 51) = k := ⟨_, rfl⟩
  rw [hk2] at R2 R3 R4
  obtain ⟨k4, hk4⟩ : ∃ k, wcells lwC = k := ⟨_, rfl⟩
  rw [hk4] at R4
  obtain ⟨k5, hk5⟩ : ∃ k, wcells (lwB 7 50) = k := ⟨_, rfl⟩
  rw [hk5] at R5 hset
  have B1 : ∀ w, Calls Tryz.prog 55 #[.int .i64 128, .agg #[.int .i64 3, .int .u64 0, .int .u64 0, .int .u64 0], .int .u64 1] w fun e w' => e = .returned (.tuple #[.agg (penC zeroPen), I 2]) ∧ Ch [] w w' := fun w => by
    have := wBegin_any 128 3 0#64 0#64 0#64 1#64 _ rfl w
    rw [show rightP ⟨0, 128, 3, 0#64, 0#64, 0#64, 1#64, 0#64, 0#64, 0#64, 0, 0#64, 0#8, 0, 0#64, 0, 0#64, false⟩ = false from wk19_no, if_neg (by decide)] at this
    exact this
  clear hT0 hk0 hk1 hk2 hk4 hk5
  go_enter Tryz.func41, Tryz.ntmps41
  go_wp2_with fail
  refine (N1 _).mono ?_
  rintro e w1 ⟨rfl, C1⟩
  go_wp2_with fail
  refine (L1 _).mono ?_
  rintro e w2 ⟨R0, rfl, -, a2, hc2⟩
  have C2 := C1.trans hc2
  clear C1 hc2 N1 L1
  go_wp2_with fail
  refine (R1 _ _ a2).mono ?_
  rintro e w3 ⟨Ra, q1, rfl, hq1, hR1, hW1, hc3⟩
  have a3 := hkeep (hc3) a2
  have C3 := C2.trans (hc3)
  have c3 := hW1
  have hB1 := Nat.le_trans C2.size hR1
  clear hR1 hW1
  clear a2 C2 hc3
  have na : ¬ R0 = w3.heap.size := by have := blk_lt19 a3; omega
  have nc : ¬ Ra = w3.heap.size := by have := blk_lt19 c3; omega
  go_wp2_with fail
  clear na nc
  have a4 := hkeep (pen_put_ch q1 w3) a3
  have c4 := hkeep (pen_put_ch q1 w3) c3
  have C4 := C3.trans (pen_put_ch q1 w3)
  have p4 := pen_put q1 w3
  clear a3 c3 C3 
  obtain ⟨w4, hw4⟩ : ∃ W, World.onObj (w3.alloc (.cells (penC zeroPen) 71)) w3.heap.size (laidAt 0 (penC q1)) = W := ⟨_, rfl⟩
  rw [hw4] at a4 c4 p4 C4 ⊢
  clear hw4
  obtain ⟨A1, hbA1⟩ : ∃ b, w3.heap.size = b := ⟨_, rfl⟩
  rw [hbA1] at p4 ⊢
  clear hbA1
  clear a4
  go_wp2_with fail
  have s7 : (fun W' : World => W'.heap[Ra]? = some (.cells k1 22 (0, 0))) w4.drew := c4
  have c5 : w4.drew.heap[Ra]? = _ := c4
  have p5 : w4.drew.heap[A1]? = _ := p4
  have C5 : Ch [] w w4.drew := C4.drew
  clear c4 p4 C4 
  refine wp_region_held_drew (S := fun W' => W'.heap[Ra]? = some (.cells k1 22 (0, 0))) (by kernel_rfl) s7 ?_
  intro _
  simp only [List.size_toArray, List.length_cons, List.length_nil, Nat.reduceAdd]
  obtain ⟨w5, hw5⟩ : ∃ W, w4.drew = W := ⟨_, rfl⟩
  rw [hw5] at s7 c5 p5 C5 ⊢
  clear hw5
  refine wpAnyH_take (i := 0) (oi := ⟨some 37, _, _, _, _, none⟩) (v := ?_) rfl (by kernel_rfl) (by kernel_rfl) (by kernel_rfl) (fun _ _ _ h => h) (Or.inl ⟨by rfl, ?_⟩) s7 ?_
  rotate_left
  · intro wq hSq
    first | (go_simp; done) | (go_simp; with_reducible rfl)
  try simp only [Act.put, List.setIfInBounds_toArray, List.set_cons_zero, List.set_cons_succ]
  refine wpAnyH_take (i := 1) (oi := ⟨some 38, _, _, _, _, none⟩) (v := ?_) rfl (by kernel_rfl) (by kernel_rfl) (by kernel_rfl) (fun _ _ _ h => h) (Or.inl ⟨by rfl, ?_⟩) s7 ?_
  rotate_left
  · intro wq hSq
    first | (go_simp; done) | (go_simp; with_reducible rfl)
  try simp only [Act.put, List.setIfInBounds_toArray, List.set_cons_zero, List.set_cons_succ]
  refine wpAnyH_take (i := 2) (oi := ⟨some 39, _, _, _, _, none⟩) (v := ?_) rfl (by kernel_rfl) (by kernel_rfl) (by kernel_rfl) (fun _ _ _ h => h) (Or.inl ⟨by rfl, ?_⟩) s7 ?_
  rotate_left
  · intro wq hSq
    first | (go_simp; done) | (go_simp; with_reducible rfl)
  try simp only [Act.put, List.setIfInBounds_toArray, List.set_cons_zero, List.set_cons_succ]
  refine wpAnyH_take (i := 3) (oi := ⟨some 40, _, _, _, _, none⟩) (v := ?_) rfl (by kernel_rfl) (by kernel_rfl) (by kernel_rfl) (fun _ _ _ h => h) (Or.inl ⟨by rfl, ?_⟩) s7 ?_
  rotate_left
  · intro wq hSq
    first | (go_simp; done) | (go_simp; with_reducible rfl)
  try simp only [Act.put, List.setIfInBounds_toArray, List.set_cons_zero, List.set_cons_succ]
  refine wpAnyH_take (i := 4) (oi := ⟨some 41, _, _, _, _, none⟩) (v := ?_) rfl (by kernel_rfl) (by kernel_rfl) (by kernel_rfl) (fun _ _ _ h => h) (Or.inl ⟨by rfl, ?_⟩) s7 ?_
  rotate_left
  · intro wq hSq
    first | (go_simp; done) | (go_simp; with_reducible rfl)
  try simp only [Act.put, List.setIfInBounds_toArray, List.set_cons_zero, List.set_cons_succ]
  refine wpAnyH_take (i := 5) (oi := ⟨some 42, _, _, _, _, none⟩) (v := ?_) rfl (by kernel_rfl) (by kernel_rfl) (by kernel_rfl) (fun _ _ _ h => h) (Or.inl ⟨by rfl, ?_⟩) s7 ?_
  rotate_left
  · intro wq hSq
    first | (go_simp; done) | (go_simp; with_reducible rfl)
  try simp only [Act.put, List.setIfInBounds_toArray, List.set_cons_zero, List.set_cons_succ]
  refine wpAnyH_take (i := 6) (oi := ⟨some 43, _, _, _, _, none⟩) (v := ?_) rfl (by kernel_rfl) (by kernel_rfl) (by kernel_rfl) (fun _ _ _ h => h) (Or.inl ⟨by rfl, ?_⟩) s7 ?_
  rotate_left
  · intro wq hSq
    first | (go_simp; done) | (go_simp; with_reducible rfl)
  try simp only [Act.put, List.setIfInBounds_toArray, List.set_cons_zero, List.set_cons_succ]
  refine wpAnyH_take (i := 7) (oi := ⟨some 44, _, _, _, _, none⟩) (v := ?_) rfl (by kernel_rfl) (by kernel_rfl) (by kernel_rfl) (fun _ _ _ h => h) (Or.inl ⟨by rfl, ?_⟩) s7 ?_
  rotate_left
  · intro wq hSq
    first | (go_simp; done) | (go_simp; with_reducible rfl)
  try simp only [Act.put, List.setIfInBounds_toArray, List.set_cons_zero, List.set_cons_succ]
  refine wpAnyH_take (i := 8) (oi := ⟨some 45, _, _, _, _, none⟩) (v := ?_) rfl (by kernel_rfl) (by kernel_rfl) (by kernel_rfl) (fun _ _ _ h => h) (Or.inl ⟨by rfl, ?_⟩) s7 ?_
  rotate_left
  · intro wq hSq
    first | (go_simp; done) | (go_simp; with_reducible rfl)
  try simp only [Act.put, List.setIfInBounds_toArray, List.set_cons_zero, List.set_cons_succ]
  refine wpAnyH_take (i := 9) (oi := ⟨some 46, _, _, _, _, none⟩) (v := ?_) rfl (by kernel_rfl) (by kernel_rfl) (by kernel_rfl) (fun _ _ _ h => h) (Or.inl ⟨by rfl, ?_⟩) s7 ?_
  rotate_left
  · intro wq hSq
    first | (go_simp; done) | (go_simp; with_reducible rfl)
  try simp only [Act.put, List.setIfInBounds_toArray, List.set_cons_zero, List.set_cons_succ]
  refine wpAnyH_take (i := 10) (oi := ⟨some 47, _, _, _, _, none⟩) (v := ?_) rfl (by kernel_rfl) (by kernel_rfl) (by kernel_rfl) (fun _ _ _ h => h) (Or.inl ⟨by rfl, ?_⟩) s7 ?_
  rotate_left
  · intro wq hSq
    first | (go_simp; done) | (go_simp; with_reducible rfl)
  try simp only [Act.put, List.setIfInBounds_toArray, List.set_cons_zero, List.set_cons_succ]
  refine wpAnyH_take (i := 11) (oi := ⟨some 48, _, _, _, _, none⟩) (v := ?_) rfl (by kernel_rfl) (by kernel_rfl) (by kernel_rfl) (fun _ _ _ h => h) (Or.inl ⟨by rfl, ?_⟩) s7 ?_
  rotate_left
  · intro wq hSq
    first | (go_simp; done) | (go_simp; with_reducible rfl)
  try simp only [Act.put, List.setIfInBounds_toArray, List.set_cons_zero, List.set_cons_succ]
  refine wpAnyH_take (i := 12) (oi := ⟨some 49, _, _, _, _, none⟩) (v := ?_) rfl (by kernel_rfl) (by kernel_rfl) (by kernel_rfl) (fun _ _ _ h => h) (Or.inl ⟨by rfl, ?_⟩) s7 ?_
  rotate_left
  · intro wq hSq
    first | (go_simp; done) | (go_simp; with_reducible rfl)
  try simp only [Act.put, List.setIfInBounds_toArray, List.set_cons_zero, List.set_cons_succ]
  refine wpAnyH_ready (rs := [13]) (by kernel_rfl) (by simp) ?_
  refine AllReadyH.cons (o := ⟨some 5, _, _, _, _, none⟩) rfl (fun K hK => ?_) AllReadyH.nil
  go_simp
  have nc : ¬ Ra = w5.heap.size := by have := blk_lt19 c5; omega
  have np : ¬ A1 = w5.heap.size := by have := blk_lt19 p5; omega
  have hFw := C5.size
  have c6 := hkeep ((Ch.refl [] w5).alloc (.cells (c4 0 0 0 0) 150)) c5
  have p6 := hkeep ((Ch.refl [] w5).alloc (.cells (c4 0 0 0 0) 150)) p5
  have C6 := C5.trans ((Ch.refl [] w5).alloc (.cells (c4 0 0 0 0) 150))
  have f6 : (w5.alloc (.cells (c4 0 0 0 0) 150)).heap[w5.heap.size]? = some (.cells (c4 0 0 0 0) 150 (0, 0)) := by rw [heap_alloc, if_pos rfl]
  have s6 : (w5.alloc (.cells (c4 0 0 0 0) 150)).heap[Ra]? = some (.cells k1 22 (0, 0)) := c6
  refine hK.out _ _ s6 (fun _ => ?_)
  clear hK K
  clear c5 p5 C5 
  obtain ⟨w6, hw6⟩ : ∃ W, (w5.alloc (.cells (c4 0 0 0 0) 150)) = W := ⟨_, rfl⟩
  rw [hw6] at s6 f6 c6 p6 C6 ⊢
  clear hw6
  obtain ⟨F, hF⟩ : ∃ b, w5.heap.size = b := ⟨_, rfl⟩
  rw [hF] at f6 nc np hFw ⊢
  clear hF
  refine wpAnyH_ready (rs := [14]) (by kernel_rfl) (by simp) ?_
  refine AllReadyH.cons rfl (fun K hK => ?_) AllReadyH.nil
  go_simp
  have c7 := (onObj_other (laidAt 0 (c4 5 50 2 1)) nc).trans c6
  have p7 := (onObj_other (laidAt 0 (c4 5 50 2 1)) np).trans p6
  have f7 : (World.onObj w6 F (laidAt 0 (c4 5 50 2 1))).heap[F]? = some (.cells (c4 5 50 2 1) 150 (0, 0)) := by rw [heap_onObj, if_pos rfl, f6, Option.map_some, laidAtW4]
  have C7 : Ch [] w (World.onObj w6 F (laidAt 0 (c4 5 50 2 1))) := C6.onObj (.inr hFw) _
  have s7 : (World.onObj w6 F (laidAt 0 (c4 5 50 2 1))).heap[Ra]? = some (.cells k1 22 (0, 0)) := c7
  refine hK.out _ _ s7 (fun _ => ?_)
  clear hK K s6 f6
  clear c6 p6 C6 nc np
  obtain ⟨w7, hw7⟩ : ∃ W, (World.onObj w6 F (laidAt 0 (c4 5 50 2 1))) = W := ⟨_, rfl⟩
  rw [hw7] at s7 f7 c7 p7 C7 ⊢
  clear hw7
  refine wpAnyH_done (by kernel_rfl) ?_ _
  go_wp2_with fail
  refine (R2 _ _ c7).mono ?_
  rintro e w8 ⟨Rd, q2, rfl, hq2, hR2, hW2, hc8⟩
  have c8 := hkeep (hc8) c7
  have p8 := hkeep (hc8) p7
  have f8 := hkeep (hc8) f7
  have C8 := C7.trans (hc8)
  have d8 := hW2
  have hB2 := Nat.le_trans C7.size hR2
  clear hR2 hW2
  clear c7 p7 f7 C7 hc8
  have nc : ¬ Ra = w8.heap.size := by have := blk_lt19 c8; omega
  have np : ¬ A1 = w8.heap.size := by have := blk_lt19 p8; omega
  have nf : ¬ F = w8.heap.size := by have := blk_lt19 f8; omega
  have nd : ¬ Rd = w8.heap.size := by have := blk_lt19 d8; omega
  go_wp2_with fail
  clear nc np nf nd
  have c9 := hkeep (pen_put_ch q2 w8) c8
  have p9 := hkeep (pen_put_ch q2 w8) p8
  have f9 := hkeep (pen_put_ch q2 w8) f8
  have d9 := hkeep (pen_put_ch q2 w8) d8
  have C9 := C8.trans (pen_put_ch q2 w8)
  have r9 := pen_put q2 w8
  clear c8 p8 f8 d8 C8 
  obtain ⟨w9, hw9⟩ : ∃ W, World.onObj (w8.alloc (.cells (penC zeroPen) 71)) w8.heap.size (laidAt 0 (penC q2)) = W := ⟨_, rfl⟩
  rw [hw9] at c9 p9 f9 d9 r9 C9 ⊢
  clear hw9
  obtain ⟨A2, hbA2⟩ : ∃ b, w8.heap.size = b := ⟨_, rfl⟩
  rw [hbA2] at r9 ⊢
  clear hbA2
  go_wp2_with fail
  refine (R3 _ _ d9).mono ?_
  rintro e w10 ⟨Re, q3, rfl, hq3, hR3, hW3, hc10⟩
  have c10 := hkeep (hc10) c9
  have p10 := hkeep (hc10) p9
  have f10 := hkeep (hc10) f9
  have d10 := hkeep (hc10) d9
  have r10 := hkeep (hc10) r9
  have C10 := C9.trans (hc10)
  clear hR3 hW3
  clear c9 p9 f9 d9 r9 C9 hc10
  have nc : ¬ Ra = w10.heap.size := by have := blk_lt19 c10; omega
  have np : ¬ A1 = w10.heap.size := by have := blk_lt19 p10; omega
  have nf : ¬ F = w10.heap.size := by have := blk_lt19 f10; omega
  have nd : ¬ Rd = w10.heap.size := by have := blk_lt19 d10; omega
  have nr : ¬ A2 = w10.heap.size := by have := blk_lt19 r10; omega
  go_wp2_with fail
  clear nc np nf nd nr
  have c11 := hkeep (pen_put_ch q3 w10) c10
  have p11 := hkeep (pen_put_ch q3 w10) p10
  have f11 := hkeep (pen_put_ch q3 w10) f10
  have d11 := hkeep (pen_put_ch q3 w10) d10
  have r11 := hkeep (pen_put_ch q3 w10) r10
  have C11 := C10.trans (pen_put_ch q3 w10)
  have t11 := pen_put q3 w10
  clear c10 p10 f10 d10 r10 C10 
  obtain ⟨w11, hw11⟩ : ∃ W, World.onObj (w10.alloc (.cells (penC zeroPen) 71)) w10.heap.size (laidAt 0 (penC q3)) = W := ⟨_, rfl⟩
  rw [hw11] at c11 p11 f11 d11 r11 t11 C11 ⊢
  clear hw11
  obtain ⟨A3, hbA3⟩ : ∃ b, w10.heap.size = b := ⟨_, rfl⟩
  rw [hbA3] at t11 ⊢
  clear hbA3
  go_wp2_with fail
  refine (R4 _ _ d11).mono ?_
  rintro e w12 ⟨Rg, q4, rfl, hq4, hR4, hW4, hc12⟩
  have c12 := hkeep (hc12) c11
  have p12 := hkeep (hc12) p11
  have f12 := hkeep (hc12) f11
  have d12 := hkeep (hc12) d11
  have r12 := hkeep (hc12) r11
  have t12 := hkeep (hc12) t11
  have C12 := C11.trans (hc12)
  clear hR4 hW4
  clear c11 p11 f11 d11 r11 t11 C11 hc12
  have nc : ¬ Ra = w12.heap.size := by have := blk_lt19 c12; omega
  have np : ¬ A1 = w12.heap.size := by have := blk_lt19 p12; omega
  have nf : ¬ F = w12.heap.size := by have := blk_lt19 f12; omega
  have nd : ¬ Rd = w12.heap.size := by have := blk_lt19 d12; omega
  have nr : ¬ A2 = w12.heap.size := by have := blk_lt19 r12; omega
  have nt : ¬ A3 = w12.heap.size := by have := blk_lt19 t12; omega
  go_wp2_with fail
  clear nc np nf nd nr nt
  have c13 := hkeep (pen_put_ch q4 w12) c12
  have p13 := hkeep (pen_put_ch q4 w12) p12
  have f13 := hkeep (pen_put_ch q4 w12) f12
  have d13 := hkeep (pen_put_ch q4 w12) d12
  have r13 := hkeep (pen_put_ch q4 w12) r12
  have t13 := hkeep (pen_put_ch q4 w12) t12
  have C13 := C12.trans (pen_put_ch q4 w12)
  have u13 := pen_put q4 w12
  clear c12 p12 f12 d12 r12 t12 C12 
  obtain ⟨w13, hw13⟩ : ∃ W, World.onObj (w12.alloc (.cells (penC zeroPen) 71)) w12.heap.size (laidAt 0 (penC q4)) = W := ⟨_, rfl⟩
  rw [hw13] at c13 p13 f13 d13 r13 t13 u13 C13 ⊢
  clear hw13
  obtain ⟨A4, hbA4⟩ : ∃ b, w12.heap.size = b := ⟨_, rfl⟩
  rw [hbA4] at u13 ⊢
  clear hbA4
  clear d13
  go_wp2_with fail
  have c14 : (w13.setCell ⟨Ra, 16, none⟩ (.int .u64 7)).heap[Ra]? = some (.cells k5 22 (0, 0)) := by simp [go_sem, c13, hset]
  have p14 := (setCell_other Ra 16 (.int .u64 7) (block_ne p13 c13 (by decide))).trans p13
  have f14 := (setCell_other Ra 16 (.int .u64 7) (block_ne f13 c13 (by decide))).trans f13
  have r14 := (setCell_other Ra 16 (.int .u64 7) (block_ne r13 c13 (by decide))).trans r13
  have t14 := (setCell_other Ra 16 (.int .u64 7) (block_ne t13 c13 (by decide))).trans t13
  have u14 := (setCell_other Ra 16 (.int .u64 7) (block_ne u13 c13 (by decide))).trans u13
  have C14 : Ch [] w (w13.setCell ⟨Ra, 16, none⟩ (.int .u64 7)) := C13.setCell (p := ⟨Ra, 16, none⟩) (.inr hB1) _
  clear c13 p13 f13 r13 t13 u13 C13 
  obtain ⟨w14, hw14⟩ : ∃ W, (w13.setCell ⟨Ra, 16, none⟩ (.int .u64 7)) = W := ⟨_, rfl⟩
  rw [hw14] at c14 p14 f14 r14 t14 u14 C14 ⊢
  clear hw14
  go_wp2_with fail
  refine (R5 _ _ c14).mono ?_
  rintro e w15 ⟨Rh, q5, rfl, hq5, hR5, hW5, hc15⟩
  have c15 := hkeep (hc15) c14
  have p15 := hkeep (hc15) p14
  have f15 := hkeep (hc15) f14
  have r15 := hkeep (hc15) r14
  have t15 := hkeep (hc15) t14
  have u15 := hkeep (hc15) u14
  have C15 := C14.trans (hc15)
  clear hR5 hW5
  clear c14 p14 f14 r14 t14 u14 C14 hc15
  have nc : ¬ Ra = w15.heap.size := by have := blk_lt19 c15; omega
  have np : ¬ A1 = w15.heap.size := by have := blk_lt19 p15; omega
  have nf : ¬ F = w15.heap.size := by have := blk_lt19 f15; omega
  have nr : ¬ A2 = w15.heap.size := by have := blk_lt19 r15; omega
  have nt : ¬ A3 = w15.heap.size := by have := blk_lt19 t15; omega
  have nu : ¬ A4 = w15.heap.size := by have := blk_lt19 u15; omega
  go_wp2_with fail
  clear nc np nf nr nt nu
  have c16 := hkeep (pen_put_ch q5 w15) c15
  have p16 := hkeep (pen_put_ch q5 w15) p15
  have f16 := hkeep (pen_put_ch q5 w15) f15
  have r16 := hkeep (pen_put_ch q5 w15) r15
  have t16 := hkeep (pen_put_ch q5 w15) t15
  have u16 := hkeep (pen_put_ch q5 w15) u15
  have C16 := C15.trans (pen_put_ch q5 w15)
  have v16 := pen_put q5 w15
  clear c15 p15 f15 r15 t15 u15 C15 
  obtain ⟨w16, hw16⟩ : ∃ W, World.onObj (w15.alloc (.cells (penC zeroPen) 71)) w15.heap.size (laidAt 0 (penC q5)) = W := ⟨_, rfl⟩
  rw [hw16] at c16 p16 f16 r16 t16 u16 v16 C16 ⊢
  clear hw16
  obtain ⟨A5, hbA5⟩ : ∃ b, w15.heap.size = b := ⟨_, rfl⟩
  rw [hbA5] at v16 ⊢
  clear hbA5
  go_wp2_with fail
  refine (B1 _).mono ?_
  rintro e w17 ⟨rfl, hc17⟩
  have c17 := hkeep (hc17) c16
  have p17 := hkeep (hc17) p16
  have f17 := hkeep (hc17) f16
  have r17 := hkeep (hc17) r16
  have t17 := hkeep (hc17) t16
  have u17 := hkeep (hc17) u16
  have v17 := hkeep (hc17) v16
  have C17 := C16.trans (hc17)
  clear c16 p16 f16 r16 t16 u16 v16 C16 hc17
  have nc : ¬ Ra = w17.heap.size := by have := blk_lt19 c17; omega
  have np : ¬ A1 = w17.heap.size := by have := blk_lt19 p17; omega
  have nf : ¬ F = w17.heap.size := by have := blk_lt19 f17; omega
  have nr : ¬ A2 = w17.heap.size := by have := blk_lt19 r17; omega
  have nt : ¬ A3 = w17.heap.size := by have := blk_lt19 t17; omega
  have nu : ¬ A4 = w17.heap.size := by have := blk_lt19 u17; omega
  have nv : ¬ A5 = w17.heap.size := by have := blk_lt19 v17; omega
  go_wp2_with fail
  clear nc np nf nr nt nu nv
  have c18 := hkeep (pen_put_ch zeroPen w17) c17
  have p18 := hkeep (pen_put_ch zeroPen w17) p17
  have f18 := hkeep (pen_put_ch zeroPen w17) f17
  have r18 := hkeep (pen_put_ch zeroPen w17) r17
  have t18 := hkeep (pen_put_ch zeroPen w17) t17
  have u18 := hkeep (pen_put_ch zeroPen w17) u17
  have v18 := hkeep (pen_put_ch zeroPen w17) v17
  have C18 := C17.trans (pen_put_ch zeroPen w17)
  have z18 := pen_put zeroPen w17
  clear c17 p17 f17 r17 t17 u17 v17 C17 
  obtain ⟨w18, hw18⟩ : ∃ W, World.onObj (w17.alloc (.cells (penC zeroPen) 71)) w17.heap.size (laidAt 0 (penC zeroPen)) = W := ⟨_, rfl⟩
  rw [hw18] at c18 p18 f18 r18 t18 u18 v18 z18 C18 ⊢
  clear hw18
  obtain ⟨A6, hbA6⟩ : ∃ b, w17.heap.size = b := ⟨_, rfl⟩
  rw [hbA6] at z18 ⊢
  clear hbA6
  go_wp2
  go_ret
  exact ⟨rfl, C18⟩
end Go.Proofs.Hc
