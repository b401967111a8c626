/- Package write: Run. -/
import Derived.Test.YtmfajobocpaimaaGreatKHmet
import Derived.Test.YtmfajobocpaimaaGreatKHcc
import Derived.Test.YtmfajobocpaimaaGreatKHcg
import Derived.Test.YtmfajobocpaimaaGreatKHci
import Derived.Test.YtmfajobocpaimaaGreatKHcs
import Derived.Test.YtmfajobocpaimaaGreatKHdh
import Derived.Test.YtmfajobocpaimaaGreatKHdv
import Derived.Test.YtmfajobocpaimaaGreatKHm
import Derived.Test.YtmfajobocpaimaaGreatKHma
import Derived.Test.YtmfajobocpaimaaGreatKHnl
import Derived.Test.YtmfajobocpaimaaGreatKHns
import Derived.Test.YtmfajobocpaimaaGreatKHnw
import Derived.Test.YtmfajobocpaimaaGreatKHye
import Derived.Test.YtmfajobocpaimaaGreatKHni
import Derived.Test.YtmfajobocpaimaaGreatKHxh
import Derived.Below
import Derived.BigQuiet
import Derived.Deep.Draws
import Derived.Deep.Light
import Derived.Deep.OwnRows
import Derived.Deep.QuietTactic
import Derived.Deep.RegionHeld
import Derived.IntWalk
import Derived.Laws.CopyOwn
import Derived.Laws.CopyRow
import Derived.Laws.StructEq
import Derived.Laws.Tables
import Derived.Lib.AppendZerosOnto
import Derived.Lib.Hide
import Derived.Lib.Tables
import Derived.Lib.Walk
import Derived.LoopIn
import Derived.LoopN
import Derived.LoopNIn
import Derived.Maps.AppendAt
import Derived.Maps.Views
import Derived.OwnWalkIn
import Derived.RangeFuncBox
import Derived.RangeFuncCalls
import Derived.RangeFuncRecord
import Derived.RangeFuncSeq
import Derived.Recover
import Derived.RegionTactic
import Derived.ScopeJumps
import Derived.Shelf.Slices.Clone
import Derived.StillTail
import Derived.StillTailTactics
import Derived.TacticsInMore
import Derived.Test.YtmfajobocpaimaaGreatProg
import Derived.WalkKit
import Derived.WalkLawsBesides
import Derived.WalkMore
import Derived.WalkSpells
set_option linter.unusedSimpArgs false
set_option linter.unusedVariables false
namespace Go.Proofs.Hc
open Go.RowKit
attribute [local go_sem] wrap_u64 wrap_u8 bits_xor64 bits_and64 bits_or64 bits_not64 bits_xor8 bits_and8 bits_or8 signed64 signed8 ofInt_N BitVec.ofInt_add BitVec.ofInt_mul ofInt_sub' ofInt8_N64 ofInt64_N8 wide8 eqN neN shr_pow shr1 shr7 shr56
attribute [local go_sem high] bits_com64 shl_wrap
attribute [local go_sem] cell_heap ice_heap cellAt_cells iceAt_cells setAt_cells rowAt_cells canLay_cells laidAt_cells size_onObj size_setCell rowRes_some layRes_true
attribute [local go_sem] load26 load73 load23 store26 build73
attribute [local go_sem ↓] lrow26 lrow73 lrow23 srow26 zero26 brow73 heap_alloc heap_drew heap_drewN heap_setCell heap_onObj
attribute [local go_sem] tcells_size hcells_size tcells_get hcells_get tcells_one hcells_one hcells_table tcells_table hcells_all hcells_ctrl tcells_ctrl
attribute [local go_sem] nn2 nm2 nn3 nm3 nn4 nm4 nn5 nm5 nn6 nm6 nn7 nm7 nn8 nm8
attribute [local go_sem] nn2 nm2 nn3 nm3 nn4 nm4 nn5 nm5 nn6 nm6 nn7 nm7 nn8 nm8
attribute [local go_sem] ofInt_N ofInt_pow8
attribute [local go_sem] Oper.semAt_some make_func1
attribute [local go_sem] pen_g0 pen_g1 pen_g2 pen_g3 pen_g4 pen_g5 pen_g6 pen_g7 pen_g8 pen_g9 pen_g10 pen_g11 pen_g12 pen_g13 pen_g14 pen_g15 pen_g16 pen_g17 penC_size penC_one penC_all
attribute [local irreducible] penC
attribute [local go_sem] pen_s0 pen_s1 pen_s2 pen_s3 pen_s4 pen_s5 pen_s6 pen_s7 pen_s8 pen_s9 pen_s10 pen_s11 pen_s12 pen_s13 pen_s14 pen_s15 pen_s16 pen_s17
attribute [local go_sem] acc_g0 acc_g1 acc_g2 acc_g4 acc_s0 acc_s1 acc_s2 acc_s4 accC_size accC_one accC_all loadAcc storeAcc bacc0 bacc2 bacc3 bacc3u bacc4
attribute [local go_sem ↓] lrowAcc srowAcc browAcc zeroAcc_run
attribute [local go_sem high] laidAt_acc
attribute [local irreducible] accC
attribute [local go_sem] boxPen loadPen storePen buildPen0
attribute [local go_sem ↓] lrowPen srowPen wzeroPen_run browPen
attribute [local go_sem high] wlaidAt_pen
/-- A call's cells. -/
def callC (op : Int) (k a b : BitVec 64) : Array Value := #[I op, U k, U a, U b]
theorem callC_size (op : Int) (k a b : BitVec 64) : (callC op k a b).size = 4 := rfl
theorem callC_one (op : Int) (k a b : BitVec 64) : allOne (callC op k a b) = true := by unfold allOne callC; simp [Value.oneCell']
theorem callC_all (op : Int) (k a b : BitVec 64) : (callC op k a b).extract 0 4 = callC op k a b := by have := Array.extract_size (xs := callC op k a b); rwa [callC_size] at this
theorem boxCall (op : Int) (k a b : BitVec 64) (w : World) : (Instr.box 68 (.agg (callC op k a b))).run Tryz.prog w = .ok (.pointer (some ⟨w.heap.size, 0, none⟩)) (w.alloc (.cells (callC op k a b) 68)) := rfl
theorem loadCall (g o : Nat) (w : World) : (loadRow 68 ⟨g, o, none⟩).run Tryz.prog w = rowRes Tryz.prog 68 g o w ((w.heap[g]?).bind (rowAt o 4)) :=
  run_row Tryz.underlying68 rfl (by kernel_rfl) g o w
theorem lrowCall (a : Addr) : loadVar 68 a = loadRow 68 a := rfl
attribute [local go_sem] callC_size callC_one callC_all boxCall loadCall
attribute [local go_sem ↓] lrowCall
attribute [local irreducible] callC
/-- What Run answers where it makes no access. -/
theorem run_results {fn : Func} {p q u v : Tmp} (h : fn.results = #[.tmp p, .cell q 71, .tmp u, .tmp v]) (tmps : Array Value) (b : Nat) (w : World) (d : PenT) (x y z : Value) (hp : tmps.getD p undef = x) (hq : tmps.getD q undef = .pointer (some ⟨b, 0, none⟩)) (hu : tmps.getD u undef = y) (hv : tmps.getD v undef = z)
    (hb : w.heap[b]? = some (.cells (penC d) 71 (0, 0))) : (results fn tmps).run Tryz.prog w = .ok (.tuple #[x, .agg (penC d), y, z]) w := by
  have hl := run_loadVar_row (P := Tryz.prog) w b 71 71 (penC d) (0, 0) _ hb Tryz.underlying71 rfl (by rw [penC_size]; kernel_rfl)
  have hp' : tmps[p]?.getD undef = x := by simpa using hp
  have hq' : tmps[q]?.getD undef = .pointer (some ⟨b, 0, none⟩) := by simpa using hq
  have hu' : tmps[u]?.getD undef = y := by simpa using hu
  have hv' : tmps[v]?.getD undef = z := by simpa using hv
  simp [results, h, hp', hq', hu', hv', asAddr, hl]
theorem rnew_z (c : Array Value) (w : World) : ((w.alloc (.cells c 68)).alloc (.cells (penC zeroPen) 71)).heap[w.heap.size + 1]? = some (.cells (penC zeroPen) 71 (0, 0)) := by
  simp [go_sem]
theorem rnew_c (c : Array Value) (w : World) : ((w.alloc (.cells c 68)).alloc (.cells (penC zeroPen) 71)).heap[w.heap.size]? = some (.cells c 68 (0, 0)) := by
  simp [go_sem]
theorem wp_scope_jumps2 {P : Program} {a : Act} {w : World} {Q : Exit → Act → World → Prop} {c rest : Code} (l : Nat) (J : Act → World → Prop) (μ : Act → World → Nat) (hf : findLabel c l = some (Code.skip.seq rest))
    (pass : ∀ a w, J a w → rest.wp P (Exit.jump l (fun a' w' => J a' w' ∧ μ a' w' < μ a w) Q) a w)
    (first : (∀ a w, J a w → rest.wp P (Exit.jump l J Q) a w) → c.wp P (Exit.jump l J Q) a w) : (Code.scope c).wp P Q a w :=
  wp_scope_jumps l J μ hf (first fun a w h => wp_mono (pass a w h) (fun e a w h => by cases e <;> first | exact h | exact ⟨h.1, h.2.1⟩)) (fun a w h => wp_seq (wp_skip (pass a w h)))
theorem block_ne {w : World} {r b : Nat} {c d : Array Value} {T T' : TypeId} {fr fr' : Nat × Nat} (h1 : w.heap[r]? = some (.cells c T fr)) (h2 : w.heap[b]? = some (.cells d T' fr')) (hT : T ≠ T') : r ≠ b := by
  intro he
  subst he
  rw [h1] at h2
  have := Option.some.inj h2
  injection this with _ h3
  exact hT h3
theorem wStep_fr {l : List (BitVec 64)} {p : PenT} {n r c : Nat} {a : AccT} {y : List (BitVec 64) × BitVec 64} (h1 : 1 ≤ n) (hn : n ≤ 8192) (w : World) (hl : l.length = n) (hv : w.heap[r]? = some (.cells (wcells l) 22 (0, 0))) (ha : needP p = some a) (hy : doP l a = some y) :
    Calls Tryz.prog 43 #[.slice (some ⟨r, 0, none⟩) n c, .agg (penC p)] w fun e w' => ∃ R, e = .returned (.tuple #[.slice (some ⟨R, 0, none⟩) n n, .agg (penC (takeP p y.2)), I 0]) ∧ w.heap.size ≤ R ∧ w'.heap[R]? = some (.cells (wcells y.1) 22 (0, 0)) ∧ Ch [] w w' := by
  subst hl
  refine (wStep_any l r c (wcells l) p w h1 hn hv (wcells_at l) (needP_some ha).1).mono ?_
  intro e w' h
  unfold StepPost stepP at h
  rw [ha] at h
  dsimp only at h
  rw [hy] at h
  obtain ⟨R, rfl, hrow, hyl, hC⟩ := h
  exact ⟨R, by rw [hyl], hrow.1, hrow.2, hC⟩
/-- Where Run stands at its label. -/
def RunJ (w : World) (n : Nat) (l' : List (BitVec 64)) (p' : PenT) (m : Nat) (a : Act) (wr : World) : Prop :=
  ∃ (q0 q1 q2 q3 q4 q5 q6 q7 q8 q10 q11 q13 q14 q15 q17 q18 q21 q22 q23 q24 q25 q26 q27 q28 q29 q30 q31 q32 q33 q34 q35 q36 q37 q38 q39 q40 q41 q42 q43 q44 q45 q46 q47 q48 q49 q50 q51 q52 q53 q54 q55 q56 q57 q58 q59 q60 q61 q62 q63 q64 q65 q66 q67 q68 q69 q70 q71 q72 q73 : Value) (j r b k1 : Nat) (l1 : List (BitVec 64)) (p1 : PenT), a = ⟨#[q0, q1, q2, q3, q4, q5, q6, q7, q8, .pointer (some ⟨w.heap.size + 1, 0, none⟩), q10, q11, .slice (some ⟨r, 0, none⟩) n n, q13, q14, q15, .pointer (some ⟨b, 0, none⟩), q17, q18, .int .i64 j, .func (.func 57) #[] #[], q21, q22, q23, q24, q25, q26, q27, q28, q29, q30, q31, q32, q33, q34, q35, q36, q37, q38, q39, q40, q41, q42, q43, q44, q45, q46, q47, q48, q49, q50, q51, q52, q53, q54, q55, q56, q57, q58, q59, q60, q61, q62, q63, q64, q65, q66, q67, q68, q69, q70, q71, q72, q73], []⟩ ∧ j + k1 = m ∧ l1.length = n ∧ w.heap.size ≤ r ∧ wr.heap[r]? = some (.cells (wcells l1) 22 (0, 0)) ∧ RunsTo l1 p1 k1 l' p' ∧
    w.heap.size + 1 < b ∧ wr.heap[b]? = some (.cells (penC p1) 71 (0, 0)) ∧ wr.heap[w.heap.size + 1]? = some (.cells (penC zeroPen) 71 (0, 0)) ∧ Ch [] w wr
set_option maxHeartbeats 4000000 in
set_option maxRecDepth 100000 in
theorem wRun_go (l l' : List (BitVec 64)) (g c : Nat) (cur : Array Value) (sl op : Int) (k x y h : BitVec 64) (w : World) (h1 : 1 ≤ l.length) (hl : l.length ≤ 8192) (hb : w.heap[g]? = some (.cells cur 22 (0, 0))) (hw : WordsAt cur l) (hr : rightP (firstP sl op k x y h) = true) (hs : 56 + 40 * sl ≤ (l.length : Int))
    (p' : PenT) (m : Nat) (hrun : RunsTo l (firstP sl op k x y h) m l' p') (hm : m ≤ 100000) :
    Calls Tryz.prog 48 #[.slice (some ⟨g, 0, none⟩) l.length c, I sl, .agg (callC op k x y), U h] w fun e w' => ∃ R, e = .returned (.tuple #[.slice (some ⟨R, 0, none⟩) l.length l.length, .agg (penC p'), I (m : Nat), I 0]) ∧ l'.length = l.length ∧ w.heap.size ≤ R ∧ w'.heap[R]? = some (.cells (wcells l') 22 (0, 0)) ∧ Ch [] w w' := by
  have C0 : Ch [] w ((w.alloc (.cells (callC op k x y) 68)).alloc (.cells (penC zeroPen) 71)) := ((Ch.refl [] w).alloc _).alloc _
  have z0 := rnew_z (callC op k x y) w
  have k0 := rnew_c (callC op k x y) w
  have g0 := hkeep C0 hb
  have S1 := fun w h => cRun_some l g c cur w h1 hl h hw
  have B1 := fun w => wBegin_any sl op k x y h _ rfl w
  have R := (rightP_iff _).1 hr
  have s0 : 0 ≤ sl := R.sl0
  have s1 : sl < 128 := R.sl1
  rw [show rightP ⟨0, sl, op, k, x, y, h, 0#64, 0#64, 0#64, 0, 0#64, 0#8, 0, 0#64, 0, 0#64, false⟩ = true from hr, if_pos rfl] at B1
  obtain ⟨p, hp⟩ : ∃ p : PenT, ⟨0, sl, op, k, x, y, h, 0#64, 0#64, 0#64, 0, 0#64, 0#8, 0, 0#64, 0, 0#64, false⟩ = p := ⟨_, rfl⟩
  unfold firstP at hrun
  rw [hp] at B1 hrun
  have B2 : ∀ w, Calls Tryz.prog 55 #[I sl, .agg (callC op k x y), U h] w fun e w' => e = .returned (.tuple #[.agg (penC p), I 0]) ∧ Ch [] w w' := by unfold callC; exact B1
  have L1 := fun w => cell_ok sl 39 s0 s1 (by omega) (by omega) w
  obtain ⟨z, hz⟩ : ∃ z, 16 + 40 * sl + 39 = z := ⟨_, rfl⟩
  rw [hz] at L1
  obtain ⟨n, hn⟩ : ∃ n, l.length = n := ⟨_, rfl⟩
  have HN := Lib.hid hn
  rw [hn] at S1 hs hl h1
  have hlt : z < (n : Int) := by omega
  have HR := Lib.hid hrun
  clear hb hw hr B1 R hs hz hp hrun
  rw [hn]
  clear hn
  have hw0 : w.heap.size + 1 < ((w.alloc (.cells (callC op k x y) 68)).alloc (.cells (penC zeroPen) 71)).heap.size := by simp
  go_enter Tryz.func48, Tryz.ntmps48
  go_wp2_with fail
  generalize (w.alloc (.cells (callC op k x y) 68)).alloc (.cells (penC zeroPen) 71) = W0 at *
  refine wp_scope_jumps2 0 (RunJ w n l' p' m) (fun a _ => m - (intOf (a.tmps.getD 19 undef)).toNat) rfl ?_ ?_
  · clear S1 B2 L1 C0 z0 k0 g0 HR HN hlt hw0
    rintro a0 wr ⟨q0, q1, q2, q3, q4, q5, q6, q7, q8, q10, q11, q13, q14, q15, q17, q18, q21, q22, q23, q24, q25, q26, q27, q28, q29, q30, q31, q32, q33, q34, q35, q36, q37, q38, q39, q40, q41, q42, q43, q44, q45, q46, q47, q48, q49, q50, q51, q52, q53, q54, q55, q56, q57, q58, q59, q60, q61, q62, q63, q64, q65, q66, q67, q68, q69, q70, q71, q72, q73, j, r, b, k1, l1, p1, rfl, hjk, hl1, hr0, hrw, hr1, hb0, hbw, hzw, hC⟩
    have hjm : (j : Int) ≤ 100000 := by omega
    rcases hr1.inv with ⟨h13, rfl, rfl, rfl⟩ | ⟨ac, yy, k2, h13, rfl, ha, hy, hr2⟩
    · have hnn : needP p' = none := by unfold needP; rw [if_neg (by simp; omega)]
      have N1 : ∀ w, Calls Tryz.prog 57 #[.agg (penC p'), .int .i64 0] w fun e w' => e = .returned (.tuple #[.agg (accC 0 0 0 0), .bool false]) ∧ Ch [] w w' := fun w => by have := wNeed_any p' 0 w; rw [hnn, needV] at this; exact this
      clear hr1 h13 hnn
      go_wp2_with fail
      refine (N1 _).mono ?_
      rintro e w3 ⟨rfl, hc3⟩
      have b3 := hkeep hc3 hbw
      have z3 := hkeep hc3 hzw
      have r3 := hkeep hc3 hrw
      have C3 := hC.trans hc3
      have hA3 := C3.size
      clear hbw hzw hrw hC hc3 N1
      go_wp2
      have hcA : Ch [] w3 (World.onObj (w3.alloc (.cells (accC 0 0 0 0) 96)) w3.heap.size (laidAt 0 (accC 0 0 0 0))) := ((Ch.refl [] w3).alloc _).onObj (.inr (Nat.le_refl _)) _
      have bb := hkeep hcA b3
      have zz := hkeep hcA z3
      have rr := hkeep hcA r3
      have CC := C3.trans hcA
      clear b3 z3 r3 C3 hcA
      generalize World.onObj (w3.alloc (.cells (accC 0 0 0 0) 96)) w3.heap.size (laidAt 0 (accC 0 0 0 0)) = w4 at *
      obtain ⟨B, hB⟩ : ∃ B, w.heap.size = B := ⟨_, rfl⟩
      rw [hB] at zz hr0 hA3 hb0 ⊢
      have HB := Lib.hid hB
      clear hB
      have s7 : (fun W' : World => W'.heap[b]? = some (.cells (penC p') 71 (0, 0))) w4.drew := bb
      have z7 : w4.drew.heap[B + 1]? = some (.cells (penC zeroPen) 71 (0, 0)) := zz
      have r7 : w4.drew.heap[r]? = some (.cells (wcells l') 22 (0, 0)) := rr
      have C7 : Ch [] w w4.drew := CC.drew
      have hrB : r ≠ B + 1 := block_ne r7 z7 (by decide)
      clear bb zz rr CC
      refine wp_region_held_drew (S := fun W' => W'.heap[b]? = some (.cells (penC p') 71 (0, 0))) (by kernel_rfl) s7 ?_
      intro _
      simp only [List.size_toArray, List.length_cons, List.length_nil, Nat.reduceAdd]
      generalize w4.drew = w7 at *
      refine wpAnyH_take (i := 0) (oi := ⟨some 71, _, _, _, _, none⟩) (v := ?_) rfl (by kernel_rfl) (by kernel_rfl) (by kernel_rfl) (fun _ _ _ h => h) (Or.inl ⟨by rfl, ?_⟩) s7 ?_
      rotate_left
      · intro wq hSq
        first | (go_simp; done) | (go_simp; with_reducible rfl)
      try simp only [Act.put, List.setIfInBounds_toArray, List.set_cons_zero, List.set_cons_succ]
      refine wpAnyH_take (i := 1) (oi := ⟨some 72, _, _, _, _, none⟩) (v := ?_) rfl (by kernel_rfl) (by kernel_rfl) (by kernel_rfl) (fun _ _ _ h => h) (Or.inl ⟨by rfl, ?_⟩) s7 ?_
      rotate_left
      · intro wq hSq
        first | (go_simp; done) | (go_simp; with_reducible rfl)
      try simp only [Act.put, List.setIfInBounds_toArray, List.set_cons_zero, List.set_cons_succ]
      refine wpAnyH_take (i := 2) (oi := ⟨some 73, _, _, _, _, none⟩) (v := ?_) rfl (by kernel_rfl) (by kernel_rfl) (by kernel_rfl) (fun _ _ _ h => h) (Or.inl ⟨by rfl, ?_⟩) s7 ?_
      rotate_left
      · intro wq hSq
        first | (go_simp; done) | (go_simp; with_reducible rfl)
      try simp only [Act.put, List.setIfInBounds_toArray, List.set_cons_zero, List.set_cons_succ]
      refine wpAnyH_take (i := 3) (oi := ⟨some 8, _, _, _, _, none⟩) (v := ?_) rfl (by kernel_rfl) (by kernel_rfl) (by kernel_rfl) (fun _ _ _ h => h) (Or.inl ⟨by rfl, ?_⟩) s7 ?_
      rotate_left
      · intro wq hSq
        first | (go_simp; done) | (go_simp; with_reducible rfl)
      try simp only [Act.put, List.setIfInBounds_toArray, List.set_cons_zero, List.set_cons_succ]
      refine wpAnyH_ready (rs := [4]) (by kernel_rfl) (by simp) ?_
      refine AllReadyH.cons rfl (fun K hK => ?_) AllReadyH.nil
      go_simp
      have s8 : (World.onObj w7 (B + 1) (laidAt 0 (penC p'))).heap[b]? = some (.cells (penC p') 71 (0, 0)) := by rw [heap_onObj, if_neg (by omega)]; exact s7
      have z8 : (World.onObj w7 (B + 1) (laidAt 0 (penC p'))).heap[B + 1]? = some (.cells (penC p') 71 (0, 0)) := by rw [heap_onObj, if_pos rfl, z7, Option.map_some, wlaidAt_pen]
      have r8 : (World.onObj w7 (B + 1) (laidAt 0 (penC p'))).heap[r]? = some (.cells (wcells l') 22 (0, 0)) := by rw [heap_onObj, if_neg hrB]; exact r7
      have C8 : Ch [] w (World.onObj w7 (B + 1) (laidAt 0 (penC p'))) := C7.onObj (.inr (by rw [HB.out]; omega)) _
      refine hK.out _ _ s8 (fun _ => ?_)
      clear hK K
      generalize World.onObj w7 (B + 1) (laidAt 0 (penC p')) = w8 at *
      refine wpAnyH_take (i := 5) (oi := ⟨some 10, _, _, _, _, none⟩) (v := ?_) rfl (by kernel_rfl) (by kernel_rfl) (by kernel_rfl) (fun _ _ _ h => h) (Or.inl ⟨by rfl, ?_⟩) s8 ?_
      rotate_left
      · intro wq hSq
        first | (go_simp; done) | (go_simp; with_reducible rfl)
      try simp only [Act.put, List.setIfInBounds_toArray, List.set_cons_zero, List.set_cons_succ]
      refine wpAnyH_take (i := 6) (oi := ⟨some 11, _, _, _, _, none⟩) (v := ?_) rfl (by kernel_rfl) (by kernel_rfl) (by kernel_rfl) (fun _ _ _ h => h) (Or.inl ⟨by rfl, ?_⟩) s8 ?_
      rotate_left
      · intro wq hSq
        first | (go_simp; done) | (go_simp; with_reducible rfl)
      try simp only [Act.put, List.setIfInBounds_toArray, List.set_cons_zero, List.set_cons_succ]
      refine wpAnyH_done (by kernel_rfl) ?_ _
      go_wp2
      rw [jump_ret]
      refine bodyPost_ret (run_results Tryz.results48 _ (B + 1) _ p' _ _ _ rfl rfl rfl rfl z8) rfl ⟨r, ?_, hl1, by rw [HB.out]; exact hr0, r8, C8⟩
      rw [← hjk]; rfl
    · have N1 : ∀ w, Calls Tryz.prog 57 #[.agg (penC p1), .int .i64 0] w fun e w' => e = .returned (.tuple #[.agg (accC 0 ac.kind ac.at_ (N ac.new)), .bool true]) ∧ Ch [] w w' := fun w => by
        have := wNeed_any p1 0 w
        rw [ha, needV] at this
        exact this
      have S2 := fun w (hv : w.heap[r]? = some (.cells (wcells l1) 22 (0, 0))) => wStep_fr (c := n) h1 hl w hl1 hv ha hy
      have hyl : yy.1.length = n := (doP_len hy).trans hl1
      have HR2 := Lib.hid hr2
      clear hr1 h13 ha hy hr2 hl1
      go_wp2_with fail
      refine (N1 _).mono ?_
      rintro e w3 ⟨rfl, hc3⟩
      have b3 := hkeep hc3 hbw
      have z3 := hkeep hc3 hzw
      have r3 := hkeep hc3 hrw
      have C3 := hC.trans hc3
      have hbn : ¬ b = w3.heap.size := by have := (Array.getElem?_eq_some_iff.1 b3).1; omega
      clear hbw hzw hrw hC hc3 N1
      go_wp2_with fail
      obtain ⟨ak, hak⟩ : ∃ a, accC 0 ac.kind ac.at_ (N ac.new) = a := ⟨_, rfl⟩
      have hcA : Ch [] w3 (World.onObj (w3.alloc (.cells (accC 0 0 0 0) 96)) w3.heap.size (laidAt 0 (accC 0 ac.kind ac.at_ (N ac.new)))) := ((Ch.refl [] w3).alloc _).onObj (.inr (Nat.le_refl _)) _
      have b4 := hkeep hcA b3
      have z4 := hkeep hcA z3
      have r4 := hkeep hcA r3
      have C4 := C3.trans hcA
      clear b3 z3 r3 C3 hcA
      generalize World.onObj (w3.alloc (.cells (accC 0 0 0 0) 96)) w3.heap.size (laidAt 0 (accC 0 ac.kind ac.at_ (N ac.new))) = w4 at *
      refine (S2 _ r4).mono ?_
      rintro e w5 ⟨R, rfl, hR, hR5, hc5⟩
      have b5 := hkeep hc5 b4
      have z5 := hkeep hc5 z4
      have C5 := C4.trans hc5
      have hRw := Nat.le_trans C4.size hR
      have hRb : R ≠ b := block_ne hR5 b5 (by decide)
      clear b4 z4 r4 C4 hc5 S2 hR
      go_wp2
      go_step3
      refine ⟨rfl, ⟨_, _, _, _, _, _, _, _, _, _, _, _, _, _, _, _, _, _, _, _, _, _, _, _, _, _, _, _, _, _, _, _, _, _, _, _, _, _, _, _, _, _, _, _, _, _, _, _, _, _, _, _, _, _, _, _, _, _, _, _, _, _, _, _, _, _, _, _, _, j + 1, R, b, k2, yy.1, takeP p1 yy.2, by go_num, by omega, hyl, hRw, ?_, HR2.out, hb0, ?_, ?_, ?_⟩, ?_⟩
      · rw [heap_onObj, if_neg hRb]; exact hR5
      · simp [go_sem, b5]
      · rw [heap_onObj, if_neg (by omega)]; exact z5
      · exact C5.onObj (.inr (by omega)) _
      · simp [intOf]; omega
  · intro hpass
    go_wp2_with fail
    refine (S1 _ g0).mono ?_
    rintro e w1 ⟨rfl, r1, hc1⟩
    have z1 := hkeep hc1 z0
    have k1 := hkeep hc1 k0
    have C1 := C0.trans hc1
    have hW := C0.size
    have hc1s := hc1.size
    clear z0 k0 g0 C0 hc1 S1
    go_wp2_with fail
    refine (B2 _).mono ?_
    rintro e w2 ⟨rfl, hc2⟩
    have z2 := hkeep hc2 z1
    have r2 := hkeep hc2 r1
    have C2 := C1.trans hc2
    have hc2s := hc2.size
    have hr2 : ¬ W0.heap.size = w2.heap.size := by have := (Array.getElem?_eq_some_iff.1 r2).1; omega
    have hz2 : ¬ w.heap.size + 1 = w2.heap.size := by have := (Array.getElem?_eq_some_iff.1 z2).1; omega
    clear z1 r1 C1 hc2 B2 k1
    go_wp2_with fail
    refine (L1 _).mono ?_
    rintro e w4 ⟨rfl, rfl⟩
    go_wp2_with fail
    refine wp_label ?_
    rename_i hK
    refine hK _ _ (hpass _ _ ?_)
    refine ⟨_, _, _, _, _, _, _, _, _, _, _, _, _, _, _, _, _, _, _, _, _, _, _, _, _, _, _, _, _, _, _, _, _, _, _, _, _, _, _, _, _, _, _, _, _, _, _, _, _, _, _, _, _, _, _, _, _, _, _, _, _, _, _, _, _, _, _, _, _, 0, W0.heap.size, w2.heap.size, m, l, p, rfl, by omega, HN.out, hW, ?_, HR.out, ?_, ?_, ?_, ?_⟩
    · rw [heap_onObj, if_neg hr2, heap_alloc, if_neg hr2]; exact r2
    · exact Nat.lt_of_lt_of_le hw0 (Nat.le_trans hc1s hc2s)
    · rw [heap_onObj, if_pos rfl, heap_alloc, if_pos rfl, Option.map_some, wlaidAt_pen]
    · rw [heap_onObj, if_neg hz2, heap_alloc, if_neg hz2]; exact z2
    · exact (C2.alloc _).onObj (.inr C2.size) _
end Go.Proofs.Hc
