/- The reference of layer 19: Step. -/
import Derived.Test.YtmfajobocpaimaaGreatKHdh
import Derived.Test.YtmfajobocpaimaaGreatKHcg
import Derived.Test.YtmfajobocpaimaaGreatKHci
import Derived.Test.YtmfajobocpaimaaGreatKHcs
import Derived.Test.YtmfajobocpaimaaGreatKHcv
import Derived.Test.YtmfajobocpaimaaGreatKHcw
import Derived.Test.YtmfajobocpaimaaGreatKHcx
import Derived.Test.YtmfajobocpaimaaGreatKHde
import Derived.Test.YtmfajobocpaimaaGreatKHm
import Derived.Test.YtmfajobocpaimaaGreatKHxg
import Derived.Test.YtmfajobocpaimaaGreatKHnac
import Derived.Test.YtmfajobocpaimaaGreatKHnh
import Derived.Test.YtmfajobocpaimaaGreatKHnl
import Derived.Test.YtmfajobocpaimaaGreatKHnw
import Derived.Test.YtmfajobocpaimaaGreatKHq
import Derived.Test.YtmfajobocpaimaaGreatKHop2
import Derived.Test.YtmfajobocpaimaaGreatKHye
import Derived.Below
import Derived.BigQuiet
import Derived.Deep.Draws
import Derived.Deep.Light
import Derived.Deep.OwnRows
import Derived.Deep.QuietTactic
import Derived.Deep.RegionHeld
import Derived.IntWalk
import Derived.Laws.CopyOwn
import Derived.Laws.CopyRow
import Derived.Laws.StructEq
import Derived.Laws.Tables
import Derived.Lib.AppendZerosOnto
import Derived.Lib.Hide
import Derived.Lib.Tables
import Derived.Lib.Walk
import Derived.LoopIn
import Derived.LoopN
import Derived.LoopNIn
import Derived.Maps.AppendAt
import Derived.Maps.Views
import Derived.OwnWalkIn
import Derived.RangeFuncBox
import Derived.RangeFuncCalls
import Derived.RangeFuncRecord
import Derived.RangeFuncSeq
import Derived.Recover
import Derived.RegionTactic
import Derived.ScopeJumps
import Derived.Shelf.Slices.Clone
import Derived.StillTail
import Derived.StillTailTactics
import Derived.TacticsInMore
import Derived.Test.YtmfajobocpaimaaGreatProg
import Derived.WalkKit
import Derived.WalkLawsBesides
import Derived.WalkMore
import Derived.WalkSpells
set_option linter.unusedSimpArgs false
set_option linter.unusedVariables false
namespace Go.Proofs.Hc
open Go.RowKit
attribute [local go_sem] wrap_u64 wrap_u8 bits_xor64 bits_and64 bits_or64 bits_not64 bits_xor8 bits_and8 bits_or8 signed64 signed8 ofInt_N BitVec.ofInt_add BitVec.ofInt_mul ofInt_sub' ofInt8_N64 ofInt64_N8 wide8 eqN neN shr_pow shr1 shr7 shr56
attribute [local go_sem high] bits_com64 shl_wrap
attribute [local go_sem] cell_heap ice_heap cellAt_cells iceAt_cells setAt_cells rowAt_cells canLay_cells laidAt_cells size_onObj size_setCell rowRes_some layRes_true
attribute [local go_sem] load26 load73 load23 store26 build73
attribute [local go_sem ↓] lrow26 lrow73 lrow23 srow26 zero26 brow73 heap_alloc heap_drew heap_drewN heap_setCell heap_onObj
attribute [local go_sem] tcells_size hcells_size tcells_get hcells_get tcells_one hcells_one hcells_table tcells_table hcells_all hcells_ctrl tcells_ctrl
attribute [local go_sem] nn2 nm2 nn3 nm3 nn4 nm4 nn5 nm5 nn6 nm6 nn7 nm7 nn8 nm8
attribute [local go_sem] nn2 nm2 nn3 nm3 nn4 nm4 nn5 nm5 nn6 nm6 nn7 nm7 nn8 nm8
attribute [local go_sem] ofInt_N ofInt_pow8
attribute [local go_sem] Oper.semAt_some make_func1
attribute [local go_sem] pen_g0 pen_g1 pen_g2 pen_g3 pen_g4 pen_g5 pen_g6 pen_g7 pen_g8 pen_g9 pen_g10 pen_g11 pen_g12 pen_g13 pen_g14 pen_g15 pen_g16 pen_g17 penC_size penC_one penC_all
attribute [local irreducible] penC
attribute [local go_sem] pen_s0 pen_s1 pen_s2 pen_s3 pen_s4 pen_s5 pen_s6 pen_s7 pen_s8 pen_s9 pen_s10 pen_s11 pen_s12 pen_s13 pen_s14 pen_s15 pen_s16 pen_s17
attribute [local go_sem] acc_g0 acc_g1 acc_g2 acc_g4 acc_s0 acc_s1 acc_s2 acc_s4 accC_size accC_one accC_all loadAcc storeAcc bacc0 bacc2 bacc3 bacc3u bacc4
attribute [local go_sem ↓] lrowAcc srowAcc browAcc zeroAcc_run
attribute [local go_sem high] laidAt_acc
attribute [local irreducible] accC
attribute [local go_sem] boxPen loadPen storePen buildPen0
attribute [local go_sem ↓] lrowPen srowPen wzeroPen_run browPen
attribute [local go_sem high] wlaidAt_pen
set_option maxHeartbeats 2000000 in
set_option maxRecDepth 100000 in
theorem r19Step_over (v : Value) (p : PenT) (w : World) (hn : needP p = none) : Calls Tryz.prog 45 #[v, .agg (penC p)] w fun e w' => e = .returned (.tuple #[v, .agg (penC p), .bool true]) ∧ Ch [] w w' := by
  have C0 : Ch [] w ((w.alloc (.cells (penC p) 71)).alloc (.cells (penC zeroPen) 71)) := ((Ch.refl [] w).alloc _).alloc _
  have b0 := wnew_pen2 p w
  have z0 := wnew_penz p w
  have N1 : ∀ w, Calls Tryz.prog 110 #[.agg (penC p), .int .i64 0] w fun e w' => e = .returned (.tuple #[.agg (accC 0 0 0 0), .bool false]) ∧ Ch [] w w' := fun w => by have := r19Need_any p 0 w; rw [hn, needV] at this; exact this
  clear hn
  go_enter Tryz.func45, Tryz.ntmps45
  go_wp2_with fail
  generalize (w.alloc (.cells (penC p) 71)).alloc (.cells (penC zeroPen) 71) = W0 at *
  refine (N1 _).mono ?_
  rintro e w3 ⟨rfl, hc3⟩
  have b3 := hkeep hc3 b0
  have z3 := hkeep hc3 z0
  have C3 := C0.trans hc3
  have hA3 := C3.size
  clear b0 z0 C0 hc3 N1
  go_wp2
  have hcA : Ch [] w3 (w3.alloc (.cells (accC 0 0 0 0) 96)) := (Ch.refl [] w3).alloc _
  have k1 := (Array.getElem?_eq_some_iff.1 b3).1
  have k2 := (Array.getElem?_eq_some_iff.1 z3).1
  have bb : (World.onObj (w3.alloc (.cells (accC 0 0 0 0) 96)) w3.heap.size (laidAt 0 (accC 0 0 0 0))).heap[w.heap.size]? = some (.cells (penC p) 71 (0, 0)) := by rw [heap_onObj, if_neg (by omega)]; exact hkeep hcA b3
  have zz : (World.onObj (w3.alloc (.cells (accC 0 0 0 0) 96)) w3.heap.size (laidAt 0 (accC 0 0 0 0))).heap[w.heap.size + 1]? = some (.cells (penC zeroPen) 71 (0, 0)) := by rw [heap_onObj, if_neg (by omega)]; exact hkeep hcA z3
  have CC : Ch [] w (World.onObj (w3.alloc (.cells (accC 0 0 0 0) 96)) w3.heap.size (laidAt 0 (accC 0 0 0 0))) := (C3.trans hcA).onObj (.inr hA3) _
  clear b3 z3 C3 hcA k1 k2
  generalize World.onObj (w3.alloc (.cells (accC 0 0 0 0) 96)) w3.heap.size (laidAt 0 (accC 0 0 0 0)) = w4 at *
  obtain ⟨B, hB⟩ : ∃ B, w.heap.size = B := ⟨_, rfl⟩
  rw [hB] at bb zz hA3 ⊢
  have HB := Lib.hid hB
  clear hB
  have s7 : (fun W' : World => W'.heap[B]? = some (.cells (penC p) 71 (0, 0))) w4.drew := bb
  have z7 : w4.drew.heap[B + 1]? = some (.cells (penC zeroPen) 71 (0, 0)) := zz
  have C7 : Ch [] w w4.drew := CC.drew
  refine wp_region_held_drew (S := fun W' => W'.heap[B]? = some (.cells (penC p) 71 (0, 0))) (by kernel_rfl) s7 ?_
  intro _
  simp only [List.size_toArray, List.length_cons, List.length_nil, Nat.reduceAdd]
  generalize w4.drew = w7 at *
  refine wpAnyH_take (i := 0) (oi := ⟨some 17, _, _, _, _, none⟩) (v := ?_) rfl (by kernel_rfl) (by kernel_rfl) (by kernel_rfl) (fun _ _ _ h => h) (Or.inl ⟨by rfl, ?_⟩) s7 ?_
  rotate_left
  · intro wq hSq
    first | (go_simp; done) | (go_simp; with_reducible rfl)
  try simp only [Act.put, List.setIfInBounds_toArray, List.set_cons_zero, List.set_cons_succ]
  refine wpAnyH_take (i := 1) (oi := ⟨some 18, _, _, _, _, none⟩) (v := ?_) rfl (by kernel_rfl) (by kernel_rfl) (by kernel_rfl) (fun _ _ _ h => h) (Or.inl ⟨by rfl, ?_⟩) s7 ?_
  rotate_left
  · intro wq hSq
    first | (go_simp; done) | (go_simp; with_reducible rfl)
  try simp only [Act.put, List.setIfInBounds_toArray, List.set_cons_zero, List.set_cons_succ]
  refine wpAnyH_take (i := 2) (oi := ⟨some 4, _, _, _, _, none⟩) (v := ?_) rfl (by kernel_rfl) (by kernel_rfl) (by kernel_rfl) (fun _ _ _ h => h) (Or.inl ⟨by rfl, ?_⟩) s7 ?_
  rotate_left
  · intro wq hSq
    first | (go_simp; done) | (go_simp; with_reducible rfl)
  try simp only [Act.put, List.setIfInBounds_toArray, List.set_cons_zero, List.set_cons_succ]
  refine wpAnyH_ready (rs := [3]) (by kernel_rfl) (by simp) ?_
  refine AllReadyH.cons rfl (fun K hK => ?_) AllReadyH.nil
  go_simp
  have s8 : (World.onObj w7 (B + 1) (laidAt 0 (penC p))).heap[B]? = some (.cells (penC p) 71 (0, 0)) := by rw [heap_onObj, if_neg (by omega)]; exact s7
  have z8 : (World.onObj w7 (B + 1) (laidAt 0 (penC p))).heap[B + 1]? = some (.cells (penC p) 71 (0, 0)) := by rw [heap_onObj, if_pos rfl, z7, Option.map_some, wlaidAt_pen]
  have C8 : Ch [] w (World.onObj w7 (B + 1) (laidAt 0 (penC p))) := C7.onObj (.inr (by rw [HB.out]; omega)) _
  refine hK.out _ _ s8 (fun _ => ?_)
  clear hK K
  generalize World.onObj w7 (B + 1) (laidAt 0 (penC p)) = w8 at *
  refine wpAnyH_take (i := 4) (oi := ⟨some 6, _, _, _, _, none⟩) (v := ?_) rfl (by kernel_rfl) (by kernel_rfl) (by kernel_rfl) (fun _ _ _ h => h) (Or.inl ⟨by rfl, ?_⟩) s8 ?_
  rotate_left
  · intro wq hSq
    first | (go_simp; done) | (go_simp; with_reducible rfl)
  try simp only [Act.put, List.setIfInBounds_toArray, List.set_cons_zero, List.set_cons_succ]
  refine wpAnyH_done (by kernel_rfl) ?_ _
  go_wp2
  refine bodyPost_ret (step_results Tryz.results45 _ (B + 1) _ p _ _ rfl rfl rfl z8) rfl ⟨rfl, C8⟩
set_option maxHeartbeats 2000000 in
set_option maxRecDepth 100000 in
theorem r19Step_out (a : Option Addr) (n c : Nat) (p : PenT) (kd at_ nw : Int) (w : World) (hat : (n : Int) ≤ at_)
    (N1 : ∀ w, Calls Tryz.prog 110 #[.agg (penC p), .int .i64 0] w fun e w' => e = .returned (.tuple #[.agg (accC 0 kd at_ nw), .bool true]) ∧ Ch [] w w') : Calls Tryz.prog 45 #[.slice a n c, .agg (penC p)] w fun e w' => e = .returned (.tuple #[.slice none 0 0, .agg (penC zeroPen), .bool false]) ∧ Ch [] w w' := by
  have C0 : Ch [] w ((w.alloc (.cells (penC p) 71)).alloc (.cells (penC zeroPen) 71)) := ((Ch.refl [] w).alloc _).alloc _
  have b0 := wnew_pen2 p w
  have z0 := wnew_penz p w
  go_enter Tryz.func45, Tryz.ntmps45
  go_wp2_with fail
  generalize (w.alloc (.cells (penC p) 71)).alloc (.cells (penC zeroPen) 71) = W0 at *
  refine (N1 _).mono ?_
  rintro e w3 ⟨rfl, hc3⟩
  have b3 := hkeep hc3 b0
  have z3 := hkeep hc3 z0
  have C3 := C0.trans hc3
  have hA3 := C3.size
  have hne : ¬ w.heap.size + 1 = w3.heap.size := by have := (Array.getElem?_eq_some_iff.1 z3).1; omega
  clear b0 z0 C0 hc3 N1
  go_wp2
  refine bodyPost_ret (step_results Tryz.results45 _ (w.heap.size + 1) _ zeroPen _ _ rfl rfl rfl ?_) rfl ⟨rfl, ?_⟩
  · simp [go_sem, z3, hne]
  · exact ((C3.alloc _).onObj (p := w3.heap.size) (.inr hA3) _).onObj (p := w.heap.size + 1) (.inr (by omega)) _
end Go.Proofs.Hc
/- The reference of layer 19: Step, as a model. -/
namespace Go.Proofs.Hc
open Go.RowKit
/-- What the reference's Step answers at a row of words. -/
def StepR (w : World) (l : List (BitVec 64)) (g c : Nat) (p : PenT) (e : Ending) (w' : World) : Prop :=
  match needP p with
  | none => e = .returned (.tuple #[.slice (some ⟨g, 0, none⟩) l.length c, .agg (penC p), .bool true]) ∧ Ch [] w w'
  | some a => match doP l a with
    | none => e = .returned (.tuple #[.slice none 0 0, .agg (penC zeroPen), .bool false]) ∧ Ch [] w w'
    | some y => ∃ R c2 base, e = .returned (.tuple #[.slice R l.length c2, .agg (penC (takeP p y.2)), .bool true]) ∧ w.heap.size ≤ base ∧ w'.ownsRow base 22 1 (.slice R l.length c2) l.length (y.1.map fun x => U x) ∧ Ch [] w w'
theorem r19Step_any (l : List (BitVec 64)) (g c : Nat) (cur : Array Value) (p : PenT) (w : World) (hl : l.length ≤ 8192) (hb : w.heap[g]? = some (.cells cur 22 (0, 0))) (hw : WordsAt cur l) :
    Calls Tryz.prog 45 #[.slice (some ⟨g, 0, none⟩) l.length c, .agg (penC p)] w (StepR w l g c p) := by
  cases hn : needP p with
  | none =>
    refine (r19Step_over _ p w hn).mono ?_
    rintro e w' ⟨rfl, hC⟩
    unfold StepR
    rw [hn]
    exact ⟨rfl, hC⟩
  | some a =>
    obtain ⟨ha, ha0⟩ := needP_acc hn
    obtain ⟨hr, h13⟩ := needP_some hn
    have R := (rightP_iff p).1 hr
    have N1 : ∀ w, Calls Tryz.prog 110 #[.agg (penC p), .int .i64 0] w fun e w' => e = .returned (.tuple #[.agg (accC 0 a.kind a.at_ (N a.new)), .bool true]) ∧ Ch [] w w' := fun w => by
      have := r19Need_any p 0 w
      rw [hn, needV] at this
      exact this
    have T1 := fun x w => r19Take_any p R h13 x w
    obtain ⟨kd, at_, new⟩ := a
    dsimp only at ha ha0 N1
    obtain ⟨j, rfl⟩ := Int.eq_ofNat_of_zero_le ha0
    rcases Nat.lt_or_ge j l.length with hj | hj
    · obtain ⟨x, hx⟩ : ∃ x, l[j]? = some x := ⟨l[j]'hj, List.getElem?_eq_getElem hj⟩
      have hset : l.set j x = l := by
        apply List.ext_getElem?
        intro i
        rw [List.getElem?_set]
        by_cases h : j = i
        · subst h; rw [if_pos rfl, if_pos hj, hx]
        · rw [if_neg h]
      have key : ∀ (z : BitVec 64), doP l ⟨kd, (j : Int), new⟩ = some (l.set j z, x) →
          (Calls Tryz.prog 45 #[.slice (some ⟨g, 0, none⟩) l.length c, .agg (penC p)] w fun e w' => ∃ R c2 base, e = .returned (.tuple #[.slice R l.length c2, .agg (penC (takeP p x)), .bool true]) ∧ w.heap.size ≤ base ∧ w'.ownsRow base 22 1 (.slice R l.length c2) l.length ((l.set j z).map fun x => U x) ∧ Ch [] w w') →
          Calls Tryz.prog 45 #[.slice (some ⟨g, 0, none⟩) l.length c, .agg (penC p)] w (StepR w l g c p) := by
        intro z hd hX
        refine hX.mono ?_
        intro e w' h
        unfold StepR
        rw [hn]
        dsimp only
        rw [hd]
        exact h
      rcases ha with rfl | rfl | rfl
      · refine key x (by simp [doP, hx, hset]) ?_
        rw [hset]
        exact r19Step_1 l g c cur p (takeP p x) j (N new) x w hj hl hx hb hw N1 (T1 x)
      · exact key new (by simp [doP, hx]) (r19Step_2 l g c cur p (takeP p x) j x new w hj hl hx hb hw N1 (T1 x))
      · exact key (x + new) (by simp [doP, hx]) (r19Step_4 l g c cur p (takeP p x) j x new w hj hl hx hb hw N1 (T1 x))
    · refine (r19Step_out (some ⟨g, 0, none⟩) l.length c p kd (j : Int) (N new) w (by omega) N1).mono ?_
      rintro e w' ⟨rfl, hC⟩
      unfold StepR
      rw [hn]
      dsimp only
      have hd : doP l ⟨kd, (j : Int), new⟩ = none := by simp [doP, List.getElem?_eq_none hj]
      rw [hd]
      exact ⟨rfl, hC⟩
end Go.Proofs.Hc
