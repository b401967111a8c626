/- The reference of layer 19: Step. -/
import Derived.Test.YtmfajobocpaimaaGreatKHca
import Derived.Test.YtmfajobocpaimaaGreatKHcg
import Derived.Test.YtmfajobocpaimaaGreatKHci
import Derived.Test.YtmfajobocpaimaaGreatKHcs
import Derived.Test.YtmfajobocpaimaaGreatKHcv
import Derived.Test.YtmfajobocpaimaaGreatKHcw
import Derived.Test.YtmfajobocpaimaaGreatKHcx
import Derived.Test.YtmfajobocpaimaaGreatKHdv
import Derived.Test.YtmfajobocpaimaaGreatKHxe
import Derived.Test.YtmfajobocpaimaaGreatKHnh
import Derived.Test.YtmfajobocpaimaaGreatKHnl
import Derived.Test.YtmfajobocpaimaaGreatKHnq
import Derived.Test.YtmfajobocpaimaaGreatKHnw
import Derived.Test.YtmfajobocpaimaaGreatKHpa
import Derived.Test.YtmfajobocpaimaaGreatKHdj
import Derived.Test.YtmfajobocpaimaaGreatKHq
import Derived.Test.YtmfajobocpaimaaGreatKHr
import Derived.Test.YtmfajobocpaimaaGreatKHdh
import Derived.Test.YtmfajobocpaimaaGreatKHde
import Derived.Test.YtmfajobocpaimaaGreatKHop2
import Derived.Below
import Derived.BigQuiet
import Derived.Deep.Draws
import Derived.Deep.Light
import Derived.Deep.OwnRows
import Derived.Deep.QuietTactic
import Derived.Deep.RegionHeld
import Derived.IntWalk
import Derived.Laws.CopyOwn
import Derived.Laws.CopyRow
import Derived.Laws.StructEq
import Derived.Laws.Tables
import Derived.Lib.AppendZerosOnto
import Derived.Lib.Hide
import Derived.Lib.Tables
import Derived.Lib.Walk
import Derived.LoopIn
import Derived.LoopN
import Derived.LoopNIn
import Derived.Maps.AppendAt
import Derived.Maps.Views
import Derived.OwnWalkIn
import Derived.RangeFuncBox
import Derived.RangeFuncCalls
import Derived.RangeFuncRecord
import Derived.RangeFuncSeq
import Derived.Recover
import Derived.RegionTactic
import Derived.ScopeJumps
import Derived.Shelf.Slices.Clone
import Derived.StillTail
import Derived.StillTailTactics
import Derived.TacticsInMore
import Derived.Test.YtmfajobocpaimaaGreatProg
import Derived.WalkKit
import Derived.WalkLawsBesides
import Derived.WalkMore
import Derived.WalkSpells
import Derived.ChangeKeysEq
import Derived.Deep.Slices
import Derived.OpenShut
import Derived.ProofKit
set_option linter.unusedSimpArgs false
set_option linter.unusedVariables false
namespace Go.Proofs.Hc
open Go.RowKit
attribute [local go_sem] wrap_u64 wrap_u8 bits_xor64 bits_and64 bits_or64 bits_not64 bits_xor8 bits_and8 bits_or8 signed64 signed8 ofInt_N BitVec.ofInt_add BitVec.ofInt_mul ofInt_sub' ofInt8_N64 ofInt64_N8 wide8 eqN neN shr_pow shr1 shr7 shr56
attribute [local go_sem high] bits_com64 shl_wrap
attribute [local go_sem] cell_heap ice_heap cellAt_cells iceAt_cells setAt_cells rowAt_cells canLay_cells laidAt_cells size_onObj size_setCell rowRes_some layRes_true
attribute [local go_sem] load26 load73 load23 store26 build73
attribute [local go_sem ↓] lrow26 lrow73 lrow23 srow26 zero26 brow73 heap_alloc heap_drew heap_drewN heap_setCell heap_onObj
attribute [local go_sem] tcells_size hcells_size tcells_get hcells_get tcells_one hcells_one hcells_table tcells_table hcells_all hcells_ctrl tcells_ctrl
attribute [local go_sem] nn2 nm2 nn3 nm3 nn4 nm4 nn5 nm5 nn6 nm6 nn7 nm7 nn8 nm8
attribute [local go_sem] nn2 nm2 nn3 nm3 nn4 nm4 nn5 nm5 nn6 nm6 nn7 nm7 nn8 nm8
attribute [local go_sem] ofInt_N ofInt_pow8
attribute [local go_sem] Oper.semAt_some make_func1
attribute [local go_sem] pen_g0 pen_g1 pen_g2 pen_g3 pen_g4 pen_g5 pen_g6 pen_g7 pen_g8 pen_g9 pen_g10 pen_g11 pen_g12 pen_g13 pen_g14 pen_g15 pen_g16 pen_g17 penC_size penC_one penC_all
attribute [local irreducible] penC
attribute [local go_sem] pen_s0 pen_s1 pen_s2 pen_s3 pen_s4 pen_s5 pen_s6 pen_s7 pen_s8 pen_s9 pen_s10 pen_s11 pen_s12 pen_s13 pen_s14 pen_s15 pen_s16 pen_s17
attribute [local go_sem] acc_g0 acc_g1 acc_g2 acc_g4 acc_s0 acc_s1 acc_s2 acc_s4 accC_size accC_one accC_all loadAcc storeAcc bacc0 bacc2 bacc3 bacc3u bacc4
attribute [local go_sem ↓] lrowAcc srowAcc browAcc zeroAcc_run
attribute [local go_sem high] laidAt_acc
attribute [local irreducible] accC
attribute [local go_sem] boxPen loadPen storePen buildPen0
attribute [local go_sem ↓] lrowPen srowPen wzeroPen_run browPen
attribute [local go_sem high] wlaidAt_pen
set_option maxHeartbeats 2000000 in
set_option maxRecDepth 100000 in
theorem r19Step_over (v : Value) (p : PenT) (w : World) (hn : needP p = none) : Calls Tryz.prog 45 #[v, .agg (penC p)] w fun e w' => e = .returned (.tuple #[v, .agg (penC p), .bool true]) ∧ Ch [] w w' := by
  have C0 : Ch [] w ((w.alloc (.cells (penC p) 71)).alloc (.cells (penC zeroPen) 71)) := ((Ch.refl [] w).alloc _).alloc _
  have b0 := wnew_pen2 p w
  have z0 := wnew_penz p w
  have N1 : ∀ w, Calls Tryz.prog 110 #[.agg (penC p), .int .i64 0] w fun e w' => e = .returned (.tuple #[.agg (accC 0 0 0 0), .bool false]) ∧ Ch [] w w' := fun w => by have := r19Need_any p 0 w; rw [hn, needV] at this; exact this
  clear hn
  go_enter Tryz.func45, Tryz.ntmps45
  go_wp2_with fail
  generalize (w.alloc (.cells (penC p) 71)).alloc (.cells (penC zeroPen) 71) = W0 at *
  refine (N1 _).mono ?_
  rintro e w3 ⟨rfl, hc3⟩
  have b3 := hkeep hc3 b0
  have z3 := hkeep hc3 z0
  have C3 := C0.trans hc3
  have hA3 := C3.size
  clear b0 z0 C0 hc3 N1
  go_wp2
  have hcA : Ch [] w3 (w3.alloc (.cells (accC 0 0 0 0) 96)) := (Ch.refl [] w3).alloc _
  have k1 := (Array.getElem?_eq_some_iff.1 b3).1
  have k2 := (Array.getElem?_eq_some_iff.1 z3).1
  have bb : (World.onObj (w3.alloc (.cells (accC 0 0 0 0) 96)) w3.heap.size (laidAt 0 (accC 0 0 0 0))).heap[w.heap.size]? = some (.cells (penC p) 71 (0, 0)) := by rw [heap_onObj, if_neg (by omega)]; exact hkeep hcA b3
  have zz : (World.onObj (w3.alloc (.cells (accC 0 0 0 0) 96)) w3.heap.size (laidAt 0 (accC 0 0 0 0))).heap[w.heap.size + 1]? = some (.cells (penC zeroPen) 71 (0, 0)) := by rw [heap_onObj, if_neg (by omega)]; exact hkeep hcA z3
  have CC : Ch [] w (World.onObj (w3.alloc (.cells (accC 0 0 0 0) 96)) w3.heap.size (laidAt 0 (accC 0 0 0 0))) := (C3.trans hcA).onObj (.inr hA3) _
  clear b3 z3 C3 hcA k1 k2
  generalize World.onObj (w3.alloc (.cells (accC 0 0 0 0) 96)) w3.heap.size (laidAt 0 (accC 0 0 0 0)) = w4 at *
  obtain ⟨B, hB⟩ : ∃ B, w.heap.size = B := ⟨_, rfl⟩
  rw [hB] at bb zz hA3 ⊢
  have HB := Lib.hid hB
  clear hB
  have s7 : (fun W' : World => W'.heap[B]? = some (.cells (penC p) 71 (0, 0))) w4.drew := bb
  have z7 : w4.drew.heap[B + 1]? = some (.cells (penC zeroPen) 71 (0, 0)) := zz
  have C7 : Ch [] w w4.drew := CC.drew
  refine wp_region_held_drew (S := fun W' => W'.heap[B]? = some (.cells (penC p) 71 (0, 0))) (by kernel_rfl) s7 ?_
  intro _
  simp only [List.size_toArray, List.length_cons, List.length_nil, Nat.reduceAdd]
  generalize w4.drew = w7 at *
  refine wpAnyH_take (i := 0) (oi := ⟨some 17, _, _, _, _, none⟩) (v := ?_) rfl (by kernel_rfl) (by kernel_rfl) (by kernel_rfl) (fun _ _ _ h => h) (Or.inl ⟨by rfl, ?_⟩) s7 ?_
  rotate_left
  · intro wq hSq
    first | (go_simp; done) | (go_simp; with_reducible rfl)
  try simp only [Act.put, List.setIfInBounds_toArray, List.set_cons_zero, List.set_cons_succ]
  refine wpAnyH_take (i := 1) (oi := ⟨some 18, _, _, _, _, none⟩) (v := ?_) rfl (by kernel_rfl) (by kernel_rfl) (by kernel_rfl) (fun _ _ _ h => h) (Or.inl ⟨by rfl, ?_⟩) s7 ?_
  rotate_left
  · intro wq hSq
    first | (go_simp; done) | (go_simp; with_reducible rfl)
  try simp only [Act.put, List.setIfInBounds_toArray, List.set_cons_zero, List.set_cons_succ]
  refine wpAnyH_take (i := 2) (oi := ⟨some 4, _, _, _, _, none⟩) (v := ?_) rfl (by kernel_rfl) (by kernel_rfl) (by kernel_rfl) (fun _ _ _ h => h) (Or.inl ⟨by rfl, ?_⟩) s7 ?_
  rotate_left
  · intro wq hSq
    first | (go_simp; done) | (go_simp; with_reducible rfl)
  try simp only [Act.put, List.setIfInBounds_toArray, List.set_cons_zero, List.set_cons_succ]
  refine wpAnyH_ready (rs := [3]) (by kernel_rfl) (by simp) ?_
  refine AllReadyH.cons rfl (fun K hK => ?_) AllReadyH.nil
  go_simp
  have s8 : (World.onObj w7 (B + 1) (laidAt 0 (penC p))).heap[B]? = some (.cells (penC p) 71 (0, 0)) := by rw [heap_onObj, if_neg (by omega)]; exact s7
  have z8 : (World.onObj w7 (B + 1) (laidAt 0 (penC p))).heap[B + 1]? = some (.cells (penC p) 71 (0, 0)) := by rw [heap_onObj, if_pos rfl, z7, Option.map_some, wlaidAt_pen]
  have C8 : Ch [] w (World.onObj w7 (B + 1) (laidAt 0 (penC p))) := C7.onObj (.inr (by rw [HB.out]; omega)) _
  refine hK.out _ _ s8 (fun _ => ?_)
  clear hK K
  generalize World.onObj w7 (B + 1) (laidAt 0 (penC p)) = w8 at *
  refine wpAnyH_take (i := 4) (oi := ⟨some 6, _, _, _, _, none⟩) (v := ?_) rfl (by kernel_rfl) (by kernel_rfl) (by kernel_rfl) (fun _ _ _ h => h) (Or.inl ⟨by rfl, ?_⟩) s8 ?_
  rotate_left
  · intro wq hSq
    first | (go_simp; done) | (go_simp; with_reducible rfl)
  try simp only [Act.put, List.setIfInBounds_toArray, List.set_cons_zero, List.set_cons_succ]
  refine wpAnyH_done (by kernel_rfl) ?_ _
  go_wp2
  refine bodyPost_ret (step_results Tryz.results45 _ (B + 1) _ p _ _ rfl rfl rfl z8) rfl ⟨rfl, C8⟩
set_option maxHeartbeats 2000000 in
set_option maxRecDepth 100000 in
theorem r19Step_out (a : Option Addr) (n c : Nat) (p : PenT) (kd at_ nw : Int) (w : World) (hat : (n : Int) ≤ at_)
    (N1 : ∀ w, Calls Tryz.prog 110 #[.agg (penC p), .int .i64 0] w fun e w' => e = .returned (.tuple #[.agg (accC 0 kd at_ nw), .bool true]) ∧ Ch [] w w') : Calls Tryz.prog 45 #[.slice a n c, .agg (penC p)] w fun e w' => e = .returned (.tuple #[.slice none 0 0, .agg (penC zeroPen), .bool false]) ∧ Ch [] w w' := by
  have C0 : Ch [] w ((w.alloc (.cells (penC p) 71)).alloc (.cells (penC zeroPen) 71)) := ((Ch.refl [] w).alloc _).alloc _
  have b0 := wnew_pen2 p w
  have z0 := wnew_penz p w
  go_enter Tryz.func45, Tryz.ntmps45
  go_wp2_with fail
  generalize (w.alloc (.cells (penC p) 71)).alloc (.cells (penC zeroPen) 71) = W0 at *
  refine (N1 _).mono ?_
  rintro e w3 ⟨rfl, hc3⟩
  have b3 := hkeep hc3 b0
  have z3 := hkeep hc3 z0
  have C3 := C0.trans hc3
  have hA3 := C3.size
  have hne : ¬ w.heap.size + 1 = w3.heap.size := by have := (Array.getElem?_eq_some_iff.1 z3).1; omega
  clear b0 z0 C0 hc3 N1
  go_wp2
  refine bodyPost_ret (step_results Tryz.results45 _ (w.heap.size + 1) _ zeroPen _ _ rfl rfl rfl ?_) rfl ⟨rfl, ?_⟩
  · simp [go_sem, z3, hne]
  · exact ((C3.alloc _).onObj (p := w3.heap.size) (.inr hA3) _).onObj (p := w.heap.size + 1) (.inr (by omega)) _
end Go.Proofs.Hc
/- The reference of layer 19: Step, as a model. -/
namespace Go.Proofs.Hc
open Go.RowKit
/-- What the reference's Step answers at a row of words. -/
def StepR (w : World) (l : List (BitVec 64)) (g c : Nat) (p : PenT) (e : Ending) (w' : World) : Prop :=
  match needP p with
  | none => e = .returned (.tuple #[.slice (some ⟨g, 0, none⟩) l.length c, .agg (penC p), .bool true]) ∧ Ch [] w w'
  | some a => match doP l a with
    | none => e = .returned (.tuple #[.slice none 0 0, .agg (penC zeroPen), .bool false]) ∧ Ch [] w w'
    | some y => ∃ R c2 base, e = .returned (.tuple #[.slice R l.length c2, .agg (penC (takeP p y.2)), .bool true]) ∧ w.heap.size ≤ base ∧ w'.ownsRow base 22 1 (.slice R l.length c2) l.length (y.1.map fun x => U x) ∧ Ch [] w w'
theorem r19Step_any (l : List (BitVec 64)) (g c : Nat) (cur : Array Value) (p : PenT) (w : World) (hl : l.length ≤ 8192) (hb : w.heap[g]? = some (.cells cur 22 (0, 0))) (hw : WordsAt cur l) :
    Calls Tryz.prog 45 #[.slice (some ⟨g, 0, none⟩) l.length c, .agg (penC p)] w (StepR w l g c p) := by
  cases hn : needP p with
  | none =>
    refine (r19Step_over _ p w hn).mono ?_
    rintro e w' ⟨rfl, hC⟩
    unfold StepR
    rw [hn]
    exact ⟨rfl, hC⟩
  | some a =>
    obtain ⟨ha, ha0⟩ := needP_acc hn
    obtain ⟨hr, h13⟩ := needP_some hn
    have R := (rightP_iff p).1 hr
    have N1 : ∀ w, Calls Tryz.prog 110 #[.agg (penC p), .int .i64 0] w fun e w' => e = .returned (.tuple #[.agg (accC 0 a.kind a.at_ (N a.new)), .bool true]) ∧ Ch [] w w' := fun w => by
      have := r19Need_any p 0 w
      rw [hn, needV] at this
      exact this
    have T1 := fun x w => r19Take_any p R h13 x w
    obtain ⟨kd, at_, new⟩ := a
    dsimp only at ha ha0 N1
    obtain ⟨j, rfl⟩ := Int.eq_ofNat_of_zero_le ha0
    rcases Nat.lt_or_ge j l.length with hj | hj
    · obtain ⟨x, hx⟩ : ∃ x, l[j]? = some x := ⟨l[j]'hj, List.getElem?_eq_getElem hj⟩
      have hset : l.set j x = l := by
        apply List.ext_getElem?
        intro i
        rw [List.getElem?_set]
        by_cases h : j = i
        · subst h; rw [if_pos rfl, if_pos hj, hx]
        · rw [if_neg h]
      have key : ∀ (z : BitVec 64), doP l ⟨kd, (j : Int), new⟩ = some (l.set j z, x) →
          (Calls Tryz.prog 45 #[.slice (some ⟨g, 0, none⟩) l.length c, .agg (penC p)] w fun e w' => ∃ R c2 base, e = .returned (.tuple #[.slice R l.length c2, .agg (penC (takeP p x)), .bool true]) ∧ w.heap.size ≤ base ∧ w'.ownsRow base 22 1 (.slice R l.length c2) l.length ((l.set j z).map fun x => U x) ∧ Ch [] w w') →
          Calls Tryz.prog 45 #[.slice (some ⟨g, 0, none⟩) l.length c, .agg (penC p)] w (StepR w l g c p) := by
        intro z hd hX
        refine hX.mono ?_
        intro e w' h
        unfold StepR
        rw [hn]
        dsimp only
        rw [hd]
        exact h
      rcases ha with rfl | rfl | rfl
      · refine key x (by simp [doP, hx, hset]) ?_
        rw [hset]
        exact r19Step_1 l g c cur p (takeP p x) j (N new) x w hj hl hx hb hw N1 (T1 x)
      · exact key new (by simp [doP, hx]) (r19Step_2 l g c cur p (takeP p x) j x new w hj hl hx hb hw N1 (T1 x))
      · exact key (x + new) (by simp [doP, hx]) (r19Step_4 l g c cur p (takeP p x) j x new w hj hl hx hb hw N1 (T1 x))
    · refine (r19Step_out (some ⟨g, 0, none⟩) l.length c p kd (j : Int) (N new) w (by omega) N1).mono ?_
      rintro e w' ⟨rfl, hC⟩
      unfold StepR
      rw [hn]
      dsimp only
      have hd : doP l ⟨kd, (j : Int), new⟩ = none := by simp [doP, List.getElem?_eq_none hj]
      rw [hd]
      exact ⟨rfl, hC⟩
end Go.Proofs.Hc
/- The reference of layer 19: Run. -/
namespace Go.Proofs.Hc
open Go.RowKit
attribute [local go_sem] wrap_u64 wrap_u8 bits_xor64 bits_and64 bits_or64 bits_not64 bits_xor8 bits_and8 bits_or8 signed64 signed8 ofInt_N BitVec.ofInt_add BitVec.ofInt_mul ofInt_sub' ofInt8_N64 ofInt64_N8 wide8 eqN neN shr_pow shr1 shr7 shr56
attribute [local go_sem high] bits_com64 shl_wrap
attribute [local go_sem] cell_heap ice_heap cellAt_cells iceAt_cells setAt_cells rowAt_cells canLay_cells laidAt_cells size_onObj size_setCell rowRes_some layRes_true
attribute [local go_sem] load26 load73 load23 store26 build73
attribute [local go_sem ↓] lrow26 lrow73 lrow23 srow26 zero26 brow73 heap_alloc heap_drew heap_drewN heap_setCell heap_onObj
attribute [local go_sem] tcells_size hcells_size tcells_get hcells_get tcells_one hcells_one hcells_table tcells_table hcells_all hcells_ctrl tcells_ctrl
attribute [local go_sem] nn2 nm2 nn3 nm3 nn4 nm4 nn5 nm5 nn6 nm6 nn7 nm7 nn8 nm8
attribute [local go_sem] nn2 nm2 nn3 nm3 nn4 nm4 nn5 nm5 nn6 nm6 nn7 nm7 nn8 nm8
attribute [local go_sem] ofInt_N ofInt_pow8
attribute [local go_sem] Oper.semAt_some make_func1
attribute [local go_sem] pen_g0 pen_g1 pen_g2 pen_g3 pen_g4 pen_g5 pen_g6 pen_g7 pen_g8 pen_g9 pen_g10 pen_g11 pen_g12 pen_g13 pen_g14 pen_g15 pen_g16 pen_g17 penC_size penC_one penC_all
attribute [local irreducible] penC
attribute [local go_sem] pen_s0 pen_s1 pen_s2 pen_s3 pen_s4 pen_s5 pen_s6 pen_s7 pen_s8 pen_s9 pen_s10 pen_s11 pen_s12 pen_s13 pen_s14 pen_s15 pen_s16 pen_s17
attribute [local go_sem] boxPen loadPen storePen buildPen0
attribute [local go_sem ↓] lrowPen srowPen wzeroPen_run browPen
attribute [local go_sem high] wlaidAt_pen
theorem RunsTo.inv {l : List (BitVec 64)} {p : PenT} {k : Nat} {l' : List (BitVec 64)} {p' : PenT} (h : RunsTo l p k l' p') : (13 < p.ph ∧ k = 0 ∧ l' = l ∧ p' = p) ∨ ∃ a y k1, p.ph ≤ 13 ∧ k = k1 + 1 ∧ needP p = some a ∧ doP l a = some y ∧ RunsTo y.1 (takeP p y.2) k1 l' p' := by
  cases h with
  | done h => exact .inl ⟨h, rfl, rfl, rfl⟩
  | step h1 h2 h3 h4 h5 => exact .inr ⟨_, _, _, h1, rfl, h3, h4, h5⟩
theorem doP_len {l : List (BitVec 64)} {a : AccT} {y : List (BitVec 64) × BitVec 64} (h : doP l a = some y) : y.1.length = l.length := by
  unfold doP at h
  split at h
  · cases h
  · have h := Option.some.inj h
    subst h
    dsimp only
    split
    · rfl
    · split <;> simp
/-- A row of words at a block. -/
def RowIn (w : World) (v : Value) (n : Nat) (l : List (BitVec 64)) : Prop := ∃ r c cur, v = .slice (some ⟨r, 0, none⟩) n c ∧ l.length = n ∧ w.heap[r]? = some (.cells cur 22 (0, 0)) ∧ WordsAt cur l
theorem RowIn.own {w : World} {base n : Nat} {v : Value} {l : List (BitVec 64)} (h : w.ownsRow base 22 1 v n (l.map fun x => U x)) (h1 : 1 ≤ n) : RowIn w v n l := by
  obtain ⟨hlen, ⟨_, h0⟩ | ⟨r, c, cur, rfl, _, hW, _, _, _, htake⟩⟩ := h
  · omega
  · refine ⟨r, c, cur, rfl, by simpa using hlen, hW, ?_⟩
    intro j x hj
    have hjl : j < l.length := (List.getElem?_eq_some_iff.1 hj).1
    have hln : l.length = n := by simpa using hlen
    have : (cur.toList.take (n * 1))[j]? = some (U x) := by rw [htake, List.getElem?_map, hj]; rfl
    rw [List.getElem?_take, if_pos (by omega)] at this
    simpa using this
theorem RowIn.keep {w w' : World} {v : Value} {n : Nat} {l : List (BitVec 64)} (h : RowIn w v n l) (c : Ch [] w w') : RowIn w' v n l := by
  obtain ⟨r, d, cur, rfl, hn, hW, hA⟩ := h
  exact ⟨r, d, cur, rfl, hn, hkeep c hW, hA⟩
theorem r19Step_row {l : List (BitVec 64)} {p : PenT} {v : Value} {n : Nat} {a : AccT} {y : List (BitVec 64) × BitVec 64} (h1 : 1 ≤ n) (hn : n ≤ 8192) (w : World) (hv : RowIn w v n l) (ha : needP p = some a) (hy : doP l a = some y) :
    Calls Tryz.prog 45 #[v, .agg (penC p)] w fun e w' => ∃ v', e = .returned (.tuple #[v', .agg (penC (takeP p y.2)), .bool true]) ∧ RowIn w' v' n y.1 ∧ Ch [] w w' := by
  obtain ⟨r, c, cur, rfl, hln, hW, hA⟩ := hv
  subst hln
  refine (r19Step_any l r c cur p w hn hW hA).mono ?_
  intro e w' h
  unfold StepR at h
  rw [ha] at h
  dsimp only at h
  rw [hy] at h
  obtain ⟨R, c2, base, rfl, _, ho, hC⟩ := h
  exact ⟨_, rfl, RowIn.own ho h1, hC⟩
end Go.Proofs.Hc
/- One who writes, in cells that hold a table: how the key is looked for. Plain law, no program in sight. -/
namespace Go.Proofs.Hc
open Go.RowKit
/-- The same call, by the same hash, in the same slab. -/
structure Alike (p q : PenT) : Prop where
  sl : p.sl = q.sl
  op : p.op = q.op
  key : p.key = q.key
  a : p.a = q.a
  b : p.b = q.b
  hash : p.hash = q.hash
  count : p.count = q.count
theorem Alike.refl (p : PenT) : Alike p p := ⟨rfl, rfl, rfl, rfl, rfl, rfl, rfl⟩
theorem Alike.trans {p q r : PenT} (h : Alike p q) (g : Alike q r) : Alike p r := ⟨h.sl.trans g.sl, h.op.trans g.op, h.key.trans g.key, h.a.trans g.a, h.b.trans g.b, h.hash.trans g.hash, h.count.trans g.count⟩
section
variable {l l' : List (BitVec 64)} {p p' : PenT} {k : Nat}
theorem RunsTo.load (h : RunsTo l p k l' p') (h0 : 0 ≤ p.ph) (h5 : p.ph ≤ 5) {w : BitVec 64} (hw : l[(16 + 40 * p.sl + wordP p).toNat]? = some w) : ∃ k1, k = k1 + 1 ∧ RunsTo l (takeP p w) k1 l' p' := by
  rcases h.inv with ⟨h13, _⟩ | ⟨a, y, k1, _, hk, ha, hy, hr⟩
  · omega
  · have e : a = ⟨1, 16 + 40 * p.sl + wordP p, 0#64⟩ := by
      have hp := needP_some ha
      unfold needP at ha
      rw [if_pos (by simp [hp.1, hp.2]), if_neg (by omega)] at ha
      have ha := (Option.some.inj ha).symm
      simpa only [show ¬ 5 < p.ph by omega, if_false] using ha
    subst e
    have e2 : doP l ⟨1, 16 + 40 * p.sl + wordP p, 0#64⟩ = some (l, w) := by
      unfold doP; dsimp only; rw [hw]; rfl
    rw [e2] at hy
    have hy := Option.some.inj hy
    subst hy
    exact ⟨k1, hk, hr⟩
theorem takeP_store {p : PenT} (h6 : 6 ≤ p.ph) (w : BitVec 64) : takeP p w = { p with ph := nextP (wantsP p) p.ph } := by
  unfold takeP
  rw [if_neg (by omega), if_neg (by omega), if_neg (by omega), if_neg (by omega), if_neg (by omega), if_neg (by omega)]
theorem RunsTo.add (h : RunsTo l p k l' p') (h12 : p.ph = 12) {x : BitVec 64} (hx : l[1]? = some x) : ∃ k1, k = k1 + 1 ∧ RunsTo (l.set 1 (x + byP (wantsP p))) { p with ph := nextP (wantsP p) p.ph } k1 l' p' := by
  rcases h.inv with ⟨h13, _⟩ | ⟨a, y, k1, _, hk, ha, hy, hr⟩
  · omega
  · have e : a = ⟨4, 1, byP (wantsP p)⟩ := by
      have hp := needP_some ha
      unfold needP at ha
      rw [if_pos (by simp [hp.1, hp.2]), if_pos h12] at ha
      exact (Option.some.inj ha).symm
    subst e
    have e2 : doP l ⟨4, 1, byP (wantsP p)⟩ = some (l.set 1 (x + byP (wantsP p)), x) := by
      unfold doP
      dsimp only
      rw [show (1 : Int).toNat = 1 by rfl, hx]
      dsimp only
      rw [if_neg (by decide), if_neg (by decide)]
    rw [e2] at hy
    have hy := Option.some.inj hy
    subst hy
    rw [takeP_store (by omega)] at hr
    exact ⟨k1, hk, hr⟩
end
end Go.Proofs.Hc
/- Law 19: WriteSteps, the walk (printed by gen_steps19.py). -/
namespace Go.Proofs.Hc
open Go.RowKit
attribute [local go_sem] wrap_u64 wrap_u8 bits_xor64 bits_and64 bits_or64 bits_not64 bits_xor8 bits_and8 bits_or8 signed64 signed8 ofInt_N BitVec.ofInt_add BitVec.ofInt_mul ofInt_sub' ofInt8_N64 ofInt64_N8 wide8 eqN neN shr_pow shr1 shr7 shr56
attribute [local go_sem high] bits_com64 shl_wrap
attribute [local go_sem] cell_heap ice_heap cellAt_cells iceAt_cells setAt_cells rowAt_cells canLay_cells laidAt_cells size_onObj size_setCell rowRes_some layRes_true
attribute [local go_sem] load26 load73 load23 store26 build73
attribute [local go_sem ↓] lrow26 lrow73 lrow23 srow26 zero26 brow73 heap_alloc heap_drew heap_drewN heap_setCell heap_onObj
attribute [local go_sem] tcells_size hcells_size tcells_get hcells_get tcells_one hcells_one hcells_table tcells_table hcells_all hcells_ctrl tcells_ctrl
attribute [local go_sem] nn2 nm2 nn3 nm3 nn4 nm4 nn5 nm5 nn6 nm6 nn7 nm7 nn8 nm8
attribute [local go_sem] nn2 nm2 nn3 nm3 nn4 nm4 nn5 nm5 nn6 nm6 nn7 nm7 nn8 nm8
attribute [local go_sem] ofInt_N ofInt_pow8
attribute [local go_sem] Oper.semAt_some make_func1
attribute [local go_sem] pen_g0 pen_g1 pen_g2 pen_g3 pen_g4 pen_g5 pen_g6 pen_g7 pen_g8 pen_g9 pen_g10 pen_g11 pen_g12 pen_g13 pen_g14 pen_g15 pen_g16 pen_g17 penC_size penC_one penC_all
attribute [local irreducible] penC
attribute [local go_sem] pen_s0 pen_s1 pen_s2 pen_s3 pen_s4 pen_s5 pen_s6 pen_s7 pen_s8 pen_s9 pen_s10 pen_s11 pen_s12 pen_s13 pen_s14 pen_s15 pen_s16 pen_s17
attribute [local go_sem] boxPen loadPen storePen buildPen0
attribute [local go_sem ↓] lrowPen srowPen wzeroPen_run browPen
attribute [local go_sem high] wlaidAt_pen
theorem eqin_pen (p : PenT) (w : World) : (Op.equalIn 10000 71 (.agg (penC p)) (.agg (penC p))).run Tryz.prog w = .ok true w := self_pen 9997 p w
attribute [local go_sem] guardPen
attribute [local go_sem ↓] eqin_pen eql_pen neq_pen
theorem own_row {w : World} {base n : Nat} {v : Value} {l : List (BitVec 64)} (h : w.ownsRow base 22 1 v n (l.map fun x => U x)) (h1 : 1 ≤ n) : ∃ r c cur, v = .slice (some ⟨r, 0, none⟩) n c ∧ base ≤ r ∧ l.length = n ∧ WordsAt cur l ∧ w.heap[r]? = some (.cells cur 22 (0, 0)) := by
  obtain ⟨r0, c0, cur0, hv0, hl0, hW0, hA0⟩ := RowIn.own h h1
  obtain ⟨hlen, ⟨_, h0⟩ | ⟨r, c, cur, rfl, hb, hW, _⟩⟩ := h
  · omega
  · simp only [Value.slice.injEq, Option.some.injEq, Addr.mk.injEq] at hv0
    obtain ⟨⟨rfl, _⟩, _, rfl⟩ := hv0
    rw [hW0] at hW
    have := Option.some.inj hW
    injection this with e1
    subst e1
    exact ⟨r, c, cur0, rfl, hb, hl0, hA0, hW0⟩
theorem eq_nil (w : World) : Calls Tryz.prog 46 #[.slice none 0 0, .slice none 0 0] w fun e w' => e = .returned (.bool true) ∧ Ch [] w w' :=
  eqWords_any [] none none 0 0 #[] #[] w (by simp) (by intro j x h; cases h) (by simp) (by intro r h; cases h) (by intro j x h; cases h) (by simp) (by intro r h; cases h)
theorem eq_rows {l : List (BitVec 64)} {n : Nat} (hn : n ≤ 900000) (hl : l.length = n) (R R2 c d : Nat) (cur cur2 : Array Value) (h1 : WordsAt cur l) (h2 : WordsAt cur2 l) (w : World) (hb : w.heap[R]? = some (.cells cur 22 (0, 0))) (hb2 : w.heap[R2]? = some (.cells cur2 22 (0, 0))) :
    Calls Tryz.prog 46 #[.slice (some ⟨R, 0, none⟩) n c, .slice (some ⟨R2, 0, none⟩) n d] w fun e w' => e = .returned (.bool true) ∧ Ch [] w w' := by
  subst hl
  exact eqWords_any l _ _ c d cur cur2 w hn h1 (fun _ => ⟨R, rfl⟩) (fun r h => by cases h; exact hb) h2 (fun _ => ⟨R2, rfl⟩) (fun r h => by cases h; exact hb2)
theorem zput (w : World) : (w.alloc (.cells (penC zeroPen) 71)).heap[w.heap.size]? = some (.cells (penC zeroPen) 71 (0, 0)) := by rw [heap_alloc, if_pos rfl]
theorem zput_ch (w : World) : Ch [] w (w.alloc (.cells (penC zeroPen) 71)) := (Ch.refl [] w).alloc _
end Go.Proofs.Hc
