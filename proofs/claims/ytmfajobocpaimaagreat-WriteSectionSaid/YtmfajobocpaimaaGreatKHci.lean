/- Package cells: Do, as a model. -/
import Derived.Test.YtmfajobocpaimaaGreatKHmet
import Derived.Test.YtmfajobocpaimaaGreatKHcc
import Derived.Test.YtmfajobocpaimaaGreatKHcd
import Derived.Test.YtmfajobocpaimaaGreatKHce
import Derived.Test.YtmfajobocpaimaaGreatKHcg
import Derived.Test.YtmfajobocpaimaaGreatKHcs
import Derived.Test.YtmfajobocpaimaaGreatKHdv
import Derived.Test.YtmfajobocpaimaaGreatKHm
import Derived.Test.YtmfajobocpaimaaGreatKHma
import Derived.Test.YtmfajobocpaimaaGreatKHnl
import Derived.Test.YtmfajobocpaimaaGreatKHns
import Derived.Test.YtmfajobocpaimaaGreatKHnt
import Derived.Test.YtmfajobocpaimaaGreatKHnw
import Derived.Test.YtmfajobocpaimaaGreatKHni
import Derived.Test.YtmfajobocpaimaaGreatKHxh
import Derived.Below
import Derived.BigQuiet
import Derived.Deep.Draws
import Derived.Deep.Light
import Derived.Deep.OwnRows
import Derived.Deep.QuietTactic
import Derived.Deep.RegionHeld
import Derived.IntWalk
import Derived.Laws.CopyOwn
import Derived.Laws.CopyRow
import Derived.Laws.Tables
import Derived.Lib.AppendZerosOnto
import Derived.Lib.Hide
import Derived.Lib.Tables
import Derived.Lib.Walk
import Derived.LoopIn
import Derived.LoopN
import Derived.LoopNIn
import Derived.Maps.AppendAt
import Derived.Maps.Views
import Derived.OwnWalkIn
import Derived.RangeFuncBox
import Derived.RangeFuncCalls
import Derived.RangeFuncRecord
import Derived.RangeFuncSeq
import Derived.Recover
import Derived.RegionTactic
import Derived.Shelf.Slices.Clone
import Derived.StillTail
import Derived.StillTailTactics
import Derived.TacticsInMore
import Derived.Test.YtmfajobocpaimaaGreatProg
import Derived.WalkKit
import Derived.WalkLawsBesides
import Derived.WalkMore
import Derived.WalkSpells
import Derived.Laws.StructEq
import Derived.ScopeJumps
set_option linter.unusedSimpArgs false
set_option linter.unusedVariables false
namespace Go.Proofs.Hc
open Go.RowKit
attribute [local go_sem] wrap_u64 wrap_u8 bits_xor64 bits_and64 bits_or64 bits_not64 bits_xor8 bits_and8 bits_or8 signed64 signed8 ofInt_N BitVec.ofInt_add BitVec.ofInt_mul ofInt_sub' ofInt8_N64 ofInt64_N8 wide8 eqN neN shr_pow shr1 shr7 shr56
attribute [local go_sem high] bits_com64 shl_wrap
attribute [local go_sem] cell_heap ice_heap cellAt_cells iceAt_cells setAt_cells rowAt_cells canLay_cells laidAt_cells size_onObj size_setCell rowRes_some layRes_true
attribute [local go_sem] load26 load73 load23 store26 build73
attribute [local go_sem ↓] lrow26 lrow73 lrow23 srow26 zero26 brow73 heap_alloc heap_drew heap_drewN heap_setCell heap_onObj
attribute [local go_sem] tcells_size hcells_size tcells_get hcells_get tcells_one hcells_one hcells_table tcells_table hcells_all hcells_ctrl tcells_ctrl
attribute [local go_sem] nn2 nm2 nn3 nm3 nn4 nm4 nn5 nm5 nn6 nm6 nn7 nm7 nn8 nm8
attribute [local go_sem] nn2 nm2 nn3 nm3 nn4 nm4 nn5 nm5 nn6 nm6 nn7 nm7 nn8 nm8
attribute [local go_sem] acc_g0 acc_g1 acc_g2 acc_g4 acc_s0 acc_s1 acc_s2 acc_s4 accC_size accC_one accC_all loadAcc storeAcc bacc0 bacc2 bacc3 bacc3u bacc4
attribute [local go_sem ↓] lrowAcc srowAcc browAcc zeroAcc_run
attribute [local go_sem high] laidAt_acc
attribute [local go_sem] loadAcs storeAcs buildAcs boxAcs boxAcc meth_load meth_swap
attribute [local go_sem ↓] lrowAcs srowAcs browAcs zeroAcs_run
attribute [local go_sem] seenC_size seenC_one seenC_all seenC_g0 loadSeen storeSeen buildSeen buildSeen0
attribute [local go_sem ↓] lrowSeen srowSeen browSeen zeroSeen_run
attribute [local go_sem high] laidAt_seen
attribute [local irreducible] seenC
attribute [local go_sem] Oper.semAt_some make_func1 ofInt_N
attribute [local irreducible] accC
set_option maxHeartbeats 2000000 in
set_option maxRecDepth 100000 in
theorem Do_bad (k : Int) (a d : Int) (n g c : Nat) (w : World) (hk : 1 ≤ k) (hk4 : k ≤ 4) (ha : (n : Int) ≤ a) (hn1 : 1 ≤ n) (hl : n ≤ 8192) :
    Calls Tryz.prog 105 #[.slice (some ⟨g, 0, none⟩) n c, .agg (accC 0 k a d)] w fun e w' => e = .returned (.tuple #[.slice none 0 0, .agg (seenC 0 false), I 2]) ∧ Ch [] w w' := by
  have K1 := fun w => cCheck_at k a n d hk hk4 (by omega) ha (by omega) (by omega) w
  have C0 : Ch [] w (World.onObj (((w.alloc (.cells (accC 0 k a d) 96)).alloc (.cells (seenC 0 false) 157)).alloc (.cells (accC 0 0 0 0) 217)) (w.heap.size + 1 + 1) (laidAt 0 (accC 0 k a d))) := ((((Ch.refl [] w).alloc _).alloc _).alloc _).onObj (p := w.heap.size + 1 + 1) (.inr (by omega)) _
  have z0 : (World.onObj (((w.alloc (.cells (accC 0 k a d) 96)).alloc (.cells (seenC 0 false) 157)).alloc (.cells (accC 0 0 0 0) 217)) (w.heap.size + 1 + 1) (laidAt 0 (accC 0 k a d))).heap[w.heap.size + 1]? = some (.cells (seenC 0 false) 157 (0, 0)) := by
    rw [heap_onObj, if_neg (by omega), heap_alloc, if_neg (by simp), heap_alloc, if_pos (by simp)]
  clear hk hk4 ha hn1 hl
  go_enter Tryz.func105, Tryz.ntmps105
  go_wp2_with fail
  generalize World.onObj (((w.alloc (.cells (accC 0 k a d) 96)).alloc (.cells (seenC 0 false) 157)).alloc (.cells (accC 0 0 0 0) 217)) (w.heap.size + 1 + 1) (laidAt 0 (accC 0 k a d)) = W0 at *
  refine (K1 _).mono ?_
  rintro e w1 ⟨rfl, hc1⟩
  have z1 := hkeep hc1 z0
  have C1 := C0.trans hc1
  go_wp2
  refine bodyPost_ret (do_results Tryz.results105 _ (w.heap.size + 1) _ 0 false _ _ rfl rfl rfl ?_) rfl ⟨rfl, C1.onObj (p := w.heap.size + 1) (.inr (by omega)) _⟩
  simp [go_sem, z1]
/-- A row that the call made, at a block of its own. -/
def RowAt_ (w0 w : World) (R : Nat) (l : List (BitVec 64)) : Prop := w0.heap.size ≤ R ∧ w.heap[R]? = some (.cells (wcells l) 22 (0, 0))
/-- The answer of Do. -/
def DoPost (w : World) (l : List (BitVec 64)) (a : AccT) (e : Ending) (w' : World) : Prop :=
  match doP l a with
  | none => e = .returned (.tuple #[.slice none 0 0, .agg (seenC 0 false), I 2]) ∧ Ch [] w w'
  | some y => ∃ R, e = .returned (.tuple #[.slice (some ⟨R, 0, none⟩) l.length l.length, .agg (seenC (N y.2) true), I 0]) ∧ RowAt_ w w' R y.1 ∧ y.1.length = l.length ∧ Ch [] w w'
theorem Do_any (l : List (BitVec 64)) (a : AccT) (g c : Nat) (cur : Array Value) (w : World) (hk : a.kind = 1 ∨ a.kind = 2 ∨ a.kind = 4) (ha : 0 ≤ a.at_) (h1 : 1 ≤ l.length) (hl : l.length ≤ 8192)
    (hb : w.heap[g]? = some (.cells cur 22 (0, 0))) (hw : WordsAt cur l) :
    Calls Tryz.prog 105 #[.slice (some ⟨g, 0, none⟩) l.length c, .agg (accC 0 a.kind a.at_ (N a.new))] w (DoPost w l a) := by
  obtain ⟨kd, at_, new⟩ := a
  simp only at hk ha ⊢
  obtain ⟨j, rfl⟩ := Int.eq_ofNat_of_zero_le ha
  rcases Nat.lt_or_ge j l.length with hj | hj
  · obtain ⟨x, hx⟩ : ∃ x, l[j]? = some x := ⟨l[j]'hj, List.getElem?_eq_getElem hj⟩
    have key : ∀ (k : Nat) (z : BitVec 64), kd = (k : Int) → 1 ≤ k → k ≤ 4 → (doP l ⟨kd, (j : Int), new⟩ = some (l.set j z, x)) →
        (∀ (r : Nat) (w : World), w.heap[r]? = some (.cells (wcells l) 22 (0, 0)) → Calls Tryz.prog 156 #[.agg (accC 0 k j (N new)), .iface 221 (.agg #[.slice (some ⟨r, j, none⟩) 1 1])] w (DoesPost w r j (wcells l) x z)) →
        Calls Tryz.prog 105 #[.slice (some ⟨g, 0, none⟩) l.length c, .agg (accC 0 kd j (N new))] w (DoPost w l ⟨kd, (j : Int), new⟩) := by
      intro k z hkd h1k h4k hd hX
      subst hkd
      refine (Do_core k j (N new) x z l g c cur w h1k h4k hj hl hx hb hw hX).mono ?_
      rintro e w' ⟨R, rfl, hR, hRow, hC⟩
      unfold DoPost
      rw [hd]
      exact ⟨R, rfl, ⟨hR, hRow⟩, by simp, hC⟩
    have hset : l.set j x = l := by
      apply List.ext_getElem?
      intro i
      rw [List.getElem?_set]
      by_cases h : j = i
      · subst h; rw [if_pos rfl, if_pos hj, hx]
      · rw [if_neg h]
    rcases hk with rfl | rfl | rfl
    · refine key 1 x rfl (by omega) (by omega) ?_ (fun r w h => does_1 j (N new) x r j (wcells l) w h (wcells_at l j x hx))
      simp [doP, hx, hset]
    · refine key 2 new rfl (by omega) (by omega) ?_ (fun r w h => does_2 j new x r j (wcells l) w h (wcells_at l j x hx))
      simp [doP, hx]
    · refine key 4 (x + new) rfl (by omega) (by omega) ?_ (fun r w h => does_4 j new x r j (wcells l) w h (wcells_at l j x hx))
      simp [doP, hx]
  · refine (Do_bad kd j (N new) l.length g c w (by omega) (by omega) (by omega) h1 hl).mono ?_
    rintro e w' ⟨rfl, hC⟩
    unfold DoPost
    have hd : doP l ⟨kd, (j : Int), new⟩ = none := by
      simp [doP, List.getElem?_eq_none hj]
    rw [hd]
    exact ⟨rfl, hC⟩
end Go.Proofs.Hc
/- Package write: Step where the pen goes on. -/
namespace Go.Proofs.Hc
open Go.RowKit
attribute [local go_sem] wrap_u64 wrap_u8 bits_xor64 bits_and64 bits_or64 bits_not64 bits_xor8 bits_and8 bits_or8 signed64 signed8 ofInt_N BitVec.ofInt_add BitVec.ofInt_mul ofInt_sub' ofInt8_N64 ofInt64_N8 wide8 eqN neN shr_pow shr1 shr7 shr56
attribute [local go_sem high] bits_com64 shl_wrap
attribute [local go_sem] cell_heap ice_heap cellAt_cells iceAt_cells setAt_cells rowAt_cells canLay_cells laidAt_cells size_onObj size_setCell rowRes_some layRes_true
attribute [local go_sem] load26 load73 load23 store26 build73
attribute [local go_sem ↓] lrow26 lrow73 lrow23 srow26 zero26 brow73 heap_alloc heap_drew heap_drewN heap_setCell heap_onObj
attribute [local go_sem] tcells_size hcells_size tcells_get hcells_get tcells_one hcells_one hcells_table tcells_table hcells_all hcells_ctrl tcells_ctrl
attribute [local go_sem] nn2 nm2 nn3 nm3 nn4 nm4 nn5 nm5 nn6 nm6 nn7 nm7 nn8 nm8
attribute [local go_sem] nn2 nm2 nn3 nm3 nn4 nm4 nn5 nm5 nn6 nm6 nn7 nm7 nn8 nm8
attribute [local go_sem] ofInt_N ofInt_pow8
attribute [local go_sem] Oper.semAt_some make_func1
attribute [local go_sem] pen_g0 pen_g1 pen_g2 pen_g3 pen_g4 pen_g5 pen_g6 pen_g7 pen_g8 pen_g9 pen_g10 pen_g11 pen_g12 pen_g13 pen_g14 pen_g15 pen_g16 pen_g17 penC_size penC_one penC_all
attribute [local irreducible] penC
attribute [local go_sem] pen_s0 pen_s1 pen_s2 pen_s3 pen_s4 pen_s5 pen_s6 pen_s7 pen_s8 pen_s9 pen_s10 pen_s11 pen_s12 pen_s13 pen_s14 pen_s15 pen_s16 pen_s17
attribute [local go_sem] acc_g0 acc_g1 acc_g2 acc_g4 acc_s0 acc_s1 acc_s2 acc_s4 accC_size accC_one accC_all loadAcc storeAcc bacc0 bacc2 bacc3 bacc3u bacc4
attribute [local go_sem ↓] lrowAcc srowAcc browAcc zeroAcc_run
attribute [local go_sem high] laidAt_acc
attribute [local go_sem] seenC_size seenC_one seenC_all seenC_g0 loadSeen storeSeen buildSeen buildSeen0
attribute [local go_sem ↓] lrowSeen srowSeen browSeen zeroSeen_run
attribute [local go_sem high] laidAt_seen
attribute [local irreducible] seenC
attribute [local irreducible] accC
attribute [local go_sem] boxPen loadPen storePen buildPen0
attribute [local go_sem ↓] lrowPen srowPen wzeroPen_run browPen
attribute [local go_sem high] wlaidAt_pen
set_option maxHeartbeats 2000000 in
set_option maxRecDepth 100000 in
theorem wStep_out (l : List (BitVec 64)) (g c : Nat) (cur : Array Value) (p : PenT) (kd at_ nw : Int) (w : World) (h1 : 1 ≤ l.length) (hl : l.length ≤ 8192) (hb : w.heap[g]? = some (.cells cur 22 (0, 0))) (hw : WordsAt cur l) (hr : rightP p = true)
    (N1 : ∀ w, Calls Tryz.prog 57 #[.agg (penC p), .int .i64 0] w fun e w' => e = .returned (.tuple #[.agg (accC 0 kd at_ nw), .bool true]) ∧ Ch [] w w')
    (D1 : ∀ w, w.heap[g]? = some (.cells cur 22 (0, 0)) → Calls Tryz.prog 105 #[.slice (some ⟨g, 0, none⟩) l.length c, .agg (accC 0 kd at_ nw)] w fun e w' => e = .returned (.tuple #[.slice none 0 0, .agg (seenC 0 false), I 2]) ∧ Ch [] w w')
    : Calls Tryz.prog 43 #[.slice (some ⟨g, 0, none⟩) l.length c, .agg (penC p)] w fun e w' => e = .returned (.tuple #[.slice none 0 0, .agg (penC zeroPen), I 2]) ∧ Ch [] w w' := by
  have C0 : Ch [] w ((w.alloc (.cells (penC p) 71)).alloc (.cells (penC zeroPen) 71)) := ((Ch.refl [] w).alloc _).alloc _
  have b0 := wnew_pen2 p w
  have z0 := wnew_penz p w
  have hgl := hkeep C0 hb
  have S1 := fun w h => cRun_some l g c cur w h1 hl h hw
  have K1 := fun w => check_pen p w
  rw [checkV_yes hr] at K1
  generalize wcells l = cu at *
  generalize l.length = n at *
  have hgw : g < w.heap.size := (Array.getElem?_eq_some_iff.1 hb).1
  clear hb hw hr
  go_enter Tryz.func43, Tryz.ntmps43
  go_wp2_with fail
  generalize (w.alloc (.cells (penC p) 71)).alloc (.cells (penC zeroPen) 71) = W0 at *
  refine (S1 _ hgl).mono ?_
  rintro e w1 ⟨rfl, hR1, hc1⟩
  have b1 := hkeep hc1 b0
  have z1 := hkeep hc1 z0
  have g1 := hkeep hc1 hgl
  have C1 := C0.trans hc1
  have hRb : w.heap.size < W0.heap.size := (Array.getElem?_eq_some_iff.1 b0).1
  have hRz : w.heap.size + 1 < W0.heap.size := (Array.getElem?_eq_some_iff.1 z0).1
  have hW1 := hc1.size
  clear b0 z0 hgl C0 hc1 S1 hR1
  go_wp2_with fail
  refine (K1 _).mono ?_
  rintro e w2 ⟨rfl, hc2⟩
  have b2 := hkeep hc2 b1
  have z2 := hkeep hc2 z1
  have g2 := hkeep hc2 g1
  have C2 := C1.trans hc2
  clear b1 z1 g1 C1 hc2 K1
  go_wp2_with fail
  refine (N1 _).mono ?_
  rintro e w3 ⟨rfl, hc3⟩
  have b3 := hkeep hc3 b2
  have z3 := hkeep hc3 z2
  have g3 := hkeep hc3 g2
  have C3 := C2.trans hc3
  have hA3 := C3.size
  clear b2 z2 C2 hc3 N1 g2
  have k1 : w.heap.size < w3.heap.size := (Array.getElem?_eq_some_iff.1 b3).1
  have k2 : w.heap.size + 1 < w3.heap.size := (Array.getElem?_eq_some_iff.1 z3).1
  have k3 : g < w3.heap.size := (Array.getElem?_eq_some_iff.1 g3).1
  have hcA : Ch [] w3 (w3.alloc (.cells (accC 0 0 0 0) 96)) := (Ch.refl [] w3).alloc _
  have bb : (World.onObj (w3.alloc (.cells (accC 0 0 0 0) 96)) w3.heap.size (laidAt 0 (accC 0 kd at_ nw))).heap[w.heap.size]? = some (.cells (penC p) 71 (0, 0)) := by rw [heap_onObj, if_neg (by omega)]; exact hkeep hcA b3
  have zz : (World.onObj (w3.alloc (.cells (accC 0 0 0 0) 96)) w3.heap.size (laidAt 0 (accC 0 kd at_ nw))).heap[w.heap.size + 1]? = some (.cells (penC zeroPen) 71 (0, 0)) := by rw [heap_onObj, if_neg (by omega)]; exact hkeep hcA z3
  have gg : (World.onObj (w3.alloc (.cells (accC 0 0 0 0) 96)) w3.heap.size (laidAt 0 (accC 0 kd at_ nw))).heap[g]? = some (.cells cur 22 (0, 0)) := by rw [heap_onObj, if_neg (by omega)]; exact hkeep hcA g3
  have aa : (World.onObj (w3.alloc (.cells (accC 0 0 0 0) 96)) w3.heap.size (laidAt 0 (accC 0 kd at_ nw))).heap[w3.heap.size]? = some (.cells (accC 0 kd at_ nw) 96 (0, 0)) := by rw [heap_onObj, if_pos rfl, heap_alloc, if_pos rfl, Option.map_some, laidAt_acc]
  have CC : Ch [] w (World.onObj (w3.alloc (.cells (accC 0 0 0 0) 96)) w3.heap.size (laidAt 0 (accC 0 kd at_ nw))) := (C3.trans hcA).onObj (.inr hA3) _
  clear b3 z3 C3 hcA g3
  go_wp2_with fail
  generalize World.onObj (w3.alloc (.cells (accC 0 0 0 0) 96)) w3.heap.size (laidAt 0 (accC 0 kd at_ nw)) = w4 at *
  obtain ⟨B, hB⟩ : ∃ B, w.heap.size = B := ⟨_, rfl⟩
  rw [hB] at bb zz hRb hRz hA3 k1 k2 hgw ⊢
  have HB := Lib.hid hB
  clear hB
  generalize w3.heap.size = A at *
  refine (D1 _ gg).mono ?_
  rintro e w5 ⟨rfl, hc5⟩
  have b5 := hkeep hc5 bb
  have z5 := hkeep hc5 zz
  have C5 := CC.trans hc5
  have l5 : B < w5.heap.size := (Array.getElem?_eq_some_iff.1 b5).1
  have m5 : B + 1 < w5.heap.size := (Array.getElem?_eq_some_iff.1 z5).1
  have hA5 := C5.size
  rw [HB.out] at hA5
  clear bb zz gg aa CC hc5 D1
  have hcA : Ch [] w5 (w5.alloc (.cells (seenC 0 false) 157)) := (Ch.refl [] w5).alloc _
  have bb : (World.onObj (w5.alloc (.cells (seenC 0 false) 157)) w5.heap.size (laidAt 0 (seenC 0 false))).heap[B]? = some (.cells (penC p) 71 (0, 0)) := by rw [heap_onObj, if_neg (by omega)]; exact hkeep hcA b5
  have zz : (World.onObj (w5.alloc (.cells (seenC 0 false) 157)) w5.heap.size (laidAt 0 (seenC 0 false))).heap[B + 1]? = some (.cells (penC zeroPen) 71 (0, 0)) := by rw [heap_onObj, if_neg (by omega)]; exact hkeep hcA z5
  have CC : Ch [] w (World.onObj (w5.alloc (.cells (seenC 0 false) 157)) w5.heap.size (laidAt 0 (seenC 0 false))) := (C5.trans hcA).onObj (.inr (by rw [HB.out]; exact hA5)) _
  have hBn : ¬ B = w5.heap.size := by omega
  have hBn1 : ¬ B + 1 = w5.heap.size := by omega
  clear C5 hcA l5 m5
  go_wp2
  refine bodyPost_ret (step_results Tryz.results43 _ (B + 1) _ zeroPen _ _ rfl rfl rfl ?_) rfl ⟨rfl, CC.onObj (p := B + 1) (.inr (by rw [HB.out]; omega)) _⟩
  simp [go_sem, z5, hBn1]
set_option maxHeartbeats 2000000 in
set_option maxRecDepth 100000 in
theorem wStep_go (l : List (BitVec 64)) (g c : Nat) (cur cy : Array Value) (p q : PenT) (kd at_ nw x : Int) (w : World) (h1 : 1 ≤ l.length) (hl : l.length ≤ 8192) (hb : w.heap[g]? = some (.cells cur 22 (0, 0))) (hw : WordsAt cur l) (hr : rightP p = true)
    (N1 : ∀ w, Calls Tryz.prog 57 #[.agg (penC p), .int .i64 0] w fun e w' => e = .returned (.tuple #[.agg (accC 0 kd at_ nw), .bool true]) ∧ Ch [] w w')
    (D1 : ∀ w, w.heap[g]? = some (.cells cur 22 (0, 0)) → Calls Tryz.prog 105 #[.slice (some ⟨g, 0, none⟩) l.length c, .agg (accC 0 kd at_ nw)] w fun e w' => ∃ Rr, e = .returned (.tuple #[.slice (some ⟨Rr, 0, none⟩) l.length l.length, .agg (seenC x true), I 0]) ∧ w.heap.size ≤ Rr ∧ w'.heap[Rr]? = some (.cells cy 22 (0, 0)) ∧ Ch [] w w')
    (T1 : ∀ w, Calls Tryz.prog 106 #[.agg (penC p), .int .u64 x] w fun e w' => e = .returned (.tuple #[.agg (penC q), I 0]) ∧ Ch [] w w') : Calls Tryz.prog 43 #[.slice (some ⟨g, 0, none⟩) l.length c, .agg (penC p)] w fun e w' => ∃ R, e = .returned (.tuple #[.slice (some ⟨R, 0, none⟩) l.length l.length, .agg (penC q), I 0]) ∧ w.heap.size ≤ R ∧ w'.heap[R]? = some (.cells cy 22 (0, 0)) ∧ Ch [] w w' := by
  have C0 : Ch [] w ((w.alloc (.cells (penC p) 71)).alloc (.cells (penC zeroPen) 71)) := ((Ch.refl [] w).alloc _).alloc _
  have b0 := wnew_pen2 p w
  have z0 := wnew_penz p w
  have hgl := hkeep C0 hb
  have S1 := fun w h => cRun_some l g c cur w h1 hl h hw
  have K1 := fun w => check_pen p w
  rw [checkV_yes hr] at K1
  generalize wcells l = cu at *
  generalize l.length = n at *
  have hgw : g < w.heap.size := (Array.getElem?_eq_some_iff.1 hb).1
  clear hb hw hr
  go_enter Tryz.func43, Tryz.ntmps43
  go_wp2_with fail
  generalize (w.alloc (.cells (penC p) 71)).alloc (.cells (penC zeroPen) 71) = W0 at *
  refine (S1 _ hgl).mono ?_
  rintro e w1 ⟨rfl, hR1, hc1⟩
  have b1 := hkeep hc1 b0
  have z1 := hkeep hc1 z0
  have g1 := hkeep hc1 hgl
  have C1 := C0.trans hc1
  have hRb : w.heap.size < W0.heap.size := (Array.getElem?_eq_some_iff.1 b0).1
  have hRz : w.heap.size + 1 < W0.heap.size := (Array.getElem?_eq_some_iff.1 z0).1
  have hW1 := hc1.size
  clear b0 z0 hgl C0 hc1 S1 hR1
  go_wp2_with fail
  refine (K1 _).mono ?_
  rintro e w2 ⟨rfl, hc2⟩
  have b2 := hkeep hc2 b1
  have z2 := hkeep hc2 z1
  have g2 := hkeep hc2 g1
  have C2 := C1.trans hc2
  clear b1 z1 g1 C1 hc2 K1
  go_wp2_with fail
  refine (N1 _).mono ?_
  rintro e w3 ⟨rfl, hc3⟩
  have b3 := hkeep hc3 b2
  have z3 := hkeep hc3 z2
  have g3 := hkeep hc3 g2
  have C3 := C2.trans hc3
  have hA3 := C3.size
  clear b2 z2 C2 hc3 N1 g2
  have k1 : w.heap.size < w3.heap.size := (Array.getElem?_eq_some_iff.1 b3).1
  have k2 : w.heap.size + 1 < w3.heap.size := (Array.getElem?_eq_some_iff.1 z3).1
  have k3 : g < w3.heap.size := (Array.getElem?_eq_some_iff.1 g3).1
  have hcA : Ch [] w3 (w3.alloc (.cells (accC 0 0 0 0) 96)) := (Ch.refl [] w3).alloc _
  have bb : (World.onObj (w3.alloc (.cells (accC 0 0 0 0) 96)) w3.heap.size (laidAt 0 (accC 0 kd at_ nw))).heap[w.heap.size]? = some (.cells (penC p) 71 (0, 0)) := by rw [heap_onObj, if_neg (by omega)]; exact hkeep hcA b3
  have zz : (World.onObj (w3.alloc (.cells (accC 0 0 0 0) 96)) w3.heap.size (laidAt 0 (accC 0 kd at_ nw))).heap[w.heap.size + 1]? = some (.cells (penC zeroPen) 71 (0, 0)) := by rw [heap_onObj, if_neg (by omega)]; exact hkeep hcA z3
  have gg : (World.onObj (w3.alloc (.cells (accC 0 0 0 0) 96)) w3.heap.size (laidAt 0 (accC 0 kd at_ nw))).heap[g]? = some (.cells cur 22 (0, 0)) := by rw [heap_onObj, if_neg (by omega)]; exact hkeep hcA g3
  have aa : (World.onObj (w3.alloc (.cells (accC 0 0 0 0) 96)) w3.heap.size (laidAt 0 (accC 0 kd at_ nw))).heap[w3.heap.size]? = some (.cells (accC 0 kd at_ nw) 96 (0, 0)) := by rw [heap_onObj, if_pos rfl, heap_alloc, if_pos rfl, Option.map_some, laidAt_acc]
  have CC : Ch [] w (World.onObj (w3.alloc (.cells (accC 0 0 0 0) 96)) w3.heap.size (laidAt 0 (accC 0 kd at_ nw))) := (C3.trans hcA).onObj (.inr hA3) _
  clear b3 z3 C3 hcA g3
  go_wp2_with fail
  generalize World.onObj (w3.alloc (.cells (accC 0 0 0 0) 96)) w3.heap.size (laidAt 0 (accC 0 kd at_ nw)) = w4 at *
  obtain ⟨B, hB⟩ : ∃ B, w.heap.size = B := ⟨_, rfl⟩
  rw [hB] at bb zz hRb hRz hA3 k1 k2 hgw ⊢
  have HB := Lib.hid hB
  clear hB
  generalize w3.heap.size = A at *
  refine (D1 _ gg).mono ?_
  rintro e w5 ⟨Rr, rfl, hRr, r5, hc5⟩
  have b5 := hkeep hc5 bb
  have z5 := hkeep hc5 zz
  have C5 := CC.trans hc5
  have l5 : B < w5.heap.size := (Array.getElem?_eq_some_iff.1 b5).1
  have m5 : B + 1 < w5.heap.size := (Array.getElem?_eq_some_iff.1 z5).1
  have n5 : Rr < w5.heap.size := (Array.getElem?_eq_some_iff.1 r5).1
  have hA5 := C5.size
  have hA4 := CC.size
  have l4 : B + 1 < w4.heap.size := (Array.getElem?_eq_some_iff.1 zz).1
  rw [HB.out] at hA5 hA4
  clear bb zz gg aa CC hc5 D1
  have hcA : Ch [] w5 (w5.alloc (.cells (seenC 0 false) 157)) := (Ch.refl [] w5).alloc _
  have bb : (World.onObj (w5.alloc (.cells (seenC 0 false) 157)) w5.heap.size (laidAt 0 (seenC x true))).heap[B]? = some (.cells (penC p) 71 (0, 0)) := by rw [heap_onObj, if_neg (by omega)]; exact hkeep hcA b5
  have zz : (World.onObj (w5.alloc (.cells (seenC 0 false) 157)) w5.heap.size (laidAt 0 (seenC x true))).heap[B + 1]? = some (.cells (penC zeroPen) 71 (0, 0)) := by rw [heap_onObj, if_neg (by omega)]; exact hkeep hcA z5
  have rr : (World.onObj (w5.alloc (.cells (seenC 0 false) 157)) w5.heap.size (laidAt 0 (seenC x true))).heap[Rr]? = some (.cells cy 22 (0, 0)) := by rw [heap_onObj, if_neg (by omega)]; exact hkeep hcA r5
  have ss : (World.onObj (w5.alloc (.cells (seenC 0 false) 157)) w5.heap.size (laidAt 0 (seenC x true))).heap[w5.heap.size]? = some (.cells (seenC x true) 157 (0, 0)) := by rw [heap_onObj, if_pos rfl, heap_alloc, if_pos rfl, Option.map_some, laidAt_seen]
  have CC : Ch [] w (World.onObj (w5.alloc (.cells (seenC 0 false) 157)) w5.heap.size (laidAt 0 (seenC x true))) := (C5.trans hcA).onObj (.inr (by rw [HB.out]; exact hA5)) _
  have hBn : ¬ B = w5.heap.size := by omega
  have hBn1 : ¬ B + 1 = w5.heap.size := by omega
  have hRB : B + 1 < Rr := by omega
  clear C5 hcA r5 l5 m5 n5 l4 hA4
  go_wp2_with fail
  clear b5 z5
  generalize World.onObj (w5.alloc (.cells (seenC 0 false) 157)) w5.heap.size (laidAt 0 (seenC x true)) = w6 at *
  refine (T1 _).mono ?_
  rintro e w7 ⟨rfl, hc7⟩
  have b7 := hkeep hc7 bb
  have z7 := hkeep hc7 zz
  have r7 := hkeep hc7 rr
  have C7 := CC.trans hc7
  have hA7 := C7.size
  rw [HB.out] at hA7
  have l7 : B + 1 < w7.heap.size := (Array.getElem?_eq_some_iff.1 z7).1
  have n7 : Rr < w7.heap.size := (Array.getElem?_eq_some_iff.1 r7).1
  clear bb zz rr ss CC hc7 T1
  go_wp2
  have hcP : Ch [] w7 (w7.alloc (.cells (penC zeroPen) 71)) := (Ch.refl [] w7).alloc _
  have zz : (World.onObj (w7.alloc (.cells (penC zeroPen) 71)) w7.heap.size (laidAt 0 (penC q))).heap[B + 1]? = some (.cells (penC zeroPen) 71 (0, 0)) := by rw [heap_onObj, if_neg (by omega)]; exact hkeep hcP z7
  have rr : (World.onObj (w7.alloc (.cells (penC zeroPen) 71)) w7.heap.size (laidAt 0 (penC q))).heap[Rr]? = some (.cells cy 22 (0, 0)) := by rw [heap_onObj, if_neg (by omega)]; exact hkeep hcP r7
  have pp : (World.onObj (w7.alloc (.cells (penC zeroPen) 71)) w7.heap.size (laidAt 0 (penC q))).heap[w7.heap.size]? = some (.cells (penC q) 71 (0, 0)) := by rw [heap_onObj, if_pos rfl, heap_alloc, if_pos rfl, Option.map_some, wlaidAt_pen]
  have CC : Ch [] w (World.onObj (w7.alloc (.cells (penC zeroPen) 71)) w7.heap.size (laidAt 0 (penC q))) := (C7.trans hcP).onObj (.inr (by rw [HB.out]; exact hA7)) _
  clear b7 z7 r7 C7 hcP
  generalize World.onObj (w7.alloc (.cells (penC zeroPen) 71)) w7.heap.size (laidAt 0 (penC q)) = w8 at *
  generalize w7.heap.size = Q at *
  have s9 : (fun W' : World => W'.heap[Q]? = some (.cells (penC q) 71 (0, 0))) w8.drew := pp
  have z9 : w8.drew.heap[B + 1]? = some (.cells (penC zeroPen) 71 (0, 0)) := zz
  have r9 : w8.drew.heap[Rr]? = some (.cells cy 22 (0, 0)) := rr
  have C9 : Ch [] w w8.drew := CC.drew
  refine wp_region_held_drew (S := fun W' => W'.heap[Q]? = some (.cells (penC q) 71 (0, 0))) (by kernel_rfl) s9 ?_
  intro _
  simp only [List.size_toArray, List.length_cons, List.length_nil, Nat.reduceAdd]
  generalize w8.drew = w9 at *
  refine wpAnyH_take (i := 0) (oi := ⟨some 61, _, _, _, _, none⟩) (v := ?_) rfl (by kernel_rfl) (by kernel_rfl) (by kernel_rfl) (fun _ _ _ h => h) (Or.inl ⟨by rfl, ?_⟩) s9 ?_
  rotate_left
  · intro wq hSq
    first | (go_simp; done) | (go_simp; with_reducible rfl)
  try simp only [Act.put, List.setIfInBounds_toArray, List.set_cons_zero, List.set_cons_succ]
  refine wpAnyH_take (i := 1) (oi := ⟨some 62, _, _, _, _, none⟩) (v := ?_) rfl (by kernel_rfl) (by kernel_rfl) (by kernel_rfl) (fun _ _ _ h => h) (Or.inl ⟨by rfl, ?_⟩) s9 ?_
  rotate_left
  · intro wq hSq
    first | (go_simp; done) | (go_simp; with_reducible rfl)
  try simp only [Act.put, List.setIfInBounds_toArray, List.set_cons_zero, List.set_cons_succ]
  refine wpAnyH_take (i := 2) (oi := ⟨some 4, _, _, _, _, none⟩) (v := ?_) rfl (by kernel_rfl) (by kernel_rfl) (by kernel_rfl) (fun _ _ _ h => h) (Or.inl ⟨by rfl, ?_⟩) s9 ?_
  rotate_left
  · intro wq hSq
    first | (go_simp; done) | (go_simp; with_reducible rfl)
  try simp only [Act.put, List.setIfInBounds_toArray, List.set_cons_zero, List.set_cons_succ]
  refine wpAnyH_ready (rs := [3]) (by kernel_rfl) (by simp) ?_
  refine AllReadyH.cons rfl (fun K hK => ?_) AllReadyH.nil
  go_simp
  have s10 : (World.onObj w9 (B + 1) (laidAt 0 (penC q))).heap[Q]? = some (.cells (penC q) 71 (0, 0)) := by rw [heap_onObj, if_neg (by omega)]; exact s9
  have z10 : (World.onObj w9 (B + 1) (laidAt 0 (penC q))).heap[B + 1]? = some (.cells (penC q) 71 (0, 0)) := by rw [heap_onObj, if_pos rfl, z9, Option.map_some, wlaidAt_pen]
  have r10 : (World.onObj w9 (B + 1) (laidAt 0 (penC q))).heap[Rr]? = some (.cells cy 22 (0, 0)) := by rw [heap_onObj, if_neg (by omega)]; exact r9
  have C10 : Ch [] w (World.onObj w9 (B + 1) (laidAt 0 (penC q))) := C9.onObj (.inr (by rw [HB.out]; omega)) _
  refine hK.out _ _ s10 (fun _ => ?_)
  clear hK K
  generalize World.onObj w9 (B + 1) (laidAt 0 (penC q)) = w10 at *
  refine wpAnyH_take (i := 4) (oi := ⟨some 6, _, _, _, _, none⟩) (v := ?_) rfl (by kernel_rfl) (by kernel_rfl) (by kernel_rfl) (fun _ _ _ h => h) (Or.inl ⟨by rfl, ?_⟩) s10 ?_
  rotate_left
  · intro wq hSq
    first | (go_simp; done) | (go_simp; with_reducible rfl)
  try simp only [Act.put, List.setIfInBounds_toArray, List.set_cons_zero, List.set_cons_succ]
  refine wpAnyH_done (by kernel_rfl) ?_ _
  go_wp2
  refine bodyPost_ret (step_results Tryz.results43 _ (B + 1) _ q _ _ rfl rfl rfl z10) rfl ⟨Rr, rfl, by rw [HB.out]; omega, r10, C10⟩
end Go.Proofs.Hc
/- Package write: Step, as a model. -/
namespace Go.Proofs.Hc
open Go.RowKit
theorem needP_some {p : PenT} {a : AccT} (h : needP p = some a) : rightP p = true ∧ p.ph ≤ 13 := by
  unfold needP at h
  cases hb : (rightP p && decide (p.ph ≤ 13)) with
  | false => rw [hb, if_neg (by decide)] at h; cases h
  | true => simpa using hb
/-- The access of a pen: a load, a store or an add, at a cell. -/
theorem needP_acc {p : PenT} {a : AccT} (h : needP p = some a) : (a.kind = 1 ∨ a.kind = 2 ∨ a.kind = 4) ∧ 0 ≤ a.at_ := by
  obtain ⟨hr, h13⟩ := needP_some h
  have R := (rightP_iff p).1 hr
  unfold needP at h
  rw [if_pos (by simp [hr, h13])] at h
  have h := Option.some.inj h
  by_cases h12 : p.ph = 12
  · rw [if_pos h12] at h; subst h; simp
  · rw [if_neg h12] at h
    subst h
    have hw := (wordP_range R h13).1
    have := R.sl0
    refine ⟨?_, by show 0 ≤ 16 + 40 * p.sl + wordP p; omega⟩
    by_cases h5 : 5 < p.ph
    · exact .inr (.inl (if_pos h5))
    · exact .inl (if_neg h5)
/-- What Step answers at a row of words. -/
def StepPost (w : World) (l : List (BitVec 64)) (p : PenT) (e : Ending) (w' : World) : Prop :=
  match stepP l p with
  | none => e = .returned (.tuple #[.slice none 0 0, .agg (penC zeroPen), I 2]) ∧ Ch [] w w'
  | some y => ∃ R, e = .returned (.tuple #[.slice (some ⟨R, 0, none⟩) y.1.length y.1.length, .agg (penC y.2), I 0]) ∧ RowAt_ w w' R y.1 ∧ y.1.length = l.length ∧ Ch [] w w'
theorem wStep_any (l : List (BitVec 64)) (g c : Nat) (cur : Array Value) (p : PenT) (w : World) (h1 : 1 ≤ l.length) (hl : l.length ≤ 8192) (hb : w.heap[g]? = some (.cells cur 22 (0, 0))) (hw : WordsAt cur l) (hr : rightP p = true) :
    Calls Tryz.prog 43 #[.slice (some ⟨g, 0, none⟩) l.length c, .agg (penC p)] w (StepPost w l p) := by
  cases hn : needP p with
  | none =>
    refine (wStep_over l g c cur p w h1 hl hb hw hr hn).mono ?_
    rintro e w' ⟨R, rfl, hR, hrow, hC⟩
    unfold StepPost stepP
    rw [hn]
    exact ⟨R, rfl, ⟨hR, hrow⟩, rfl, hC⟩
  | some a =>
    obtain ⟨ha, ha0⟩ := needP_acc hn
    have N1 : ∀ w, Calls Tryz.prog 57 #[.agg (penC p), .int .i64 0] w fun e w' => e = .returned (.tuple #[.agg (accC 0 a.kind a.at_ (N a.new)), .bool true]) ∧ Ch [] w w' := fun w => by
      have := wNeed_any p 0 w
      rw [hn, needV] at this
      exact this
    have D1 : ∀ w, w.heap[g]? = some (.cells cur 22 (0, 0)) → Calls Tryz.prog 105 #[.slice (some ⟨g, 0, none⟩) l.length c, .agg (accC 0 a.kind a.at_ (N a.new))] w (DoPost w l a) := fun w h => Do_any l a g c cur w ha ha0 h1 hl h hw
    cases hd : doP l a with
    | none =>
      have D2 : ∀ w, w.heap[g]? = some (.cells cur 22 (0, 0)) → Calls Tryz.prog 105 #[.slice (some ⟨g, 0, none⟩) l.length c, .agg (accC 0 a.kind a.at_ (N a.new))] w fun e w' => e = .returned (.tuple #[.slice none 0 0, .agg (seenC 0 false), I 2]) ∧ Ch [] w w' := fun w h => (D1 w h).mono fun e w' hh => by unfold DoPost at hh; rw [hd] at hh; exact hh
      refine (wStep_out l g c cur p a.kind a.at_ (N a.new) w h1 hl hb hw hr N1 D2).mono ?_
      rintro e w' ⟨rfl, hC⟩
      unfold StepPost stepP
      rw [hn]
      dsimp only
      rw [hd]
      exact ⟨rfl, hC⟩
    | some y =>
      have hyl : y.1.length = l.length := by
        unfold doP at hd
        split at hd
        · cases hd
        · have hd := Option.some.inj hd
          subst hd
          dsimp only
          split
          · rfl
          · split <;> simp
      have D2 : ∀ w, w.heap[g]? = some (.cells cur 22 (0, 0)) → Calls Tryz.prog 105 #[.slice (some ⟨g, 0, none⟩) l.length c, .agg (accC 0 a.kind a.at_ (N a.new))] w fun e w' => ∃ Rr, e = .returned (.tuple #[.slice (some ⟨Rr, 0, none⟩) l.length l.length, .agg (seenC (N y.2) true), I 0]) ∧ w.heap.size ≤ Rr ∧ w'.heap[Rr]? = some (.cells (wcells y.1) 22 (0, 0)) ∧ Ch [] w w' := fun w h => (D1 w h).mono fun e w' hh => by
        unfold DoPost at hh
        rw [hd] at hh
        obtain ⟨Rr, he, hrow, _, hC⟩ := hh
        exact ⟨Rr, he, hrow.1, hrow.2, hC⟩
      have hp := needP_some hn
      refine (wStep_go l g c cur (wcells y.1) p (takeP p y.2) a.kind a.at_ (N a.new) (N y.2) w h1 hl hb hw hr N1 D2 (fun w => wTake_yes p ((rightP_iff p).1 hr) hp.2 y.2 w)).mono ?_
      rintro e w' ⟨R, rfl, hR, hrow, hC⟩
      unfold StepPost stepP
      rw [hn]
      dsimp only
      rw [hd]
      exact ⟨R, by rw [hyl], ⟨hR, hrow⟩, hyl, hC⟩
end Go.Proofs.Hc
