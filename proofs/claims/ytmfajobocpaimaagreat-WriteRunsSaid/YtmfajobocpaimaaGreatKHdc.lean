/- The reference of layer 19: Run, the walk. -/
import Derived.Test.YtmfajobocpaimaaGreatKHcg
import Derived.Test.YtmfajobocpaimaaGreatKHdp
import Derived.Test.YtmfajobocpaimaaGreatKHxe
import Derived.Test.YtmfajobocpaimaaGreatKHnq
import Derived.Test.YtmfajobocpaimaaGreatKHnw
import Derived.Test.YtmfajobocpaimaaGreatKHpa
import Derived.Test.YtmfajobocpaimaaGreatKHdj
import Derived.Test.YtmfajobocpaimaaGreatKHq
import Derived.Test.YtmfajobocpaimaaGreatKHr
import Derived.Test.YtmfajobocpaimaaGreatKHdh
import Derived.Test.YtmfajobocpaimaaGreatKHop2
import Derived.Below
import Derived.BigQuiet
import Derived.Deep.Draws
import Derived.Deep.Light
import Derived.Deep.OwnRows
import Derived.Deep.QuietTactic
import Derived.Deep.RegionHeld
import Derived.IntWalk
import Derived.Laws.CopyOwn
import Derived.Laws.CopyRow
import Derived.Laws.StructEq
import Derived.Laws.Tables
import Derived.Lib.AppendZerosOnto
import Derived.Lib.Hide
import Derived.Lib.Tables
import Derived.Lib.Walk
import Derived.LoopIn
import Derived.LoopN
import Derived.LoopNIn
import Derived.Maps.AppendAt
import Derived.Maps.Views
import Derived.OwnWalkIn
import Derived.RangeFuncBox
import Derived.RangeFuncCalls
import Derived.RangeFuncRecord
import Derived.RangeFuncSeq
import Derived.Recover
import Derived.RegionTactic
import Derived.ScopeJumps
import Derived.Shelf.Slices.Clone
import Derived.StillTail
import Derived.StillTailTactics
import Derived.TacticsInMore
import Derived.Test.YtmfajobocpaimaaGreatProg
import Derived.WalkKit
import Derived.WalkLawsBesides
import Derived.WalkMore
import Derived.WalkSpells
set_option linter.unusedSimpArgs false
set_option linter.unusedVariables false
namespace Go.Proofs.Hc
open Go.RowKit
attribute [local go_sem] wrap_u64 wrap_u8 bits_xor64 bits_and64 bits_or64 bits_not64 bits_xor8 bits_and8 bits_or8 signed64 signed8 ofInt_N BitVec.ofInt_add BitVec.ofInt_mul ofInt_sub' ofInt8_N64 ofInt64_N8 wide8 eqN neN shr_pow shr1 shr7 shr56
attribute [local go_sem high] bits_com64 shl_wrap
attribute [local go_sem] cell_heap ice_heap cellAt_cells iceAt_cells setAt_cells rowAt_cells canLay_cells laidAt_cells size_onObj size_setCell rowRes_some layRes_true
attribute [local go_sem] load26 load73 load23 store26 build73
attribute [local go_sem ↓] lrow26 lrow73 lrow23 srow26 zero26 brow73 heap_alloc heap_drew heap_drewN heap_setCell heap_onObj
attribute [local go_sem] tcells_size hcells_size tcells_get hcells_get tcells_one hcells_one hcells_table tcells_table hcells_all hcells_ctrl tcells_ctrl
attribute [local go_sem] nn2 nm2 nn3 nm3 nn4 nm4 nn5 nm5 nn6 nm6 nn7 nm7 nn8 nm8
attribute [local go_sem] nn2 nm2 nn3 nm3 nn4 nm4 nn5 nm5 nn6 nm6 nn7 nm7 nn8 nm8
attribute [local go_sem] ofInt_N ofInt_pow8
attribute [local go_sem] Oper.semAt_some make_func1
attribute [local go_sem] pen_g0 pen_g1 pen_g2 pen_g3 pen_g4 pen_g5 pen_g6 pen_g7 pen_g8 pen_g9 pen_g10 pen_g11 pen_g12 pen_g13 pen_g14 pen_g15 pen_g16 pen_g17 penC_size penC_one penC_all
attribute [local irreducible] penC
attribute [local go_sem] pen_s0 pen_s1 pen_s2 pen_s3 pen_s4 pen_s5 pen_s6 pen_s7 pen_s8 pen_s9 pen_s10 pen_s11 pen_s12 pen_s13 pen_s14 pen_s15 pen_s16 pen_s17
attribute [local go_sem] boxPen loadPen storePen buildPen0
attribute [local go_sem ↓] lrowPen srowPen wzeroPen_run browPen
attribute [local go_sem high] wlaidAt_pen
/-- A pen stored into its own block leaves a row of words as it is. -/
theorem RowIn.pen {w : World} {v : Value} {n B : Nat} {l : List (BitVec 64)} {p : PenT} (h : RowIn w v n l) (hb : w.heap[B]? = some (.cells (penC p) 71 (0, 0))) (f : Obj → Obj) : RowIn (World.onObj w B f) v n l := by
  obtain ⟨r, d, cur, rfl, hn, hW, hA⟩ := h
  refine ⟨r, d, cur, rfl, hn, ?_, hA⟩
  rw [heap_onObj, if_neg]
  · exact hW
  · intro he
    subst he
    rw [hW] at hb
    have := Option.some.inj hb
    injection this with _ h2
    exact absurd h2 (by decide)
set_option maxHeartbeats 2000000 in
set_option maxRecDepth 100000 in
theorem r19Run_any (v : Value) (n : Nat) (l l' : List (BitVec 64)) (p p' : PenT) (k : Nat) (h1 : 1 ≤ n) (hn : n ≤ 8192) (hrun : RunsTo l p k l' p') (hk : k ≤ 100000) (w : World) (hv : RowIn w v n l) :
    Calls Tryz.prog 50 #[v, .agg (penC p)] w fun e w' => ∃ v', e = .returned (.tuple #[v', .agg (penC p'), I (k : Nat)]) ∧ RowIn w' v' n l' ∧ Ch [] w w' := by
  have C0 : Ch [] w ((w.alloc (.cells (penC p) 71)).alloc (.cells (penC zeroPen) 71)) := ((Ch.refl [] w).alloc _).alloc _
  have b0 := wnew_pen2 p w
  have z0 := wnew_penz p w
  have v0 := hv.keep C0
  clear hv
  go_enter Tryz.func50, Tryz.ntmps50
  go_wp2_with fail
  generalize (w.alloc (.cells (penC p) 71)).alloc (.cells (penC zeroPen) 71) = W0 at *
  go_loopw [0, 7] (fun v i wr => ∃ (l1 : List (BitVec 64)) (p1 : PenT) (j k1 : Nat), i = .int .i64 j ∧ j + k1 = k ∧ RowIn wr v n l1 ∧ RunsTo l1 p1 k1 l' p' ∧ wr.heap[w.heap.size]? = some (.cells (penC p1) 71 (0, 0)) ∧ wr.heap[w.heap.size + 1]? = some (.cells (penC zeroPen) 71 (0, 0)) ∧ Ch [] w wr) (fun _ i _ => k - (intOf i).toNat)
  case atStart => exact ⟨l, p, 0, k, rfl, by omega, v0, hrun, b0, z0, C0⟩
  case round =>
    obtain ⟨l1, p1, j, k1, hj, hjk, hv1, hr1, hb1, hz1, hC1⟩ := hrel
    subst hj
    clear b0 z0 v0 C0 hrun
    rcases hr1.inv with ⟨h13, rfl, rfl, rfl⟩ | ⟨a, y, k2, h13, rfl, ha, hy, hr2⟩
    · have hnot : ¬ p'.ph ≤ 13 := by omega
      have hjj : j = k := by omega
      subst hjj
      have HV := Lib.hid hv1
      clear hr1 hv1 h13 hjk
      go_wp2
      obtain ⟨B, hB⟩ : ∃ B, w.heap.size = B := ⟨_, rfl⟩
      rw [hB] at hb1 hz1
      try rw [hB]
      have HB := Lib.hid hB
      clear hB
      have s7 : (fun W' : World => W'.heap[B]? = some (.cells (penC p') 71 (0, 0))) wr.drew := hb1
      have z7 : wr.drew.heap[B + 1]? = some (.cells (penC zeroPen) 71 (0, 0)) := hz1
      have C7 : Ch [] w wr.drew := hC1.drew
      have V7 : Hid (RowIn wr.drew u0 n l') := Lib.hid (HV.out.keep ((Ch.refl [] wr).drew))
      clear hb1 hz1 hC1 HV
      refine wp_region_held_drew (S := fun W' => W'.heap[B]? = some (.cells (penC p') 71 (0, 0))) (by kernel_rfl) s7 ?_
      intro _
      simp only [List.size_toArray, List.length_cons, List.length_nil, Nat.reduceAdd]
      generalize wr.drew = w7 at *
      refine wpAnyH_take (i := 0) (oi := ⟨some 20, _, _, _, _, none⟩) (v := ?_) rfl (by kernel_rfl) (by kernel_rfl) (by kernel_rfl) (fun _ _ _ h => h) (Or.inl ⟨by rfl, ?_⟩) s7 ?_
      rotate_left
      · intro wq hSq
        first | (go_simp; done) | (go_simp; with_reducible rfl)
      try simp only [Act.put, List.setIfInBounds_toArray, List.set_cons_zero, List.set_cons_succ]
      refine wpAnyH_take (i := 1) (oi := ⟨some 21, _, _, _, _, none⟩) (v := ?_) rfl (by kernel_rfl) (by kernel_rfl) (by kernel_rfl) (fun _ _ _ h => h) (Or.inl ⟨by rfl, ?_⟩) s7 ?_
      rotate_left
      · intro wq hSq
        first | (go_simp; done) | (go_simp; with_reducible rfl)
      try simp only [Act.put, List.setIfInBounds_toArray, List.set_cons_zero, List.set_cons_succ]
      refine wpAnyH_take (i := 2) (oi := ⟨some 22, _, _, _, _, none⟩) (v := ?_) rfl (by kernel_rfl) (by kernel_rfl) (by kernel_rfl) (fun _ _ _ h => h) (Or.inl ⟨by rfl, ?_⟩) s7 ?_
      rotate_left
      · intro wq hSq
        first | (go_simp; done) | (go_simp; with_reducible rfl)
      try simp only [Act.put, List.setIfInBounds_toArray, List.set_cons_zero, List.set_cons_succ]
      refine wpAnyH_take (i := 3) (oi := ⟨some 4, _, _, _, _, none⟩) (v := ?_) rfl (by kernel_rfl) (by kernel_rfl) (by kernel_rfl) (fun _ _ _ h => h) (Or.inl ⟨by rfl, ?_⟩) s7 ?_
      rotate_left
      · intro wq hSq
        first | (go_simp; done) | (go_simp; with_reducible rfl)
      try simp only [Act.put, List.setIfInBounds_toArray, List.set_cons_zero, List.set_cons_succ]
      refine wpAnyH_ready (rs := [4]) (by kernel_rfl) (by simp) ?_
      refine AllReadyH.cons rfl (fun K hK => ?_) AllReadyH.nil
      go_simp
      have s8 : (World.onObj w7 (B + 1) (laidAt 0 (penC p'))).heap[B]? = some (.cells (penC p') 71 (0, 0)) := by rw [heap_onObj, if_neg (by omega)]; exact s7
      have z8 : (World.onObj w7 (B + 1) (laidAt 0 (penC p'))).heap[B + 1]? = some (.cells (penC p') 71 (0, 0)) := by rw [heap_onObj, if_pos rfl, z7, Option.map_some, wlaidAt_pen]
      have C8 : Ch [] w (World.onObj w7 (B + 1) (laidAt 0 (penC p'))) := C7.onObj (.inr (by rw [HB.out]; omega)) _
      have V8 := Lib.hid (V7.out.pen z7 (laidAt 0 (penC p')))
      refine hK.out _ _ s8 (fun _ => ?_)
      clear hK K
      generalize World.onObj w7 (B + 1) (laidAt 0 (penC p')) = w8 at *
      refine wpAnyH_take (i := 5) (oi := ⟨some 6, _, _, _, _, none⟩) (v := ?_) rfl (by kernel_rfl) (by kernel_rfl) (by kernel_rfl) (fun _ _ _ h => h) (Or.inl ⟨by rfl, ?_⟩) s8 ?_
      rotate_left
      · intro wq hSq
        first | (go_simp; done) | (go_simp; with_reducible rfl)
      try simp only [Act.put, List.setIfInBounds_toArray, List.set_cons_zero, List.set_cons_succ]
      refine wpAnyH_done (by kernel_rfl) ?_ _
      go_wp2
      refine bodyPost_ret (step_results Tryz.results50 _ (B + 1) _ p' _ _ rfl rfl rfl z8) rfl ⟨_, rfl, V8.out, C8⟩
    · have S1 := fun (w : World) (hv : RowIn w u0 n l1) => r19Step_row h1 hn w hv ha hy
      have HR := Lib.hid hr2
      have hjb : (j : Int) < 100000 := by omega
      have hj0 : (0 : Int) ≤ j := by omega
      clear hr1 hr2 ha hy
      go_wp2_with fail
      refine (S1 _ hv1).mono ?_
      rintro e w2 ⟨v', rfl, hv2, hc2⟩
      have b2 := hkeep hc2 hb1
      have z2 := hkeep hc2 hz1
      have C2 := hC1.trans hc2
      have HV := Lib.hid (hv2.pen b2 (laidAt 0 (penC (takeP p1 y.2))))
      clear hb1 hz1 hC1 hc2 hv1 S1 hv2
      go_wp2
      go_roundw
      case rel => exact ⟨y.1, takeP p1 y.2, j + 1, k2, by go_num, by omega, HV.out, HR.out, by simp [go_sem, b2], by rw [heap_onObj, if_neg (by omega)]; exact z2, C2.onObj (.inr (Nat.le_refl _)) _⟩
      case measure => simp [intOf]; omega
end Go.Proofs.Hc
