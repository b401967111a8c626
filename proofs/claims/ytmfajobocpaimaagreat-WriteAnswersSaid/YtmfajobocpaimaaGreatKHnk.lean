/- Package write: mark, less. -/
import Derived.Test.YtmfajobocpaimaaGreatKHmet
import Derived.Test.YtmfajobocpaimaaGreatKHcs
import Derived.Test.YtmfajobocpaimaaGreatKHj
import Derived.Test.YtmfajobocpaimaaGreatKHm
import Derived.Test.YtmfajobocpaimaaGreatKHma
import Derived.Test.YtmfajobocpaimaaGreatKHnq
import Derived.Test.YtmfajobocpaimaaGreatKHnv
import Derived.Test.YtmfajobocpaimaaGreatKHni
import Derived.Test.YtmfajobocpaimaaGreatKHxh
import Derived.Below
import Derived.BigQuiet
import Derived.Deep.Draws
import Derived.Deep.Light
import Derived.Deep.QuietTactic
import Derived.Deep.RegionHeld
import Derived.Laws.CopyRow
import Derived.Laws.StructEq
import Derived.Laws.Tables
import Derived.Lib.AppendZerosOnto
import Derived.Lib.Hide
import Derived.Lib.Tables
import Derived.Lib.Walk
import Derived.LoopIn
import Derived.LoopN
import Derived.LoopNIn
import Derived.Maps.AppendAt
import Derived.Maps.Views
import Derived.OwnWalkIn
import Derived.RangeFuncBox
import Derived.RangeFuncCalls
import Derived.RangeFuncRecord
import Derived.RangeFuncSeq
import Derived.Recover
import Derived.RegionTactic
import Derived.ScopeJumps
import Derived.Shelf.Slices.Clone
import Derived.StillTail
import Derived.StillTailTactics
import Derived.TacticsInMore
import Derived.Test.YtmfajobocpaimaaGreatProg
import Derived.WalkKit
import Derived.WalkLawsBesides
import Derived.WalkMore
import Derived.WalkSpells
set_option linter.unusedSimpArgs false
set_option linter.unusedVariables false
namespace Go.Proofs.Hc
open Go.RowKit
attribute [local go_sem] wrap_u64 wrap_u8 bits_xor64 bits_and64 bits_or64 bits_not64 bits_xor8 bits_and8 bits_or8 signed64 signed8 ofInt_N BitVec.ofInt_add BitVec.ofInt_mul ofInt_sub' ofInt8_N64 ofInt64_N8 wide8 eqN neN shr_pow shr1 shr7 shr56
attribute [local go_sem high] bits_com64 shl_wrap
attribute [local go_sem] cell_heap ice_heap cellAt_cells iceAt_cells setAt_cells rowAt_cells canLay_cells laidAt_cells size_onObj size_setCell rowRes_some layRes_true
attribute [local go_sem] load26 load73 load23 store26 build73
attribute [local go_sem ↓] lrow26 lrow73 lrow23 srow26 zero26 brow73 heap_alloc heap_drew heap_drewN heap_setCell heap_onObj
attribute [local go_sem] tcells_size hcells_size tcells_get hcells_get tcells_one hcells_one hcells_table tcells_table hcells_all hcells_ctrl tcells_ctrl
attribute [local go_sem] nn2 nm2 nn3 nm3 nn4 nm4 nn5 nm5 nn6 nm6 nn7 nm7 nn8 nm8
attribute [local go_sem] nn2 nm2 nn3 nm3 nn4 nm4 nn5 nm5 nn6 nm6 nn7 nm7 nn8 nm8
attribute [local go_sem] ofInt_N ofInt_pow8
attribute [local go_sem] Oper.semAt_some make_func1
attribute [local go_sem] pen_g0 pen_g1 pen_g2 pen_g3 pen_g4 pen_g5 pen_g6 pen_g7 pen_g8 pen_g9 pen_g10 pen_g11 pen_g12 pen_g13 pen_g14 pen_g15 pen_g16 pen_g17 penC_size penC_one penC_all
attribute [local irreducible] penC
set_option maxHeartbeats 1000000 in
set_option maxRecDepth 100000 in
theorem wMark_any (p : PenT) (hf0 : 0 ≤ p.free) (hf1 : p.free ≤ 16) (hs0 : 0 ≤ slotP p) (hs15 : slotP p ≤ 15) (g : Nat) (w : World) (hg : w.heap[g]? = some (.cells (penC p) 170 (0, 0))) : Calls Tryz.prog 233 #[.pointer (some ⟨g, 0, none⟩)] w fun e w' => e = .returned (U (markP p)) ∧ Ch [] w w' := by
  obtain ⟨sn, hsn⟩ : ∃ n : Nat, slotP p = n := ⟨(slotP p).toNat, by omega⟩
  obtain ⟨k, hk⟩ : ∃ k, sn % 8 = k := ⟨_, rfl⟩
  have hmodt : (sn : Int).tmod 8 = (k : Int) := by rw [Int.tmod_eq_emod_of_nonneg (by omega)]; omega
  have hk8 : k < 8 := by omega
  have hsn0 : (0 : Int) ≤ sn := by omega
  have W1 := wants_any p g w hg
  have S1 := fun w hg => wSlot_any p hf0 hf1 g w hg
  have H1 := fun w => hash2_any p.hash w
  have E1 : ∀ w, Calls Tryz.prog 208 #[U p.ctrl, .int .u8 128] w fun e w' => e = .returned (Y (emptyM p.ctrl)) ∧ w = w' := fun w => equal_any p.ctrl 128#8 w
  have HM : Hid (markP p = if wantsP p == 1 then withB p.fctrl k (hash2 p.hash) else withB p.ctrl k (if emptyM p.ctrl != 0#8 then 128#8 else 254#8)) := Lib.hid (by rw [markP, hsn, Int.toNat_natCast, hk])
  have P1 := fun (x : BitVec 64) (b : BitVec 8) gb w hgb => put1_yes x b k hk8 gb w hgb
  have hem := left_casesW (emptyM p.ctrl)
  have hn : wantsP p = 1 ∨ ((wantsP p : Int) == 1) = false ∧ wantsP p ≠ 1 := by rcases (show wantsP p = 1 ∨ wantsP p ≠ 1 by omega) with h | h; exact .inl h; exact .inr ⟨by simp; omega, h⟩
  rw [hsn] at S1
  clear hsn hs0 hs15 hf0 hf1 hk
  generalize markP p = r at *
  generalize emptyM p.ctrl = em at *
  generalize wantsP p = n at *
  rcases hn with rfl | ⟨hn, hne⟩
  · go_enter Tryz.func233, Tryz.ntmps233
    go_wp2_with fail
    refine W1.mono ?_
    rintro e w1 ⟨rfl, hc1⟩
    have b1 := hkeep hc1 hg
    clear hg W1 E1 hem
    go_wp2
    have s1 : (fun W' : World => W'.heap[g]? = some (.cells (penC p) 170 (0, 0))) w1.drew := b1
    have C1 : Ch [] w w1.drew := hc1.drew
    refine wp_region_held_drew (S := fun W' => W'.heap[g]? = some (.cells (penC p) 170 (0, 0))) (by kernel_rfl) s1 ?_
    intro _
    simp only [List.size_toArray, List.length_cons, List.length_nil, Nat.reduceAdd]
    clear b1 hc1
    generalize w1.drew = w2 at *
    refine wpAnyH_take (i := 0) (oi := ⟨some 12, _, _, _, _, none⟩) (v := ?_) rfl (by kernel_rfl) (by kernel_rfl) (by kernel_rfl) (fun _ _ _ h => h) (Or.inl ⟨by rfl, ?_⟩) s1 ?_
    rotate_left
    · intro wq hSq
      first | (go_simp; done) | (go_simp; with_reducible rfl)
    try simp only [Act.put, List.setIfInBounds_toArray, List.set_cons_zero, List.set_cons_succ]
    refine wpAnyH_take (i := 1) (oi := ⟨some 13, _, _, _, _, none⟩) (v := ?_) rfl (by kernel_rfl) (by kernel_rfl) (by kernel_rfl) (fun _ _ _ h => h) (Or.inl ⟨by rfl, ?_⟩) s1 ?_
    rotate_left
    · intro wq hSq
      first | (go_simp; done) | (go_simp; with_reducible rfl)
    try simp only [Act.put, List.setIfInBounds_toArray, List.set_cons_zero, List.set_cons_succ]
    refine wpAnyH_take (i := 2) (oi := ⟨some 14, _, _, _, _, none⟩) (v := ?_) rfl (by kernel_rfl) (by kernel_rfl) (by kernel_rfl) (fun _ _ _ h => h) (Or.inl ⟨by rfl, ?_⟩) s1 ?_
    rotate_left
    · intro wq hSq
      first | (go_simp; done) | (go_simp; with_reducible rfl)
    try simp only [Act.put, List.setIfInBounds_toArray, List.set_cons_zero, List.set_cons_succ]
    refine wpAnyH_take (i := 3) (oi := ⟨some 15, _, _, _, _, none⟩) (v := ?_) rfl (by kernel_rfl) (by kernel_rfl) (by kernel_rfl) (fun _ _ _ h => h) (Or.inl ⟨by rfl, ?_⟩) s1 ?_
    rotate_left
    · intro wq hSq
      first | (go_simp; done) | (go_simp; with_reducible rfl)
    try simp only [Act.put, List.setIfInBounds_toArray, List.set_cons_zero, List.set_cons_succ]
    refine wpAnyH_take (i := 4) (oi := ⟨some 16, _, _, _, _, none⟩) (v := ?_) rfl (by kernel_rfl) (by kernel_rfl) (by kernel_rfl) (fun _ _ _ h => h) (Or.inl ⟨by rfl, ?_⟩) s1 ?_
    rotate_left
    · intro wq hSq
      first | (go_simp; done) | (go_simp; with_reducible rfl)
    try simp only [Act.put, List.setIfInBounds_toArray, List.set_cons_zero, List.set_cons_succ]
    refine wpAnyH_take (i := 5) (oi := ⟨some 17, _, _, _, _, none⟩) (v := ?_) rfl (by kernel_rfl) (by kernel_rfl) (by kernel_rfl) (fun _ _ _ h => h) (Or.inl ⟨by rfl, ?_⟩) s1 ?_
    rotate_left
    · intro wq hSq
      first | (go_simp; done) | (go_simp; with_reducible rfl)
    try simp only [Act.put, List.setIfInBounds_toArray, List.set_cons_zero, List.set_cons_succ]
    refine wpAnyH_take (i := 6) (oi := ⟨some 18, _, _, _, _, none⟩) (v := ?_) rfl (by kernel_rfl) (by kernel_rfl) (by kernel_rfl) (fun _ _ _ h => h) (Or.inl ⟨by rfl, ?_⟩) s1 ?_
    rotate_left
    · intro wq hSq
      first | (go_simp; done) | (go_simp; with_reducible rfl)
    try simp only [Act.put, List.setIfInBounds_toArray, List.set_cons_zero, List.set_cons_succ]
    refine wpAnyH_take (i := 7) (oi := ⟨some 19, _, _, _, _, none⟩) (v := ?_) rfl (by kernel_rfl) (by kernel_rfl) (by kernel_rfl) (fun _ _ _ h => h) (Or.inl ⟨by rfl, ?_⟩) s1 ?_
    rotate_left
    · intro wq hSq
      first | (go_simp; done) | (go_simp; with_reducible rfl)
    try simp only [Act.put, List.setIfInBounds_toArray, List.set_cons_zero, List.set_cons_succ]
    refine wpAnyH_take (i := 8) (oi := ⟨some 20, _, _, _, _, none⟩) (v := ?_) rfl (by kernel_rfl) (by kernel_rfl) (by kernel_rfl) (fun _ _ _ h => h) (Or.inl ⟨by rfl, ?_⟩) s1 ?_
    rotate_left
    · intro wq hSq
      first | (go_simp; done) | (go_simp; with_reducible rfl)
    try simp only [Act.put, List.setIfInBounds_toArray, List.set_cons_zero, List.set_cons_succ]
    refine wpAnyH_take (i := 9) (oi := ⟨some 21, _, _, _, _, none⟩) (v := ?_) rfl (by kernel_rfl) (by kernel_rfl) (by kernel_rfl) (fun _ _ _ h => h) (Or.inl ⟨by rfl, ?_⟩) s1 ?_
    rotate_left
    · intro wq hSq
      first | (go_simp; done) | (go_simp; with_reducible rfl)
    try simp only [Act.put, List.setIfInBounds_toArray, List.set_cons_zero, List.set_cons_succ]
    refine wpAnyH_take (i := 11) (oi := ⟨some 23, _, _, _, _, none⟩) (v := ?_) rfl (by kernel_rfl) (by kernel_rfl) (by kernel_rfl) (fun _ _ _ h => h) (Or.inl ⟨by rfl, ?_⟩) s1 ?_
    rotate_left
    · intro wq hSq
      first | (go_simp; done) | (go_simp; with_reducible rfl)
    try simp only [Act.put, List.setIfInBounds_toArray, List.set_cons_zero, List.set_cons_succ]
    refine wpAnyH_ready (rs := [10]) (by kernel_rfl) (by simp) ?_
    refine AllReadyH.cons rfl (fun K hK => ?_) AllReadyH.nil
    go_simp
    refine (H1 _).mono ?_
    rintro e w' ⟨rfl, rfl⟩
    refine hK.out _ _ s1 (fun _ => ?_)
    clear hK K
    refine wpAnyH_ready (rs := [12]) (by kernel_rfl) (by simp) ?_
    refine AllReadyH.cons rfl (fun K hK => ?_) AllReadyH.nil
    go_simp
    refine (S1 _ s1).mono ?_
    rintro e w3 ⟨rfl, hc3⟩
    have s3 := hkeep hc3 s1
    have C3 := C1.trans hc3
    refine hK.out _ _ s3 (fun _ => ?_)
    clear hK K s1 C1 hc3
    refine wpAnyH_take (i := 13) (oi := ⟨some 25, _, _, _, _, none⟩) (v := ?_) rfl (by kernel_rfl) (by kernel_rfl) (by kernel_rfl) (fun _ _ _ h => h) (Or.inl ⟨by rfl, ?_⟩) s3 ?_
    rotate_left
    · intro wq hSq
      first | (go_simp; done) | (go_simp; with_reducible rfl)
    try simp only [Act.put, List.setIfInBounds_toArray, List.set_cons_zero, List.set_cons_succ]
    refine wpAnyH_ready (rs := [14]) (by kernel_rfl) (by simp) ?_
    refine AllReadyH.cons rfl (fun K hK => ?_) AllReadyH.nil
    go_simp
    try rw [hmodt]
    have hc4 : Ch [] w3 (w3.alloc (.cells #[I k] 3)) := (Ch.refl [] w3).alloc _
    have s4 := hkeep hc4 s3
    have C4 := C3.trans hc4
    have a4 : (w3.alloc (.cells #[I k] 3)).heap[w3.heap.size]? = some (.cells #[I k] 3 (0, 0)) := by rw [heap_alloc, if_pos rfl]
    refine hK.out _ _ s4 (fun _ => ?_)
    clear hK K hc4
    generalize w3.alloc (.cells #[I k] 3) = w4 at *
    generalize w3.heap.size = A at *
    refine wpAnyH_ready (rs := [15]) (by kernel_rfl) (by simp) ?_
    refine AllReadyH.cons rfl (fun K hK => ?_) AllReadyH.nil
    go_simp
    refine (P1 _ _ _ _ a4).mono ?_
    rintro e w5 ⟨rfl, hc5⟩
    have s5 := hkeep hc5 s4
    have C5 := C4.trans hc5
    refine hK.out _ _ s5 (fun _ => ?_)
    clear hK K
    refine wpAnyH_take (i := 16) (oi := ⟨some 11, _, _, _, _, none⟩) (v := ?_) rfl (by kernel_rfl) (by kernel_rfl) (by kernel_rfl) (fun _ _ _ h => h) (Or.inl ⟨by rfl, ?_⟩) s5 ?_
    rotate_left
    · intro wq hSq
      first | (go_simp; done) | (go_simp; with_reducible rfl)
    try simp only [Act.put, List.setIfInBounds_toArray, List.set_cons_zero, List.set_cons_succ]
    refine wpAnyH_take (i := 17) (oi := ⟨some 28, _, _, _, _, none⟩) (v := ?_) rfl (by kernel_rfl) (by kernel_rfl) (by kernel_rfl) (fun _ _ _ h => h) (Or.inl ⟨by rfl, ?_⟩) s5 ?_
    rotate_left
    · intro wq hSq
      first | (go_simp; done) | (go_simp; with_reducible rfl)
    try simp only [Act.put, List.setIfInBounds_toArray, List.set_cons_zero, List.set_cons_succ]
    refine wpAnyH_take (i := 18) (oi := ⟨some 29, _, _, _, _, none⟩) (v := ?_) rfl (by kernel_rfl) (by kernel_rfl) (by kernel_rfl) (fun _ _ _ h => h) (Or.inl ⟨by rfl, ?_⟩) s5 ?_
    rotate_left
    · intro wq hSq
      first | (go_simp; done) | (go_simp; with_reducible rfl)
    try simp only [Act.put, List.setIfInBounds_toArray, List.set_cons_zero, List.set_cons_succ]
    refine wpAnyH_take (i := 19) (oi := ⟨some 3, _, _, _, _, none⟩) (v := ?_) rfl (by kernel_rfl) (by kernel_rfl) (by kernel_rfl) (fun _ _ _ h => h) (Or.inl ⟨by rfl, ?_⟩) s5 ?_
    rotate_left
    · intro wq hSq
      first | (go_simp; done) | (go_simp; with_reducible rfl)
    try simp only [Act.put, List.setIfInBounds_toArray, List.set_cons_zero, List.set_cons_succ]
    refine wpAnyH_take (i := 20) (oi := ⟨some 4, _, _, _, _, none⟩) (v := ?_) rfl (by kernel_rfl) (by kernel_rfl) (by kernel_rfl) (fun _ _ _ h => h) (Or.inl ⟨by rfl, ?_⟩) s5 ?_
    rotate_left
    · intro wq hSq
      first | (go_simp; done) | (go_simp; with_reducible rfl)
    try simp only [Act.put, List.setIfInBounds_toArray, List.set_cons_zero, List.set_cons_succ]
    refine wpAnyH_done (by kernel_rfl) ?_ _
    go_wp2
    go_ret
    exact ⟨by rw [HM.out]; rfl, C5⟩
  · have HM2 : Hid (r = withB p.ctrl k (if (em != 0#8) then 128#8 else 254#8)) := Lib.hid (by rw [HM.out, if_neg (by simpa using hne)])
    have P2 : ∀ (x : BitVec 64) gb w, w.heap[gb]? = some (.cells #[I k] 3 (0, 0)) → Calls Tryz.prog 247 #[U x, .int .u8 128, .slice (some ⟨gb, 0, none⟩) 1 1] w fun e w' => e = .returned (.tuple #[U (withB x k 128#8), I 0]) ∧ Ch [] w w' := fun x gb w h => P1 x 128#8 gb w h
    have P3 : ∀ (x : BitVec 64) gb w, w.heap[gb]? = some (.cells #[I k] 3 (0, 0)) → Calls Tryz.prog 247 #[U x, .int .u8 254, .slice (some ⟨gb, 0, none⟩) 1 1] w fun e w' => e = .returned (.tuple #[U (withB x k 254#8), I 0]) ∧ Ch [] w w' := fun x gb w h => P1 x 254#8 gb w h
    clear HM hne P1
    rcases hem with ⟨he, e1, e2⟩ | ⟨he, e1, e2⟩
    all_goals
      rw [he] at HM2
      clear he
      go_enter Tryz.func233, Tryz.ntmps233
      go_wp2_with fail
      refine W1.mono ?_
      rintro e w1 ⟨rfl, hc1⟩
      have b1 := hkeep hc1 hg
      clear hg W1
      go_wp2_with (go_at_call 208; refine (E1 _).mono ?_; rintro e w' ⟨rfl, rfl⟩)
      have s1 : (fun W' : World => W'.heap[g]? = some (.cells (penC p) 170 (0, 0))) w1.drew := b1
      have C1 : Ch [] w w1.drew := hc1.drew
      refine wp_region_held_drew (S := fun W' => W'.heap[g]? = some (.cells (penC p) 170 (0, 0))) (by kernel_rfl) s1 ?_
      intro _
      simp only [List.size_toArray, List.length_cons, List.length_nil, Nat.reduceAdd]
      clear b1 hc1
      generalize w1.drew = w2 at *
      refine wpAnyH_take (i := 0) (oi := ⟨some 39, _, _, _, _, none⟩) (v := ?_) rfl (by kernel_rfl) (by kernel_rfl) (by kernel_rfl) (fun _ _ _ h => h) (Or.inl ⟨by rfl, ?_⟩) s1 ?_
      rotate_left
      · intro wq hSq
        first | (go_simp; done) | (go_simp; with_reducible rfl)
      try simp only [Act.put, List.setIfInBounds_toArray, List.set_cons_zero, List.set_cons_succ]
      refine wpAnyH_take (i := 1) (oi := ⟨some 40, _, _, _, _, none⟩) (v := ?_) rfl (by kernel_rfl) (by kernel_rfl) (by kernel_rfl) (fun _ _ _ h => h) (Or.inl ⟨by rfl, ?_⟩) s1 ?_
      rotate_left
      · intro wq hSq
        first | (go_simp; done) | (go_simp; with_reducible rfl)
      try simp only [Act.put, List.setIfInBounds_toArray, List.set_cons_zero, List.set_cons_succ]
      refine wpAnyH_take (i := 2) (oi := ⟨some 41, _, _, _, _, none⟩) (v := ?_) rfl (by kernel_rfl) (by kernel_rfl) (by kernel_rfl) (fun _ _ _ h => h) (Or.inl ⟨by rfl, ?_⟩) s1 ?_
      rotate_left
      · intro wq hSq
        first | (go_simp; done) | (go_simp; with_reducible rfl)
      try simp only [Act.put, List.setIfInBounds_toArray, List.set_cons_zero, List.set_cons_succ]
      refine wpAnyH_take (i := 3) (oi := ⟨some 42, _, _, _, _, none⟩) (v := ?_) rfl (by kernel_rfl) (by kernel_rfl) (by kernel_rfl) (fun _ _ _ h => h) (Or.inl ⟨by rfl, ?_⟩) s1 ?_
      rotate_left
      · intro wq hSq
        first | (go_simp; done) | (go_simp; with_reducible rfl)
      try simp only [Act.put, List.setIfInBounds_toArray, List.set_cons_zero, List.set_cons_succ]
      refine wpAnyH_take (i := 4) (oi := ⟨some 43, _, _, _, _, none⟩) (v := ?_) rfl (by kernel_rfl) (by kernel_rfl) (by kernel_rfl) (fun _ _ _ h => h) (Or.inl ⟨by rfl, ?_⟩) s1 ?_
      rotate_left
      · intro wq hSq
        first | (go_simp; done) | (go_simp; with_reducible rfl)
      try simp only [Act.put, List.setIfInBounds_toArray, List.set_cons_zero, List.set_cons_succ]
      refine wpAnyH_take (i := 5) (oi := ⟨some 44, _, _, _, _, none⟩) (v := ?_) rfl (by kernel_rfl) (by kernel_rfl) (by kernel_rfl) (fun _ _ _ h => h) (Or.inl ⟨by rfl, ?_⟩) s1 ?_
      rotate_left
      · intro wq hSq
        first | (go_simp; done) | (go_simp; with_reducible rfl)
      try simp only [Act.put, List.setIfInBounds_toArray, List.set_cons_zero, List.set_cons_succ]
      refine wpAnyH_take (i := 6) (oi := ⟨some 45, _, _, _, _, none⟩) (v := ?_) rfl (by kernel_rfl) (by kernel_rfl) (by kernel_rfl) (fun _ _ _ h => h) (Or.inl ⟨by rfl, ?_⟩) s1 ?_
      rotate_left
      · intro wq hSq
        first | (go_simp; done) | (go_simp; with_reducible rfl)
      try simp only [Act.put, List.setIfInBounds_toArray, List.set_cons_zero, List.set_cons_succ]
      refine wpAnyH_ready (rs := [7]) (by kernel_rfl) (by simp) ?_
      refine AllReadyH.cons rfl (fun K hK => ?_) AllReadyH.nil
      go_simp
      refine (S1 _ s1).mono ?_
      rintro e w3 ⟨rfl, hc3⟩
      have s3 := hkeep hc3 s1
      have C3 := C1.trans hc3
      refine hK.out _ _ s3 (fun _ => ?_)
      clear hK K s1 C1 hc3
      refine wpAnyH_take (i := 8) (oi := ⟨some 47, _, _, _, _, none⟩) (v := ?_) rfl (by kernel_rfl) (by kernel_rfl) (by kernel_rfl) (fun _ _ _ h => h) (Or.inl ⟨by rfl, ?_⟩) s3 ?_
      rotate_left
      · intro wq hSq
        first | (go_simp; done) | (go_simp; with_reducible rfl)
      try simp only [Act.put, List.setIfInBounds_toArray, List.set_cons_zero, List.set_cons_succ]
      refine wpAnyH_ready (rs := [9]) (by kernel_rfl) (by simp) ?_
      refine AllReadyH.cons rfl (fun K hK => ?_) AllReadyH.nil
      go_simp
      try rw [hmodt]
      have hc4 : Ch [] w3 (w3.alloc (.cells #[I k] 3)) := (Ch.refl [] w3).alloc _
      have s4 := hkeep hc4 s3
      have C4 := C3.trans hc4
      have a4 : (w3.alloc (.cells #[I k] 3)).heap[w3.heap.size]? = some (.cells #[I k] 3 (0, 0)) := by rw [heap_alloc, if_pos rfl]
      refine hK.out _ _ s4 (fun _ => ?_)
      clear hK K hc4
      generalize w3.alloc (.cells #[I k] 3) = w4 at *
      generalize w3.heap.size = A at *
      refine wpAnyH_ready (rs := [10]) (by kernel_rfl) (by simp) ?_
      refine AllReadyH.cons rfl (fun K hK => ?_) AllReadyH.nil
      go_simp
      first | (with_reducible refine (P2 _ _ _ a4).mono ?_) | (with_reducible refine (P3 _ _ _ a4).mono ?_)
      rintro e w5 ⟨rfl, hc5⟩
      have s5 := hkeep hc5 s4
      have C5 := C4.trans hc5
      refine hK.out _ _ s5 (fun _ => ?_)
      clear hK K
      refine wpAnyH_take (i := 11) (oi := ⟨some 38, _, _, _, _, none⟩) (v := ?_) rfl (by kernel_rfl) (by kernel_rfl) (by kernel_rfl) (fun _ _ _ h => h) (Or.inl ⟨by rfl, ?_⟩) s5 ?_
      rotate_left
      · intro wq hSq
        first | (go_simp; done) | (go_simp; with_reducible rfl)
      try simp only [Act.put, List.setIfInBounds_toArray, List.set_cons_zero, List.set_cons_succ]
      refine wpAnyH_take (i := 12) (oi := ⟨some 50, _, _, _, _, none⟩) (v := ?_) rfl (by kernel_rfl) (by kernel_rfl) (by kernel_rfl) (fun _ _ _ h => h) (Or.inl ⟨by rfl, ?_⟩) s5 ?_
      rotate_left
      · intro wq hSq
        first | (go_simp; done) | (go_simp; with_reducible rfl)
      try simp only [Act.put, List.setIfInBounds_toArray, List.set_cons_zero, List.set_cons_succ]
      refine wpAnyH_take (i := 13) (oi := ⟨some 51, _, _, _, _, none⟩) (v := ?_) rfl (by kernel_rfl) (by kernel_rfl) (by kernel_rfl) (fun _ _ _ h => h) (Or.inl ⟨by rfl, ?_⟩) s5 ?_
      rotate_left
      · intro wq hSq
        first | (go_simp; done) | (go_simp; with_reducible rfl)
      try simp only [Act.put, List.setIfInBounds_toArray, List.set_cons_zero, List.set_cons_succ]
      refine wpAnyH_take (i := 14) (oi := ⟨some 6, _, _, _, _, none⟩) (v := ?_) rfl (by kernel_rfl) (by kernel_rfl) (by kernel_rfl) (fun _ _ _ h => h) (Or.inl ⟨by rfl, ?_⟩) s5 ?_
      rotate_left
      · intro wq hSq
        first | (go_simp; done) | (go_simp; with_reducible rfl)
      try simp only [Act.put, List.setIfInBounds_toArray, List.set_cons_zero, List.set_cons_succ]
      refine wpAnyH_take (i := 15) (oi := ⟨some 7, _, _, _, _, none⟩) (v := ?_) rfl (by kernel_rfl) (by kernel_rfl) (by kernel_rfl) (fun _ _ _ h => h) (Or.inl ⟨by rfl, ?_⟩) s5 ?_
      rotate_left
      · intro wq hSq
        first | (go_simp; done) | (go_simp; with_reducible rfl)
      try simp only [Act.put, List.setIfInBounds_toArray, List.set_cons_zero, List.set_cons_succ]
      refine wpAnyH_done (by kernel_rfl) ?_ _
      go_wp2
      go_ret
      exact ⟨by rw [HM2.out]; rfl, C5⟩
end Go.Proofs.Hc
