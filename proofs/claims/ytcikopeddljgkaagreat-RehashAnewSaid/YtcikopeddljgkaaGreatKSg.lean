/- Law 20: RehashAnew, the walk (printed by gen_anew20.py). -/
import Derived.Test.YtcikopeddljgkaaGreatKHcb
import Derived.Test.YtcikopeddljgkaaGreatKHdb
import Derived.Test.YtcikopeddljgkaaGreatKHdv
import Derived.Test.YtcikopeddljgkaaGreatKSb
import Derived.Test.YtcikopeddljgkaaGreatKHdn
import Derived.Test.YtcikopeddljgkaaGreatKHma
import Derived.Test.YtcikopeddljgkaaGreatKHmet
import Derived.Test.YtcikopeddljgkaaGreatKHpa
import Derived.Test.YtcikopeddljgkaaGreatKHr
import Derived.Test.YtcikopeddljgkaaGreatKHs
import Derived.Test.YtcikopeddljgkaaGreatKHtm
import Derived.Test.YtcikopeddljgkaaGreatKHtr2
import Derived.Test.YtcikopeddljgkaaGreatKHtw
import Derived.Test.YtcikopeddljgkaaGreatKHye
import Derived.Test.YtcikopeddljgkaaGreatKRb
import Derived.Test.YtcikopeddljgkaaGreatKRg
import Derived.Test.YtcikopeddljgkaaGreatKRk
import Derived.Test.YtcikopeddljgkaaGreatKRo
import Derived.Test.YtcikopeddljgkaaGreatKRp
import Derived.Test.YtcikopeddljgkaaGreatKRu
import Derived.Test.YtcikopeddljgkaaGreatKRv
import Derived.Test.YtcikopeddljgkaaGreatKRz
import Derived.Test.YtcikopeddljgkaaGreatKSc
import Derived.Test.YtcikopeddljgkaaGreatKSd
import Derived.Test.YtcikopeddljgkaaGreatKSe
import Derived.Below
import Derived.BigQuiet
import Derived.ChangeKeysEq
import Derived.Deep.Draws
import Derived.Deep.Light
import Derived.Deep.OwnRows
import Derived.Deep.QuietTactic
import Derived.Deep.RegionHeld
import Derived.Deep.Slices
import Derived.IntWalk
import Derived.Laws.AppendOwn
import Derived.Laws.CopyOwn
import Derived.Laws.CopyRow
import Derived.Laws.EntriesVeiled
import Derived.Laws.StructEq
import Derived.Laws.Tables
import Derived.Lib.AppendZerosOnto
import Derived.Lib.Hide
import Derived.Lib.Tables
import Derived.Lib.Walk
import Derived.LoopIn
import Derived.LoopN
import Derived.LoopNIn
import Derived.Maps.AppendAt
import Derived.Maps.Views
import Derived.OpenShut
import Derived.OwnWalkIn
import Derived.ProofKit
import Derived.RangeFuncBox
import Derived.RangeFuncCalls
import Derived.RangeFuncRecord
import Derived.RangeFuncSeq
import Derived.Recover
import Derived.RegionTactic
import Derived.ScopeJumps
import Derived.Shelf.Slices.Clone
import Derived.StillTail
import Derived.StillTailTactics
import Derived.TacticsInMore
import Derived.Test.YtcikopeddljgkaaGreatProg
import Derived.WalkKit
import Derived.WalkLawsBesides
import Derived.WalkMore
import Derived.WalkSpells
set_option linter.unusedSimpArgs false
set_option linter.unusedVariables false
namespace Go.Proofs.Hc
open Go.RowKit
set_option linter.unusedVariables false
attribute [local go_sem] wrap_u64 wrap_u8 bits_xor64 bits_and64 bits_or64 bits_not64 bits_xor8 bits_and8 bits_or8 signed64 signed8 ofInt_N BitVec.ofInt_add BitVec.ofInt_mul ofInt_sub' ofInt8_N64 ofInt64_N8 wide8 eqN neN shr_pow shr1 shr7 shr56
attribute [local go_sem high] bits_com64 shl_wrap
attribute [local go_sem] cell_heap ice_heap cellAt_cells iceAt_cells setAt_cells rowAt_cells canLay_cells laidAt_cells size_onObj size_setCell rowRes_some layRes_true
attribute [local go_sem] load26 load73 load23 store26 build73
attribute [local go_sem ↓] lrow26 lrow73 lrow23 srow26 zero26 brow73 heap_alloc heap_drew heap_drewN heap_setCell heap_onObj
attribute [local go_sem] tcells_size hcells_size tcells_get hcells_get tcells_one hcells_one hcells_table tcells_table hcells_all hcells_ctrl tcells_ctrl
attribute [local go_sem] nn2 nm2 nn3 nm3 nn4 nm4 nn5 nm5 nn6 nm6 nn7 nm7 nn8 nm8
attribute [local go_sem] nn2 nm2 nn3 nm3 nn4 nm4 nn5 nm5 nn6 nm6 nn7 nm7 nn8 nm8
attribute [local go_sem] box26 tcells_idx cell0 cell1 cell2 cell3 cell4 hcells_idx hcells_pop
attribute [local irreducible] tcells
attribute [local go_sem high] laidAt_t tmod2_64w bit64w bit64zw
attribute [local go_sem high] eql_tab guard26
set_option maxHeartbeats 4000000 in
set_option maxRecDepth 100000 in
theorem ranew_good (t : Tab) (seed : BitVec 64) (a : Option Addr) (n0 c0 : Nat) (ks : Nat → BitVec 64) (w : World) (hn0 : n0 ≤ c0) (hc0 : c0 ≤ 9223372036854775807) (ha : a = none → n0 = 0 ∧ c0 = 0) (hk : KeysIn w a n0 ks) (x : Tab) (hN : NormT t) (hf : flatT t = true) (hc : oddB t.count = false) (hmy : mayT t seed = true) (hx0 : anewT t seed = .ok x) (hrd : readE (tword { x with count := t.count + 2#64 }) = .ok (normT { x with count := t.count + 2#64 })) : Calls Tryz.prog 5 #[U seed, .agg (tcells t), .slice a n0 c0] w fun e w' => e = .returned (.bool true) ∧ Ch [] w w' := by
  have W1 := fun w => wakes20_any w
  have q22 : ∀ (w : World) (a : Option Addr) (n c n' c' : Nat), (binOp .eql 44 (.slice a n c) (.slice none n' c')).run Tryz.prog w = .ok (.bool a.isNone) w := fun w a n c n' c' => Lib.run_eql_slice_nil w _ _ a n c n' c' Tryz.underlying44
  have C0 : Ch [] w (w.alloc (.cells (tcells t) 26)) := (Ch.refl [] w).alloc _
  have t0 : (w.alloc (.cells (tcells t) 26)).heap[w.heap.size]? = some (.cells (tcells t) 26 (0, 0)) := by rw [heap_alloc, if_pos rfl]
  have L1 := fun w => cells20_ok t hf w
  obtain ⟨Ln, p', hr, hag, hx⟩ : ∃ Ln p', RunsL (long20 t (frontW ks (min n0 50))) (firstL 0 0 seed) 81 Ln p' ∧ (∀ j, j < 16 ∨ 56 ≤ j → Ln[j]? = (long20 t (frontW ks (min n0 50)))[j]?) ∧ (AtW (wcells Ln) 16 (tword { x with count := t.count + 2#64 }) ∧ Ln.length = 56 + min n0 50) := by
    obtain ⟨p', hr⟩ := long_good t x (frontW ks (min n0 50)) seed hN hf hc hmy hx0
    have hlen : (long20 t (frontW ks (min n0 50))).length = 56 + min n0 50 := by rw [long20_len, frontW_len]
    refine ⟨_, p', hr, fun j hj => ?_, ra_at _ (by omega) _, ?_⟩
    · rw [laidW_get _ (by omega), if_neg (by omega)]
    · rw [laidW_len _ (by omega), hlen]
  go_enter Tryz.func5, Tryz.ntmps5
  go_wp2_with fail
  obtain ⟨w0, hw0⟩ : ∃ W, w.alloc (.cells (tcells t) 26) = W := ⟨_, rfl⟩
  rw [hw0] at C0 t0 ⊢
  clear hw0
  obtain ⟨T, hT⟩ : ∃ T, w.heap.size = T := ⟨_, rfl⟩
  rw [hT] at t0 ⊢
  clear hT
  refine (W1 _).mono ?_
  rintro e w1 ⟨rfl, hc1⟩
  have t1 := hkeep hc1 t0
  have C1 := C0.trans hc1
  clear t0 C0 hc1 W1
  go_wp2_with fail
  refine (L1 _).mono ?_
  rintro e w2 ⟨v, rfl, ho2, hc2⟩
  have hkw := hk.ch C1 (Nat.le_refl n0)
  obtain ⟨R, c', cur, w3, hrun, hRw, hcw, hcur, hR3, hc3⟩ := more_app a n0 c0 ks (cells20 t) v w1 w2 (cells20_len t) hn0 ha hkw ho2 hc2
  obtain ⟨R0, c9, cur9, rfl, _⟩ := row_out (cells20_len t) (by omega) ho2
  have t3 := hkeep hc3 t1
  have C3 := C1.trans hc3
  clear C1 hkw ho2 hc2 hc3 t1 L1
  obtain ⟨m, hm⟩ : ∃ m, min n0 50 = m := ⟨_, rfl⟩
  have HM := Lib.hid (show (min (n0 : Int) 50).toNat = m by omega)
  rw [hm] at hrun hcw hcur
  clear hk
  rw [← HM.out] at hrun
  go_upto_region 7 with (at_builtin; refine Lib.wpList_append_run _ rfl _ _ 44 44 rfl _ _ rfl rfl _ _ hrun ?_)
  rw [HM.out]
  rw [hm] at hr hag hx
  have hm50 : m ≤ 50 := by omega
  clear hm HM
  have hLl : (long20 t (frontW ks m)).length = 56 + m := by rw [long20_len, frontW_len]
  have hcur : WordsAt cur (long20 t (frontW ks m)) := hcur
  obtain ⟨L, hL⟩ : ∃ L, long20 t (frontW ks m) = L := ⟨_, rfl⟩
  rw [hL] at hr hLl hcur hag
  try rw [hL] at hx
  have R1 := lRun_go L Ln R c' cur 0 seed p' 81 w3 (by omega) (by omega) hR3 hcur (by omega) (by omega) (by omega) hr (by omega)
  rw [hLl] at R1
  clear hr hrun hL
  go_wp2_with fail
  refine R1.mono ?_
  rintro e w4 ⟨Q, rfl, hQ, hQ4, hc4⟩
  have t4 := hkeep hc4 t3
  have R4 := hkeep hc4 hR3
  have C4 := C3.trans hc4
  clear R1 t3 hR3 C3 hc4
  go_upto_region 8 with (fail)
  have sP : (fun W' : World => W'.heap[Q]? = some (.cells (wcells Ln) 22 (0, 0)) ∧ W'.heap[R]? = some (.cells cur 22 (0, 0)) ∧ W'.heap[T]? = some (.cells (tcells t) 26 (0, 0))) w4.drew := ⟨hQ4, R4, t4⟩
  have CC : Ch [] w w4.drew := C4.drew
  refine wp_region_held_drew (S := fun W' => W'.heap[Q]? = some (.cells (wcells Ln) 22 (0, 0)) ∧ W'.heap[R]? = some (.cells cur 22 (0, 0)) ∧ W'.heap[T]? = some (.cells (tcells t) 26 (0, 0))) (by kernel_rfl) sP ?_
  intro _
  simp only [List.size_toArray, List.length_cons, List.length_nil, Nat.reduceAdd]
  clear hQ4 R4 t4 C4
  generalize w4.drew = w5 at *
  have i1 : (16 : Int) ≤ 56 + (m : Int) := by omega
  have i2 : (16 : Int) ≤ (c' : Int) := by omega
  have i3 : (56 : Int) ≤ 56 + (m : Int) := by omega
  have i4 : (56 : Int) + (m : Int) ≤ (c' : Int) := by omega
  have i5 : (56 : Int) ≤ (c' : Int) := by omega
  refine wpAnyH_take (i := 0) (oi := ⟨some 35, _, _, _, _, none⟩) (v := ?_) rfl (by kernel_rfl) (by kernel_rfl) (by kernel_rfl) (fun _ _ _ h => h) (Or.inl ⟨by rfl, ?_⟩) sP ?_
  rotate_left
  · intro wq hSq
    first | (go_simp; done) | (go_simp; with_reducible rfl)
  try simp only [Act.put, List.setIfInBounds_toArray, List.set_cons_zero, List.set_cons_succ]
  refine wpAnyH_take (i := 1) (oi := ⟨some 36, _, _, _, _, none⟩) (v := ?_) rfl (by kernel_rfl) (by kernel_rfl) (by kernel_rfl) (fun _ _ _ h => h) (Or.inl ⟨by rfl, ?_⟩) sP ?_
  rotate_left
  · intro wq hSq
    first | (go_simp; done) | (go_simp; with_reducible rfl)
  try simp only [Act.put, List.setIfInBounds_toArray, List.set_cons_zero, List.set_cons_succ]
  refine wpAnyH_take (i := 2) (oi := ⟨some 37, _, _, _, _, none⟩) (v := ?_) rfl (by kernel_rfl) (by kernel_rfl) (by kernel_rfl) (fun _ _ _ h => h) (Or.inl ⟨by rfl, ?_⟩) sP ?_
  rotate_left
  · intro wq hSq
    first | (go_simp; done) | (go_simp; with_reducible rfl)
  try simp only [Act.put, List.setIfInBounds_toArray, List.set_cons_zero, List.set_cons_succ]
  refine wpAnyH_take (i := 3) (oi := ⟨some 38, _, _, _, _, _⟩) (v := ?_) rfl (by kernel_rfl) (by kernel_rfl) (by kernel_rfl) (fun _ _ _ h => h) (Or.inl ⟨by rfl, ?_⟩) sP ?_
  rotate_left
  · intro wq hSq
    first | (go_simp; done) | (go_simp; with_reducible rfl)
  try simp only [Act.put, List.setIfInBounds_toArray, List.set_cons_zero, List.set_cons_succ]
  refine wpAnyH_take (i := 5) (oi := ⟨some 40, _, _, _, _, _⟩) (v := ?_) rfl (by kernel_rfl) (by kernel_rfl) (by kernel_rfl) (fun _ _ _ h => h) (Or.inl ⟨by rfl, ?_⟩) sP ?_
  rotate_left
  · intro wq hSq
    first | (go_simp; done) | (go_simp; with_reducible rfl)
  try simp only [Act.put, List.setIfInBounds_toArray, List.set_cons_zero, List.set_cons_succ]
  refine wpAnyH_take (i := 4) (oi := ⟨some 39, _, _, _, _, _⟩) (v := ?_) rfl (by kernel_rfl) (by kernel_rfl) (by kernel_rfl) (fun _ _ _ h => h) (Or.inl ⟨by rfl, ?_⟩) sP ?_
  rotate_left
  · intro wq hSq
    first | (go_simp; done) | (go_simp; with_reducible rfl)
  try simp only [Act.put, List.setIfInBounds_toArray, List.set_cons_zero, List.set_cons_succ]
  refine wpAnyH_take (i := 6) (oi := ⟨some 41, _, _, _, _, _⟩) (v := ?_) rfl (by kernel_rfl) (by kernel_rfl) (by kernel_rfl) (fun _ _ _ h => h) (Or.inl ⟨by rfl, ?_⟩) sP ?_
  rotate_left
  · intro wq hSq
    first | (go_simp; done) | (go_simp; with_reducible rfl)
  try simp only [Act.put, List.setIfInBounds_toArray, List.set_cons_zero, List.set_cons_succ]
  refine wpAnyH_take (i := 7) (oi := ⟨some 42, _, _, _, _, _⟩) (v := ?_) rfl (by kernel_rfl) (by kernel_rfl) (by kernel_rfl) (fun _ _ _ h => h) (Or.inl ⟨by rfl, ?_⟩) sP ?_
  rotate_left
  · intro wq hSq
    first | (go_simp; done) | (go_simp; with_reducible rfl)
  try simp only [Act.put, List.setIfInBounds_toArray, List.set_cons_zero, List.set_cons_succ]
  refine wpAnyH_take (i := 8) (oi := ⟨some 43, _, _, _, _, none⟩) (v := ?_) rfl (by kernel_rfl) (by kernel_rfl) (by kernel_rfl) (fun _ _ _ h => h) (Or.inl ⟨by rfl, ?_⟩) sP ?_
  rotate_left
  · intro wq hSq
    first | (go_simp; done) | (go_simp; with_reducible rfl)
  try simp only [Act.put, List.setIfInBounds_toArray, List.set_cons_zero, List.set_cons_succ]
  refine wpAnyH_take (i := 9) (oi := ⟨some 44, _, _, _, _, none⟩) (v := ?_) rfl (by kernel_rfl) (by kernel_rfl) (by kernel_rfl) (fun _ _ _ h => h) (Or.inl ⟨by rfl, ?_⟩) sP ?_
  rotate_left
  · intro wq hSq
    first | (go_simp; done) | (go_simp; with_reducible rfl)
  try simp only [Act.put, List.setIfInBounds_toArray, List.set_cons_zero, List.set_cons_succ]
  refine wpAnyH_take (i := 10) (oi := ⟨some 45, _, _, _, _, _⟩) (v := ?_) rfl (by kernel_rfl) (by kernel_rfl) (by kernel_rfl) (fun _ _ _ h => h) (Or.inl ⟨by rfl, ?_⟩) sP ?_
  rotate_left
  · intro wq hSq
    first | (go_simp; done) | (go_simp; with_reducible rfl)
  try simp only [Act.put, List.setIfInBounds_toArray, List.set_cons_zero, List.set_cons_succ]
  refine wpAnyH_take (i := 11) (oi := ⟨some 46, _, _, _, _, _⟩) (v := ?_) rfl (by kernel_rfl) (by kernel_rfl) (by kernel_rfl) (fun _ _ _ h => h) (Or.inl ⟨by rfl, ?_⟩) sP ?_
  rotate_left
  · intro wq hSq
    first | (go_simp; done) | (go_simp; with_reducible rfl)
  try simp only [Act.put, List.setIfInBounds_toArray, List.set_cons_zero, List.set_cons_succ]
  refine wpAnyH_take (i := 12) (oi := ⟨some 47, _, _, _, _, _⟩) (v := ?_) rfl (by kernel_rfl) (by kernel_rfl) (by kernel_rfl) (fun _ _ _ h => h) (Or.inl ⟨by rfl, ?_⟩) sP ?_
  rotate_left
  · intro wq hSq
    first | (go_simp; done) | (go_simp; with_reducible rfl)
  try simp only [Act.put, List.setIfInBounds_toArray, List.set_cons_zero, List.set_cons_succ]
  refine wpAnyH_take (i := 13) (oi := ⟨some 48, _, _, _, _, _⟩) (v := ?_) rfl (by kernel_rfl) (by kernel_rfl) (by kernel_rfl) (fun _ _ _ h => h) (Or.inl ⟨by rfl, ?_⟩) sP ?_
  rotate_left
  · intro wq hSq
    first | (go_simp; done) | (go_simp; with_reducible rfl)
  try simp only [Act.put, List.setIfInBounds_toArray, List.set_cons_zero, List.set_cons_succ]
  refine wpAnyH_ready (rs := [14]) (by kernel_rfl) (by simp) ?_
  refine AllReadyH.cons rfl (fun K hK => ?_) AllReadyH.nil
  go_simp
  refine (eq_parts Ln L 0 16 Q R _ _ (wcells Ln) cur w5 (by omega) (by omega) (wcells_at Ln) hcur (fun j _ hj => hag j (.inl (by omega))) sP.1 sP.2.1).mono ?_
  rintro e w6 ⟨rfl, hcx⟩
  have sPx : (fun W' : World => W'.heap[Q]? = some (.cells (wcells Ln) 22 (0, 0)) ∧ W'.heap[R]? = some (.cells cur 22 (0, 0)) ∧ W'.heap[T]? = some (.cells (tcells t) 26 (0, 0))) w6 := ⟨hkeep hcx sP.1, hkeep hcx sP.2.1, hkeep hcx sP.2.2⟩
  have CCx := CC.trans hcx
  clear sP CC
  have sP := sPx
  have CC := CCx
  refine hK.out _ _ sP (fun _ => ?_)
  clear hK K hcx sPx CCx
  refine wpAnyH_take (i := 15) (oi := ⟨some 50, _, _, _, _, _⟩) (v := ?_) rfl (by kernel_rfl) (by kernel_rfl) (by kernel_rfl) (fun _ _ _ h => h) (Or.inl ⟨by rfl, ?_⟩) sP ?_
  rotate_left
  · intro wq hSq
    first | (go_simp; done) | (go_simp; with_reducible rfl)
  try simp only [Act.put, List.setIfInBounds_toArray, List.set_cons_zero, List.set_cons_succ]
  refine wpAnyH_take (i := 16) (oi := ⟨some 51, _, _, _, _, none⟩) (v := ?_) rfl (by kernel_rfl) (by kernel_rfl) (by kernel_rfl) (fun _ _ _ h => h) (Or.inl ⟨by rfl, ?_⟩) sP ?_
  rotate_left
  · intro wq hSq
    first | (go_simp; done) | (go_simp; with_reducible rfl)
  try simp only [Act.put, List.setIfInBounds_toArray, List.set_cons_zero, List.set_cons_succ]
  refine wpAnyH_take (i := 17) (oi := ⟨some 52, _, _, _, _, none⟩) (v := ?_) rfl (by kernel_rfl) (by kernel_rfl) (by kernel_rfl) (fun _ _ _ h => h) (Or.inl ⟨by rfl, ?_⟩) sP ?_
  rotate_left
  · intro wq hSq
    first | (go_simp; done) | (go_simp; with_reducible rfl)
  try simp only [Act.put, List.setIfInBounds_toArray, List.set_cons_zero, List.set_cons_succ]
  refine wpAnyH_take (i := 18) (oi := ⟨some 53, _, _, _, _, _⟩) (v := ?_) rfl (by kernel_rfl) (by kernel_rfl) (by kernel_rfl) (fun _ _ _ h => h) (Or.inl ⟨by rfl, ?_⟩) sP ?_
  rotate_left
  · intro wq hSq
    first | (go_simp; done) | (go_simp; with_reducible rfl)
  try simp only [Act.put, List.setIfInBounds_toArray, List.set_cons_zero, List.set_cons_succ]
  refine wpAnyH_take (i := 19) (oi := ⟨some 54, _, _, _, _, _⟩) (v := ?_) rfl (by kernel_rfl) (by kernel_rfl) (by kernel_rfl) (fun _ _ _ h => h) (Or.inl ⟨by rfl, ?_⟩) sP ?_
  rotate_left
  · intro wq hSq
    first | (go_simp; done) | (go_simp; with_reducible rfl)
  try simp only [Act.put, List.setIfInBounds_toArray, List.set_cons_zero, List.set_cons_succ]
  refine wpAnyH_take (i := 20) (oi := ⟨some 55, _, _, _, _, _⟩) (v := ?_) rfl (by kernel_rfl) (by kernel_rfl) (by kernel_rfl) (fun _ _ _ h => h) (Or.inl ⟨by rfl, ?_⟩) sP ?_
  rotate_left
  · intro wq hSq
    first | (go_simp; done) | (go_simp; with_reducible rfl)
  try simp only [Act.put, List.setIfInBounds_toArray, List.set_cons_zero, List.set_cons_succ]
  refine wpAnyH_take (i := 21) (oi := ⟨some 56, _, _, _, _, _⟩) (v := ?_) rfl (by kernel_rfl) (by kernel_rfl) (by kernel_rfl) (fun _ _ _ h => h) (Or.inl ⟨by rfl, ?_⟩) sP ?_
  rotate_left
  · intro wq hSq
    first | (go_simp; done) | (go_simp; with_reducible rfl)
  try simp only [Act.put, List.setIfInBounds_toArray, List.set_cons_zero, List.set_cons_succ]
  have E2 := eq_tail Ln L m c' Q R (wcells Ln) cur w6 hLl hm50 (by omega) (wcells_at Ln) hcur (fun j hj => hag j (.inr hj)) sP.1 sP.2.1
  obtain ⟨X1, hX1⟩ : ∃ x, (if m = 0 then (some ⟨Q, 0, none⟩ : Option Addr) else some ⟨Q, 56, none⟩) = x := ⟨_, rfl⟩
  obtain ⟨X2, hX2⟩ : ∃ x, (if c' = 56 then (some ⟨R, 0, none⟩ : Option Addr) else some ⟨R, 56, none⟩) = x := ⟨_, rfl⟩
  rw [hX1, hX2] at E2 ⊢
  clear hX1 hX2
  refine wpAnyH_ready (rs := [22]) (by kernel_rfl) (by simp) ?_
  refine AllReadyH.cons rfl (fun K hK => ?_) AllReadyH.nil
  go_simp
  refine E2.mono ?_
  rintro e w7 ⟨rfl, hcx⟩
  have sPx : (fun W' : World => W'.heap[Q]? = some (.cells (wcells Ln) 22 (0, 0)) ∧ W'.heap[R]? = some (.cells cur 22 (0, 0)) ∧ W'.heap[T]? = some (.cells (tcells t) 26 (0, 0))) w7 := ⟨hkeep hcx sP.1, hkeep hcx sP.2.1, hkeep hcx sP.2.2⟩
  have CCx := CC.trans hcx
  clear sP CC
  have sP := sPx
  have CC := CCx
  refine hK.out _ _ sP (fun _ => ?_)
  clear hK K hcx sPx CCx
  clear E2
  refine wpAnyH_take (i := 23) (oi := ⟨some 58, _, _, _, _, _⟩) (v := ?_) rfl (by kernel_rfl) (by kernel_rfl) (by kernel_rfl) (fun _ _ _ h => h) (Or.inl ⟨by rfl, ?_⟩) sP ?_
  rotate_left
  · intro wq hSq
    first | (go_simp; done) | (go_simp; with_reducible rfl)
  try simp only [Act.put, List.setIfInBounds_toArray, List.set_cons_zero, List.set_cons_succ]
  refine wpAnyH_take (i := 24) (oi := ⟨some 59, _, _, _, _, none⟩) (v := ?_) rfl (by kernel_rfl) (by kernel_rfl) (by kernel_rfl) (fun _ _ _ h => h) (Or.inl ⟨by rfl, ?_⟩) sP ?_
  rotate_left
  · intro wq hSq
    first | (go_simp; done) | (go_simp; with_reducible rfl)
  try simp only [Act.put, List.setIfInBounds_toArray, List.set_cons_zero, List.set_cons_succ]
  refine wpAnyH_done (by kernel_rfl) ?_ _
  obtain ⟨q7, r7, t7⟩ := sP
  have C7 := CC
  clear CC
  clear i3 i4 i5 hag
  have hif : ifMay t seed (anewT t seed) = .ok x := by unfold ifMay; rw [if_pos hmy, hx0]
  have A1 := fun w => Anew_any t seed w
  rw [hif] at A1
  clear hif
  go_wp2_with fail
  refine (A1 _).mono ?_
  rintro e w8 ⟨rfl, hc8⟩
  have q8 := hkeep hc8 q7
  have r8 := hkeep hc8 r7
  have t8 := hkeep hc8 t7
  have C8 := C7.trans hc8
  simp only [tupOr]
  clear q7 r7 t7 C7 hc8 A1
  have nq := blk_lt19 q8
  have nr := blk_lt19 r8
  have nt := blk_lt19 t8
  have hqn : ¬ Q = w8.heap.size := by omega
  have hrn : ¬ R = w8.heap.size := by omega
  have htn : ¬ T = w8.heap.size := by omega
  clear nq nr nt
  go_upto_region 13 with (fail)
  have m9 := tab_put x w8
  have hc9 := tab_put_ch [] x w8
  have q9 := hkeep hc9 q8
  have r9 := hkeep hc9 r8
  have t9 := hkeep hc9 t8
  have C9 := C8.trans hc9
  have hMw : w.heap.size ≤ w8.heap.size := C8.size
  have hTM : T < w8.heap.size := blk_lt19 t8
  have hQM : Q < w8.heap.size := blk_lt19 q8
  obtain ⟨w9, hw9⟩ : ∃ W, World.onObj (w8.alloc (.cells (tcells zeroT) 26)) w8.heap.size (laidAt 0 (tcells x)) = W := ⟨_, rfl⟩
  first | rw [hw9] at m9 q9 r9 t9 C9 ⊢ | (simp only [laidAt_t] at hw9; rw [hw9] at m9 q9 r9 t9 C9 ⊢)
  clear hw9 hc9 q8 r8 t8 C8 hqn hrn htn
  obtain ⟨M, hM⟩ : ∃ M, w8.heap.size = M := ⟨_, rfl⟩
  rw [hM] at m9 hMw hTM hQM ⊢
  clear hM
  obtain ⟨hat, hln⟩ := hx
  obtain ⟨cQ, hcQ⟩ : ∃ c, wcells Ln = c := ⟨_, rfl⟩
  rw [hcQ] at hat q9
  clear hcQ r9
  go_upto_region 16 with (fail)
  have m10 : (w9.setCell ⟨M, 0, none⟩ (U (t.count + 2#64))).heap[M]? = some (.cells (tcells { x with count := t.count + 2#64 }) 26 (0, 0)) := by rw [heap_setCell, if_pos rfl, m9, Option.map_some, setAt_cells]; exact congrArg (fun z => some (Obj.cells z 26 (0, 0))) (tsetc x (t.count + 2#64))
  have C10 : Ch [] w (w9.setCell ⟨M, 0, none⟩ (U (t.count + 2#64))) := C9.setCell (p := ⟨M, 0, none⟩) (.inr hMw) _
  have q10 : (w9.setCell ⟨M, 0, none⟩ (U (t.count + 2#64))).heap[Q]? = _ := (setCell_other (w := w9) (b := Q) M 0 (U (t.count + 2#64)) (by omega)).trans q9
  obtain ⟨w10, hw10⟩ : ∃ W, (w9.setCell ⟨M, 0, none⟩ (U (t.count + 2#64))) = W := ⟨_, rfl⟩
  rw [hw10] at m10 C10 q10 ⊢
  clear hw10 m9 q9 C9
  have T1 := fun w h => Table_any Q 16 (40 + m) cQ 22 (tword { x with count := t.count + 2#64 }) (by omega) (by omega) w h hat
  rw [hrd] at T1
  obtain ⟨y, hy⟩ : ∃ y, { x with count := t.count + 2#64 } = y := ⟨_, rfl⟩
  rw [hy] at m10
  have hyc : tcells (normT { x with count := t.count + 2#64 }) = tcells y := by rw [normT_cells, hy]
  have T2 : ∀ w, w.heap[Q]? = some (.cells cQ 22 (0, 0)) → Calls Tryz.prog 35 #[.slice (some ⟨Q, 16, none⟩) 40 (40 + m)] w fun e w' => e = .returned (.tuple #[.agg (tcells y), I 0]) ∧ Ch [] w w' := fun w h => by
    have := T1 w h
    simp only [tupOr, hyc] at this
    exact this
  clear T1 hy hyc hat hrd
  have i1 : (16 : Int) ≤ 56 + (m : Int) := by omega
  have i2 : (56 : Int) ≤ 56 + (m : Int) := by omega
  have e40 : 56 + m - 16 = 40 + m := by omega
  have e41 : (56 : Int) + (m : Int) - 16 = 40 + (m : Int) := by omega
  go_wp2_with fail
  trace_state
  refine (T2 _ q10).mono ?_
  rintro e w11 ⟨rfl, hc11⟩
  have m11 := hkeep hc11 m10
  have C11 := C10.trans hc11
  have hMn : ¬ M = w11.heap.size := by have := blk_lt19 m11; omega
  clear q10 m10 C10 hc11 T2
  go_upto_region 17 with (fail)
  have b12 := tab_put y w11
  have hc12 := tab_put_ch [] y w11
  have m12 := hkeep hc12 m11
  have C12 := C11.trans hc12
  obtain ⟨w12, hw12⟩ : ∃ W, World.onObj (w11.alloc (.cells (tcells zeroT) 26)) w11.heap.size (laidAt 0 (tcells y)) = W := ⟨_, rfl⟩
  first | rw [hw12] at b12 m12 C12 ⊢ | (simp only [laidAt_t] at hw12; rw [hw12] at b12 m12 C12 ⊢)
  clear hw12 hc12 m11 C11 hMn
  obtain ⟨D, hD⟩ : ∃ D, w11.heap.size = D := ⟨_, rfl⟩
  rw [hD] at b12 ⊢
  clear hD
  go_wp2_with fail
  go_ret
  exact ⟨rfl, C12⟩
end Go.Proofs.Hc
/- Law 20: RehashAnew. -/
namespace Go.Proofs.Hc
open Go.RowKit
theorem anew_flat {t x : Tab} {s : BitVec 64} (m : May t s) (hx : anewT t s = .ok x) : flatT x = true := by
  obtain ⟨y, hy⟩ := anew_ok m
  have hy' : anewT t s = .ok y := by unfold anewT; exact hy.eq
  rw [hx] at hy'
  have := Except.ok.inj hy'
  subst this
  exact hy.may.flat
theorem ranewN (t : Tab) (hN : NormT t) (seed : BitVec 64) (a : Option Addr) (n0 c0 : Nat) (ks : Nat → BitVec 64) (w : World) (hn0 : n0 ≤ c0) (hc0 : c0 ≤ 9223372036854775807) (ha : a = none → n0 = 0 ∧ c0 = 0) (hk : KeysIn w a n0 ks) :
    Calls Tryz.prog 5 #[U seed, .agg (tcells t), .slice a n0 c0] w fun e w' => e = .returned (.bool true) ∧ Ch [] w w' := by
  cases hf : flatT t with
  | false => exact ranew_none t seed a n0 c0 ks w hn0 hc0 ha hk hf
  | true =>
    cases hc : oddB t.count with
    | true => exact ranew_odd t seed a n0 c0 ks w hn0 hc0 ha hk hf hc
    | false =>
      cases hm : mayT t seed with
      | false => exact ranew_bad t seed a n0 c0 ks w hn0 hc0 ha hk hN hf hc hm
      | true =>
        have m := (may_iff _ _).1 hm
        obtain ⟨x, hx⟩ := anew_ok m
        have hx' : anewT t seed = .ok x := by unfold anewT; exact hx.eq
        have hfx0 : flatT x = true := anew_flat m hx'
        have hfx : flatT { x with count := t.count + 2#64 } = true := hfx0
        refine ranew_good t seed a n0 c0 ks w hn0 hc0 ha hk x hN hf hc hm hx' ?_
        unfold readE
        rw [if_pos (read_ok hfx), read_eq hfx]
theorem ranewLaw (t : Tab) (seed : BitVec 64) (a : Option Addr) (n0 c0 : Nat) (ks : Nat → BitVec 64) (w : World) (hn0 : n0 ≤ c0) (hc0 : c0 ≤ 9223372036854775807) (ha : a = none → n0 = 0 ∧ c0 = 0) (hk : KeysIn w a n0 ks) :
    Calls Tryz.prog 5 #[U seed, .agg (tcells t), .slice a n0 c0] w fun e w' => e = .returned (.bool true) ∧ Ch [] w w' := by
  rw [← normT_cells t]
  exact ranewN (normT t) (normT_norm t) seed a n0 c0 ks w hn0 hc0 ha hk
end Go.Proofs.Hc
