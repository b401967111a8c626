/- Package table: a key that is put in a slot, that was empty. -/
import Derived.Test.YtcikopeddljgkaaGreatKHd
import Derived.Test.YtcikopeddljgkaaGreatKHh
import Derived.Test.YtcikopeddljgkaaGreatKHj
import Derived.Test.YtcikopeddljgkaaGreatKHma
import Derived.Test.YtcikopeddljgkaaGreatKHmet
import Derived.Test.YtcikopeddljgkaaGreatKHr
import Derived.Test.YtcikopeddljgkaaGreatKHrw
import Derived.Test.YtcikopeddljgkaaGreatKHs
import Derived.Test.YtcikopeddljgkaaGreatKHcz
import Derived.Test.YtcikopeddljgkaaGreatKHtd
import Derived.Test.YtcikopeddljgkaaGreatKRn
import Derived.Test.YtcikopeddljgkaaGreatKHnac
import Derived.Below
import Derived.BigQuiet
import Derived.Deep.Draws
import Derived.Deep.Light
import Derived.Deep.QuietTactic
import Derived.Deep.RegionHeld
import Derived.Laws.CopyRow
import Derived.Laws.Tables
import Derived.Lib.AppendZerosOnto
import Derived.Lib.Hide
import Derived.Lib.Tables
import Derived.Lib.Walk
import Derived.LoopIn
import Derived.LoopN
import Derived.LoopNIn
import Derived.Maps.AppendAt
import Derived.Maps.Views
import Derived.OwnWalkIn
import Derived.RangeFuncBox
import Derived.RangeFuncCalls
import Derived.RangeFuncRecord
import Derived.RangeFuncSeq
import Derived.Recover
import Derived.RegionTactic
import Derived.Shelf.Slices.Clone
import Derived.StillTail
import Derived.StillTailTactics
import Derived.TacticsInMore
import Derived.Test.YtcikopeddljgkaaGreatProg
import Derived.WalkKit
import Derived.WalkLawsBesides
import Derived.WalkMore
import Derived.WalkSpells
set_option linter.unusedSimpArgs false
set_option linter.unusedVariables false
namespace Go.Proofs.Hc
open Go.RowKit
attribute [local go_sem] wrap_u64 wrap_u8 bits_xor64 bits_and64 bits_or64 bits_not64 bits_xor8 bits_and8 bits_or8 signed64 signed8 ofInt_N BitVec.ofInt_add BitVec.ofInt_mul ofInt_sub' ofInt8_N64 ofInt64_N8 wide8 eqN neN shr_pow shr1 shr7 shr56
attribute [local go_sem high] bits_com64 shl_wrap
attribute [local go_sem] cell_heap ice_heap cellAt_cells iceAt_cells setAt_cells rowAt_cells canLay_cells laidAt_cells size_onObj size_setCell rowRes_some layRes_true
attribute [local go_sem] load26 load73 load23 store26 build73
attribute [local go_sem ↓] lrow26 lrow73 lrow23 srow26 zero26 brow73 heap_alloc heap_drew heap_drewN heap_setCell heap_onObj
attribute [local go_sem] tcells_size hcells_size tcells_get hcells_get tcells_one hcells_one hcells_table tcells_table hcells_all hcells_ctrl tcells_ctrl
attribute [local go_sem] nn2 nm2 nn3 nm3 nn4 nm4 nn5 nm5 nn6 nm6 nn7 nm7 nn8 nm8
attribute [local go_sem] nn2 nm2 nn3 nm3 nn4 nm4 nn5 nm5 nn6 nm6 nn7 nm7 nn8 nm8
attribute [local go_sem] Oper.semAt_some make_func1 ofInt_pow8
attribute [local go_sem] box26 tcells_idx cell0 cell1 cell2 cell3 cell4 hcells_idx hcells_pop
attribute [local go_sem] cell5 cell6
set_option maxHeartbeats 400000 in
set_option maxRecDepth 100000 in
theorem put_empty (t : Tab) (s k v : BitVec 64) (sl g x b : Nat) (w : World) (hok0 : ctrlOk (t.c 0) = true) (hok1 : ctrlOk (t.c 1) = true) (hP : placeT t s k = .ok sl) (hsl : sl = 8 * g + x) (hg : g < 2) (hx : x < 8)
    (hfm : (freeM (t.c g)).getLsbD x = true) (hcan : -1000 ≤ t.can ∧ t.can ≤ 1000) (hlive : -1000 ≤ t.live ∧ t.live ≤ 1000) (he : (emptyM (t.c g) &&& laneM x != 0#8) = true) (hb : w.heap[b]? = some (.cells (hcells t s) 141 (0, 0))) :
    Calls Tryz.prog 134 #[.pointer (some ⟨b, 0, none⟩), U k, U v] w fun e w' => e = .returned (I sl) ∧ Ch [b] w w' ∧ w'.heap[b]? = some (.cells (hcells (fillT t s k v sl) s) 141 (0, 0)) := by
  have P1 := place_any t s k b w hok0 hok1 hb
  rw [hP] at P1
  have hokg := pick_ok t g hg hok0 hok1
  have S1 := fun w => sets_ok (t.c g) hokg w
  obtain ⟨h2, hh2⟩ : ∃ h2, hash2 (hashOf s k) = h2 := ⟨_, rfl⟩
  have hle := hash2_le (hashOf s k)
  rw [hh2] at hle
  have H2 : ∀ (t1 : Tab) (w : World), w.heap[b]? = some (.cells (hcells t1 s) 141 (0, 0)) → Calls Tryz.prog 169 #[.pointer (some ⟨b, 0, none⟩), U k] w fun e w' => e = .returned (Y h2) ∧ w = w' := fun t1 w hb => by rw [← hh2]; exact h2_any b t1 s k w hb
  have HH := Lib.hid hh2
  clear hh2
  have F1 := fun w => fill_ok (t.c g) x h2 hx hle (free_notfull hx hfm) hokg w
  have hc5 := hcells_ctrl_at t s g hg
  have hq : (sl : Int) / 8 = (g : Int) := by omega
  have hr : (sl : Int) % 8 = (x : Int) := by omega
  have hsl0 : (0 : Int) ≤ (sl : Int) := by omega
  have hsl1 : (sl : Int) < 16 := by omega
  have hg0 : (0 : Int) ≤ (g : Int) := by omega
  have hg1 : (g : Int) < 2 := by omega
  have hx0 : (0 : Int) ≤ (x : Int) := by omega
  have hx1 : (x : Int) < 8 := by omega
  have F2 : ∀ w, Calls Tryz.prog 211 #[U (t.c g), .int .i64 ((sl : Int) % 8), Y h2] w fun e w' => e = .returned (.tuple #[U (withB (t.c g) x h2), I 0]) ∧ Ch [] w w' := fun w => by rw [hr]; exact F1 w
  have hnw : (N (emptyM (t.c g) &&& laneM x) != 0) = (emptyM (t.c g) &&& laneM x != 0#8) := by rw [← neN]; rfl
  have HS := Lib.hid hsl
  have HC := Lib.hid hcan
  have HL := Lib.hid hlive
  obtain ⟨hcan0, hcan1⟩ := hcan
  obtain ⟨hl0, hl1⟩ := hlive
  clear hok0 hok1 hP hsl hfm hokg
  rw [he] at hnw
  have HE := Lib.hid he
  clear he
  go_enter Tryz.func134, Tryz.ntmps134
  go_wp2_with (first
    | (go_at_call 210; refine P1.mono ?_; rintro e w1 ⟨rfl, hc1⟩; simp only [retOr]; have d1 := hkeep hc1 hb)
    | (go_at_call 166; refine (S1 _).mono ?_; rintro e w2 ⟨rfl, hc2⟩; have d2 := hkeep hc2 d1))
  obtain ⟨t1, ht1⟩ : ∃ t1 : Tab, t1 = { t with can := t.can - 1 } := ⟨_, rfl⟩
  have E1 : (w2.setCell ⟨b, 3, none⟩ (.int .i64 (t.can - 1))).heap[b]? = some (.cells (hcells t1 s) 141 (0, 0)) := by
    rw [heap_setCell, if_pos rfl, d2, Option.map_some, setAt_cells, ht1]
    exact congrArg (fun c => some (Obj.cells c 141 (0, 0))) (hset_can t s (t.can - 1))
  have C1 : Ch [b] w (w2.setCell ⟨b, 3, none⟩ (.int .i64 (t.can - 1))) := ((hc1.trans hc2).of_nil).setCell (p := ⟨b, 3, none⟩) (.inl (by simp)) _
  have c5 : (hcells t1 s)[5 + g]? = some (U (t.c g)) := by rw [ht1]; exact hcells_ctrl_at _ s g hg
  have HT := Lib.hid ht1
  clear ht1 d1 d2 hc1 hc2 hb hc5 P1 S1
  generalize w2.setCell ⟨b, 3, none⟩ (.int .i64 (t.can - 1)) = W3 at *
  have hgb : ∀ q : Gar W3, (q.1).heap[b]? = some (.cells (hcells t1 s) 141 (0, 0)) := fun q => hkeep q.2 E1
  have HG : ∀ q : Gar W3, Calls Tryz.prog 169 #[.pointer (some ⟨b, 0, none⟩), U k] q.1 fun e w' => e = .returned (Y h2) ∧ q.1 = w' := fun q => H2 t1 q.1 (hgb q)
  clear H2
  refine wp_region_gar_tail 14 (by kernel_rfl) (by kernel_rfl) ?_
  simp only [List.take_succ_cons, List.take_zero, List.drop_succ_cons, List.drop_zero]
  repeat (go_big_quiet_step ((first | (go_at_call 169; exact garL (HG _)) | (go_at_call 211; with_reducible exact garC (F2 _)) | (go_at_call 211; with_reducible exact garC (F1 _)) | (go_at_call 137; exact garL (surew_yes _ _)))))
  refine wpQuiet_nil ?_
  rintro W6 ⟨g6, hw6⟩
  have hc6 : Ch [] W3 W6 := by rw [hw6]; exact g6.2
  clear hw6 g6 hgb HG
  have e6 := hkeep hc6 E1
  go_wp2
  have E7 : (W6.setCell ⟨b, 5 + g, none⟩ (U (withB (t.c g) x h2))).heap[b]? = some (.cells (hcells { t1 with c := fun i => if i = g then withB (t.c g) x h2 else t1.c i } s) 141 (0, 0)) := by
    rw [heap_setCell, if_pos rfl, e6, Option.map_some, setAt_cells, hset_ctrl t1 s g hg]
  have C7 : Ch [b] w (W6.setCell ⟨b, 5 + g, none⟩ (U (withB (t.c g) x h2))) := (C1.pure hc6).setCell (p := ⟨b, 5 + g, none⟩) (.inl (by simp)) _
  generalize W6.setCell ⟨b, 5 + g, none⟩ (U (withB (t.c g) x h2)) = W7 at *
  have H7 := Lib.hid E7
  obtain ⟨t2, ht2⟩ : ∃ t2 : Tab, t2 = { t1 with c := fun i => if i = g then withB (t.c g) x h2 else t1.c i } := ⟨_, rfl⟩
  rw [← ht2] at E7
  have HT2 := Lib.hid ht2
  clear ht2 H7 e6 hc6 E1
  have k7 := hcells_key t2 s sl (by omega)
  have v7 := hcells_val t2 s sl (by omega)
  refine wp_region_held_drew (S := fun _ => True) (by kernel_rfl) trivial ?_
  intro _
  simp only [List.size_toArray, List.length_cons, List.length_nil, Nat.reduceAdd]
  refine wpAnyH_take (i := 0) (v := ?_) rfl (by kernel_rfl) (by kernel_rfl) (by kernel_rfl) (fun _ _ _ h => h) (Or.inl ⟨by rfl, ?_⟩) trivial ?_
  rotate_left
  · intro wq hSq
    first | (go_simp; done) | (go_simp; with_reducible rfl)
  try simp only [Act.put, List.setIfInBounds_toArray, List.set_cons_zero, List.set_cons_succ]
  refine wpAnyH_take (i := 1) (v := ?_) rfl (by kernel_rfl) (by kernel_rfl) (by kernel_rfl) (fun _ _ _ h => h) (Or.inl ⟨by rfl, ?_⟩) trivial ?_
  rotate_left
  · intro wq hSq
    first | (go_simp; done) | (go_simp; with_reducible rfl)
  try simp only [Act.put, List.setIfInBounds_toArray, List.set_cons_zero, List.set_cons_succ]
  refine wpAnyH_take (i := 2) (v := ?_) rfl (by kernel_rfl) (by kernel_rfl) (by kernel_rfl) (fun _ _ _ h => h) (Or.inl ⟨by rfl, ?_⟩) trivial ?_
  rotate_left
  · intro wq hSq
    first | (go_simp; done) | (go_simp; with_reducible rfl)
  try simp only [Act.put, List.setIfInBounds_toArray, List.set_cons_zero, List.set_cons_succ]
  refine wpAnyH_take (i := 3) (v := ?_) rfl (by kernel_rfl) (by kernel_rfl) (by kernel_rfl) (fun _ _ _ h => h) (Or.inl ⟨by rfl, ?_⟩) trivial ?_
  rotate_left
  · intro wq hSq
    first | (go_simp; done) | (go_simp; with_reducible rfl)
  try simp only [Act.put, List.setIfInBounds_toArray, List.set_cons_zero, List.set_cons_succ]
  refine wpAnyH_take (i := 4) (v := ?_) rfl (by kernel_rfl) (by kernel_rfl) (by kernel_rfl) (fun _ _ _ h => h) (Or.inl ⟨by rfl, ?_⟩) trivial ?_
  rotate_left
  · intro wq hSq
    first | (go_simp; done) | (go_simp; with_reducible rfl)
  try simp only [Act.put, List.setIfInBounds_toArray, List.set_cons_zero, List.set_cons_succ]
  refine wpAnyH_take (i := 5) (v := ?_) rfl (by kernel_rfl) (by kernel_rfl) (by kernel_rfl) (fun _ _ _ h => h) (Or.inl ⟨by rfl, ?_⟩) trivial ?_
  rotate_left
  · intro wq hSq
    first | (go_simp; done) | (go_simp; with_reducible rfl)
  try simp only [Act.put, List.setIfInBounds_toArray, List.set_cons_zero, List.set_cons_succ]
  refine wpAnyH_take (i := 6) (v := ?_) rfl (by kernel_rfl) (by kernel_rfl) (by kernel_rfl) (fun _ _ _ h => h) (Or.inl ⟨by rfl, ?_⟩) trivial ?_
  rotate_left
  · intro wq hSq
    first | (go_simp; done) | (go_simp; with_reducible rfl)
  try simp only [Act.put, List.setIfInBounds_toArray, List.set_cons_zero, List.set_cons_succ]
  refine wpAnyH_take (i := 7) (v := ?_) rfl (by kernel_rfl) (by kernel_rfl) (by kernel_rfl) (fun _ _ _ h => h) (Or.inl ⟨by rfl, ?_⟩) trivial ?_
  rotate_left
  · intro wq hSq
    first | (go_simp; done) | (go_simp; with_reducible rfl)
  try simp only [Act.put, List.setIfInBounds_toArray, List.set_cons_zero, List.set_cons_succ]
  refine wpAnyH_take (i := 8) (v := ?_) rfl (by kernel_rfl) (by kernel_rfl) (by kernel_rfl) (fun _ _ _ h => h) (Or.inl ⟨by rfl, ?_⟩) trivial ?_
  rotate_left
  · intro wq hSq
    first | (go_simp; done) | (go_simp; with_reducible rfl)
  try simp only [Act.put, List.setIfInBounds_toArray, List.set_cons_zero, List.set_cons_succ]
  refine wpAnyH_take (i := 9) (v := ?_) rfl (by kernel_rfl) (by kernel_rfl) (by kernel_rfl) (fun _ _ _ h => h) (Or.inl ⟨by rfl, ?_⟩) trivial ?_
  rotate_left
  · intro wq hSq
    first | (go_simp; done) | (go_simp; with_reducible rfl)
  try simp only [Act.put, List.setIfInBounds_toArray, List.set_cons_zero, List.set_cons_succ]
  refine wpAnyH_take (i := 11) (v := ?_) rfl (by kernel_rfl) (by kernel_rfl) (by kernel_rfl) (fun _ _ _ h => h) (Or.inl ⟨by rfl, ?_⟩) trivial ?_
  rotate_left
  · intro wq hSq
    first | (go_simp; done) | (go_simp; with_reducible rfl)
  try simp only [Act.put, List.setIfInBounds_toArray, List.set_cons_zero, List.set_cons_succ]
  refine wpAnyH_take (i := 12) (v := ?_) rfl (by kernel_rfl) (by kernel_rfl) (by kernel_rfl) (fun _ _ _ h => h) (Or.inl ⟨by rfl, ?_⟩) trivial ?_
  rotate_left
  · intro wq hSq
    first | (go_simp; done) | (go_simp; with_reducible rfl)
  try simp only [Act.put, List.setIfInBounds_toArray, List.set_cons_zero, List.set_cons_succ]
  refine wpAnyH_take (i := 13) (v := ?_) rfl (by kernel_rfl) (by kernel_rfl) (by kernel_rfl) (fun _ _ _ h => h) (Or.inl ⟨by rfl, ?_⟩) trivial ?_
  rotate_left
  · intro wq hSq
    first | (go_simp; done) | (go_simp; with_reducible rfl)
  try simp only [Act.put, List.setIfInBounds_toArray, List.set_cons_zero, List.set_cons_succ]
  refine wpAnyH_ready (rs := [10]) (by kernel_rfl) (by simp) ?_
  refine AllReadyH.cons rfl (fun K hK => ?_) AllReadyH.nil
  go_simp
  refine hK.out _ _ trivial (fun hS2 => ?_)
  refine wpAnyH_take (i := 14) (v := ?_) rfl (by kernel_rfl) (by kernel_rfl) (by kernel_rfl) (fun _ _ _ h => h) (Or.inl ⟨by rfl, ?_⟩) trivial ?_
  rotate_left
  · intro wq hSq
    first | (go_simp; done) | (go_simp; with_reducible rfl)
  try simp only [Act.put, List.setIfInBounds_toArray, List.set_cons_zero, List.set_cons_succ]
  refine wpAnyH_ready (rs := [15]) (by kernel_rfl) (by simp) ?_
  refine AllReadyH.cons rfl (fun K2 hK2 => ?_) AllReadyH.nil
  go_simp
  refine hK2.out _ _ trivial (fun hS2 => ?_)
  refine wpAnyH_done (by kernel_rfl) ?_ _
  have E8 : (((W7.setCell ⟨b, 7 + sl, none⟩ (U k)).setCell ⟨b, 23 + sl, none⟩ (U v)).drew).heap[b]? = some (.cells (hcells { { t2 with k := fun i => if i = sl then k else t2.k i } with v := fun i => if i = sl then v else t2.v i } s) 141 (0, 0)) := by
    rw [heap_drew, heap_setCell, if_pos rfl, heap_setCell, if_pos rfl, E7, Option.map_some, setAt_cells, hset_key t2 s sl (by omega) k, Option.map_some, setAt_cells, hset_val _ s sl (by omega) v]
  have C8 : Ch [b] w (((W7.setCell ⟨b, 7 + sl, none⟩ (U k)).setCell ⟨b, 23 + sl, none⟩ (U v)).drew) := ((C7.setCell (p := ⟨b, 7 + sl, none⟩) (.inl (by simp)) _).setCell (p := ⟨b, 23 + sl, none⟩) (.inl (by simp)) _).drew
  generalize ((W7.setCell ⟨b, 7 + sl, none⟩ (U k)).setCell ⟨b, 23 + sl, none⟩ (U v)).drew = W8 at *
  obtain ⟨t3, ht3⟩ : ∃ t3 : Tab, t3 = { { t2 with k := fun i => if i = sl then k else t2.k i } with v := fun i => if i = sl then v else t2.v i } := ⟨_, rfl⟩
  rw [← ht3] at E8
  have hl3 : t3.live = t.live := by rw [ht3, HT2.out, HT.out]
  have l5 : -1000 ≤ t3.live := by rw [hl3]; exact hl0
  have l6 : t3.live ≤ 1000 := by rw [hl3]; exact hl1
  have HT3 := Lib.hid ht3
  have HL3 := Lib.hid hl3
  clear ht3 hl3 E7 k7 v7
  go_wp2
  go_ret
  refine ⟨rfl, C8.setCell (p := ⟨b, 4, none⟩) (.inl (by simp)) _, ?_⟩
  rw [heap_setCell, if_pos rfl, E8, Option.map_some, setAt_cells, hset_live t3 s (t3.live + 1), HL3.out]
  have hfin : fillT t s k v sl = { t3 with live := t.live + 1 } := by
    rw [HT3.out, HT2.out, HT.out, HS.out]
    unfold fillT
    have h1 : (8 * g + x) / 8 = g := by omega
    have h2' : (8 * g + x) % 8 = x := by omega
    simp only [h1, h2', HE.out, HH.out]
    simp
  rw [hfin]
end Go.Proofs.Hc
