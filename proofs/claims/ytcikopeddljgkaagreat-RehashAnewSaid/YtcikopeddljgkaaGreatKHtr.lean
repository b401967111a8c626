/- Package table: Drop. -/
import Derived.Test.YtcikopeddljgkaaGreatKHcb
import Derived.Test.YtcikopeddljgkaaGreatKHd
import Derived.Test.YtcikopeddljgkaaGreatKHdn
import Derived.Test.YtcikopeddljgkaaGreatKHj
import Derived.Test.YtcikopeddljgkaaGreatKHlan
import Derived.Test.YtcikopeddljgkaaGreatKHma
import Derived.Test.YtcikopeddljgkaaGreatKHmet
import Derived.Test.YtcikopeddljgkaaGreatKHpb
import Derived.Test.YtcikopeddljgkaaGreatKHr
import Derived.Test.YtcikopeddljgkaaGreatKHrw
import Derived.Test.YtcikopeddljgkaaGreatKHta
import Derived.Test.YtcikopeddljgkaaGreatKRn
import Derived.Test.YtcikopeddljgkaaGreatKHtj
import Derived.Test.YtcikopeddljgkaaGreatKHtm
import Derived.Test.YtcikopeddljgkaaGreatKHtv
import Derived.Test.YtcikopeddljgkaaGreatKHye
import Derived.Below
import Derived.BigQuiet
import Derived.Deep.Draws
import Derived.Deep.Light
import Derived.Deep.QuietTactic
import Derived.Deep.RegionHeld
import Derived.Laws.CopyRow
import Derived.Laws.Tables
import Derived.Lib.AppendZerosOnto
import Derived.Lib.Hide
import Derived.Lib.Tables
import Derived.Lib.Walk
import Derived.LoopIn
import Derived.LoopN
import Derived.LoopNIn
import Derived.Maps.AppendAt
import Derived.Maps.Views
import Derived.OwnWalkIn
import Derived.RangeFuncBox
import Derived.RangeFuncCalls
import Derived.RangeFuncRecord
import Derived.RangeFuncSeq
import Derived.Recover
import Derived.RegionTactic
import Derived.Shelf.Slices.Clone
import Derived.StillTail
import Derived.StillTailTactics
import Derived.TacticsInMore
import Derived.Test.YtcikopeddljgkaaGreatProg
import Derived.WalkKit
import Derived.WalkLawsBesides
import Derived.WalkMore
import Derived.WalkSpells
set_option linter.unusedSimpArgs false
set_option linter.unusedVariables false
namespace Go.Proofs.Hc
open Go.RowKit
attribute [local go_sem] wrap_u64 wrap_u8 bits_xor64 bits_and64 bits_or64 bits_not64 bits_xor8 bits_and8 bits_or8 signed64 signed8 ofInt_N BitVec.ofInt_add BitVec.ofInt_mul ofInt_sub' ofInt8_N64 ofInt64_N8 wide8 eqN neN shr_pow shr1 shr7 shr56
attribute [local go_sem high] bits_com64 shl_wrap
attribute [local go_sem] cell_heap ice_heap cellAt_cells iceAt_cells setAt_cells rowAt_cells canLay_cells laidAt_cells size_onObj size_setCell rowRes_some layRes_true
attribute [local go_sem] load26 load73 load23 store26 build73
attribute [local go_sem ↓] lrow26 lrow73 lrow23 srow26 zero26 brow73 heap_alloc heap_drew heap_drewN heap_setCell heap_onObj
attribute [local go_sem] tcells_size hcells_size tcells_get hcells_get tcells_one hcells_one hcells_table tcells_table hcells_all hcells_ctrl tcells_ctrl
attribute [local go_sem] nn2 nm2 nn3 nm3 nn4 nm4 nn5 nm5 nn6 nm6 nn7 nm7 nn8 nm8
attribute [local go_sem] loadA loadT2 storeA storeT2 buildA_ts buildA_sm assert_errno make_func acells_size t2cells_size acells_get t2cells_get acells_one t2cells_one acells_table acells_all t2cells_all t2cells_l t2cells_r
attribute [local go_sem ↓] lrowA lrowT2 srowA srowT2 browA zeroA_run zeroT2_run
attribute [local go_sem] nn2 nm2 nn3 nm3 nn4 nm4 nn5 nm5 nn6 nm6 nn7 nm7 nn8 nm8
attribute [local go_sem] Oper.semAt_some make_func1 ofInt_pow8
attribute [local go_sem] box26 tcells_idx cell0 cell1 cell2 cell3 cell4 hcells_idx hcells_pop
attribute [local go_sem] cell5 cell6
attribute [local go_sem high] laidAt_t laidAt_a
theorem cand_full {t : Tab} {s k : BitVec 64} {j : Nat} (h : j ∈ (rowT t s k).flatMap (candG t (hash2 (hashOf s k)))) : fullM (t.c (j / 8)) &&& laneM (j % 8) ≠ 0#8 := by
  obtain ⟨g, hg, hj⟩ := List.mem_flatMap.1 h
  unfold candG at hj
  obtain ⟨x, hx, rfl⟩ := List.mem_map.1 hj
  obtain ⟨hx, hb⟩ := (mem_lanes _ _).1 hx
  rw [equalM_bit _ _ _ hx] at hb
  have e1 : (8 * g + x) / 8 = g := by omega
  have e2 : (8 * g + x) % 8 = x := by omega
  rw [e1, e2]
  intro h0
  rw [and_lane _ x hx, fullM_bit _ x hx, beq_iff_eq.1 hb] at h0
  have := hash2_lt (hashOf s k)
  simp at h0
  omega
theorem foundE_full {t : Tab} {s k : BitVec 64} {y : Nat × Nat} (h : foundE t s k = .ok y) : fullM (t.c (y.1 / 8)) &&& laneM (y.1 % 8) ≠ 0#8 := by
  rw [foundE_eq] at h
  cases hf : foundT t s k with
  | none => rw [hf] at h; cases h
  | some z => rw [hf] at h; cases h; exact cand_full (scan_mem _ _ _ _ hf).1
theorem ctrlOk_gone {c : BitVec 64} (h : ctrlOk c = true) (x : Nat) (hx : x < 8) : ctrlOk (withB c x (gone c)) = true := by
  rw [ctrlOk_iff] at h ⊢
  intro n hn
  rw [byteAt_withB c x n _ hx hn]
  by_cases he : n = x
  · rw [if_pos he]
    unfold gone
    split
    · first | exact .inr (.inr rfl) | exact .inr (.inl rfl)
    · first | exact .inr (.inl rfl) | exact .inr (.inr rfl)
  · rw [if_neg he]; exact h n hn
theorem enters_drop1 (args : Array Value) (w : World) : (callFunc 136 args).run Tryz.prog w = .ok (.enter 136 args) w := by kernel_rfl
set_option maxHeartbeats 1000000 in
set_option maxRecDepth 100000 in
theorem drop1_any (t : Tab) (s k : BitVec 64) (b p : Nat) (w : World) (hok : OkT t 0) (hb : w.heap[b]? = some (.cells (hcells t s) 141 (0, 0))) (hp : w.heap[p]? = some (.cells #[U k] 22 (0, 0))) :
    Calls Tryz.prog 136 #[.pointer (some ⟨b, 0, none⟩), .pointer (some ⟨p, 0, none⟩)] w fun e w' => e = retOr (fun y => .agg (acells y)) (dropE t s k) ∧ Ch [b] w w' := by
  have hpl := (Array.getElem?_eq_some_iff.1 hp).1
  have hbl := (Array.getElem?_eq_some_iff.1 hb).1
  have hb' : (w.alloc (.cells (acells zeroA) 210)).heap[b]? = some (.cells (hcells t s) 141 (0, 0)) := by rw [heap_alloc, if_neg (by omega)]; exact hb
  have hpn : ¬ p = w.heap.size := by omega
  have P1 := found_any t s k b _ hok.c0 hok.c1 hb'
  have hlt := Lib.hid (fun y => foundE_lt (t := t) (s := s) (k := k) (y := y))
  have hfl := Lib.hid (fun y => foundE_full (t := t) (s := s) (k := k) (y := y))
  unfold dropE
  generalize foundE t s k = r at *
  have hbne : ¬ b = w.heap.size := by omega
  clear hpl
  cases r with
  | error c =>
    clear hok
    go_enter Tryz.func136, Tryz.ntmps136
    go_wp2_with (go_at_call 132; refine P1.mono ?_; rintro e w1 ⟨rfl, hc1⟩; simp only [retOr])
    exact ⟨rfl, rfl, (((Ch.refl [] w).alloc _).trans hc1).of_nil⟩
  | ok y =>
    obtain ⟨j, m⟩ := y
    have hj := hlt.out (j, m) rfl
    have hfu := hfl.out (j, m) rfl
    dsimp only at hj hfu
    clear hlt hfl
    have hj0 : (0 : Int) ≤ (j : Int) := by omega
    have hj1 : (j : Int) < 16 := by omega
    obtain ⟨g, hg⟩ : ∃ g, j / 8 = g := ⟨_, rfl⟩
    obtain ⟨x, hx⟩ : ∃ x, j % 8 = x := ⟨_, rfl⟩
    have hqg : (j : Int) / 8 = (g : Int) := by omega
    have hrx : (j : Int) % 8 = (x : Int) := by omega
    have hg2 : g < 2 := by omega
    have hx8 : x < 8 := by omega
    have hg0 : (0 : Int) ≤ (g : Int) := by omega
    have hg1 : (g : Int) < 2 := by omega
    rw [hg, hx] at hfu
    have hokg : ctrlOk (t.c g) = true := by
      rcases (show g = 0 ∨ g = 1 by omega) with h | h <;> rw [h]
      · exact hok.c0
      · exact hok.c1
    have hcan := Lib.hid hok.can
    have hlive := Lib.hid hok.live
    clear hok
    have EOK := ctrlOk_gone hokg x hx8
    have E1 := fun w => erase_ok (t.c g) x hx8 hfu hokg w
    have c5 := hcells_ctrl_at t s g hg2
    obtain ⟨c', hc'⟩ : ∃ c', withB (t.c g) x (gone (t.c g)) = c' := ⟨_, rfl⟩
    rw [hc'] at E1 EOK
    have S1 := fun w => stops_ok c' EOK w
    have hdrop := Lib.hid (show dropT t j = { t with c := fun i => if i = g then c' else t.c i, can := if emptyM c' != 0#8 then t.can + 1 else t.can, live := t.live - 1 } by unfold dropT goneC; simp only [hg, hx, hc'])
    clear hfu hokg EOK hc'
    go_enter Tryz.func136, Tryz.ntmps136
    go_wp2_with (first
      | (go_at_call 132; refine P1.mono ?_; rintro e w1 ⟨rfl, hc1⟩; simp only [retOr]; have hA := hkeep hc1 (show (w.alloc (.cells (acells zeroA) 210)).heap[w.heap.size]? = some (.cells (acells zeroA) 210 (0, 0)) by simp [go_sem]); have hB := hkeep hc1 hb')
      | (go_at_call 138; refine (E1 _).mono ?_; rintro e w2 ⟨rfl, hc2⟩; have hA2 := hkeep hc2 hA; have hB2 := hkeep hc2 hB))
    refine (surew_yes c' w2).mono ?_
    rintro e w3 ⟨rfl, hw3⟩
    subst hw3
    clear hA hB hb hb' hp P1 E1
    go_simp
    go_upto_region 4 with (fail)
    obtain ⟨t2, ht2⟩ : ∃ t2 : Tab, { t with c := fun i => if i = g then c' else t.c i } = t2 := ⟨_, rfl⟩
    have B3 : (w2.setCell ⟨b, 5 + g, none⟩ (U c')).heap[b]? = some (.cells (hcells t2 s) 141 (0, 0)) := by rw [heap_setCell, if_pos rfl, hB2, Option.map_some, setAt_cells, hset_ctrl t s g hg2, ht2]
    have A3 : (w2.setCell ⟨b, 5 + g, none⟩ (U c')).heap[w.heap.size]? = some (.cells (acells zeroA) 210 (0, 0)) := by rw [heap_setCell, if_neg (Ne.symm hbne)]; exact hA2
    have C3 : Ch [b] w (w2.setCell ⟨b, 5 + g, none⟩ (U c')) := ((((Ch.refl [] w).alloc _).trans hc1).trans hc2).of_nil.setCell (p := ⟨b, 5 + g, none⟩) (.inl (by simp)) _
    have c5' : (hcells t2 s)[5 + g]? = some (U c') := by rw [hcells_ctrl_at t2 s g hg2, ← ht2]; simp
    have can2 : t2.can = t.can := by rw [← ht2]
    have live2 : t2.live = t.live := by rw [← ht2]
    generalize w2.setCell ⟨b, 5 + g, none⟩ (U c') = W3 at *
    have k0 : 0 ≤ t2.can := by rw [can2]; have := hcan.out; omega
    have k1 : t2.can ≤ 14 := by rw [can2]; have := hcan.out; omega
    have l0 : 0 ≤ t2.live := by rw [live2]; have := hlive.out; omega
    have l1 : t2.live ≤ 14 := by rw [live2]; have := hlive.out; omega
    have CAN2 := Lib.hid can2
    have LIVE2 := Lib.hid live2
    have HT2 := Lib.hid ht2
    clear can2 live2 ht2 hA2 hB2 hc1 hc2 c5 hbl hcan hlive
    obtain ⟨st, hst⟩ : ∃ st, (emptyM c' != 0#8) = st := ⟨_, rfl⟩
    rw [hst] at S1 hdrop
    clear hst
    have hfin : ∃ t3 : Tab, ∃ x : Int, (if st then t2.can + 1 else t2.can) = x ∧ { t2 with can := x } = t3 ∧ t3.live = t2.live ∧ Hid (dropT t j = { t3 with live := t3.live - 1 }) :=
      ⟨_, _, rfl, rfl, rfl, Lib.hid (by rw [hdrop.out, ← HT2.out])⟩
    obtain ⟨t3, x3, hx3, ht3, hl3, HD⟩ := hfin
    have L0 : 0 ≤ t3.live := by omega
    have L1 : t3.live ≤ 14 := by omega
    clear hl3 hdrop
    have HX3 := Lib.hid hx3
    clear hx3
    have HT3 := Lib.hid ht3
    clear ht3
    cases st
    · go_upto_region 6 with (go_at_call 139; refine (S1 _).mono ?_; rintro e W4 ⟨rfl, hc4⟩; have A4 := hkeep hc4 A3; have B4 := hkeep hc4 B3)
      have A5 := A4
      have B5 : W4.heap[b]? = some (.cells (hcells t3 s) 141 (0, 0)) := by rw [← HT3.out, ← HX3.out]; exact B4
      have C5 : Ch [b] w W4 := C3.pure hc4
      obtain ⟨W5, hW5⟩ : ∃ W5, W4 = W5 := ⟨_, rfl⟩
      rw [hW5] at A5 B5 C5 ⊢
      clear hW5
      clear A4 B4 hc4 C3 A3 B3
      go_upto_region 7 with (fail)
      have A6 : (W5.setCell ⟨b, 4, none⟩ (I (t3.live - 1))).heap[w.heap.size]? = some (.cells (acells zeroA) 210 (0, 0)) := by rw [heap_setCell, if_neg (Ne.symm hbne)]; exact A5
      have B6 : (W5.setCell ⟨b, 4, none⟩ (I (t3.live - 1))).heap[b]? = some (.cells (hcells (dropT t j) s) 141 (0, 0)) := by rw [heap_setCell, if_pos rfl, B5, Option.map_some, setAt_cells, hset_live, ← HD.out]
      have C6 : Ch [b] w (W5.setCell ⟨b, 4, none⟩ (I (t3.live - 1))) := C5.setCell (p := ⟨b, 4, none⟩) (.inl (by simp)) _
      generalize W5.setCell ⟨b, 4, none⟩ (I (t3.live - 1)) = W6 at *
      clear A5 B5 C5 HD HT3 HX3
      obtain ⟨tf, htf⟩ : ∃ tf, dropT t j = tf := ⟨_, rfl⟩
      rw [htf] at B6
      have HTF := Lib.hid htf
      clear htf
      go_wp2
      refine bodyPost_ret (v := .agg (acells ⟨tf, j, 0⟩)) (results_cell1 Tryz.results136 _ _ _ rfl (run_loadVar_row _ _ 210 210 (acells ⟨tf, j, 0⟩) (0, 0) _ ?_ Tryz.underlying210 rfl (by rw [acells_size]; kernel_rfl))) rfl ⟨by rw [← HTF.out]; rfl, ?_⟩
      · simp only [heap_onObj, if_true, A6, Option.map_some, laidAt_a]
      · exact C6.onObj (.inr (Nat.le_refl _)) _
    · go_upto_region 6 with (go_at_call 139; refine (S1 _).mono ?_; rintro e W4 ⟨rfl, hc4⟩; have A4 := hkeep hc4 A3; have B4 := hkeep hc4 B3)
      have A5 : (W4.setCell ⟨b, 3, none⟩ (I (t2.can + 1))).heap[w.heap.size]? = some (.cells (acells zeroA) 210 (0, 0)) := by rw [heap_setCell, if_neg (Ne.symm hbne)]; exact A4
      have B5 : (W4.setCell ⟨b, 3, none⟩ (I (t2.can + 1))).heap[b]? = some (.cells (hcells t3 s) 141 (0, 0)) := by rw [heap_setCell, if_pos rfl, B4, Option.map_some, setAt_cells, hset_can, ← HT3.out, ← HX3.out]; rfl
      have C5 : Ch [b] w (W4.setCell ⟨b, 3, none⟩ (I (t2.can + 1))) := (C3.pure hc4).setCell (p := ⟨b, 3, none⟩) (.inl (by simp)) _
      generalize W4.setCell ⟨b, 3, none⟩ (I (t2.can + 1)) = W5 at *
      clear A4 B4 hc4 C3 A3 B3
      go_upto_region 7 with (fail)
      have A6 : (W5.setCell ⟨b, 4, none⟩ (I (t3.live - 1))).heap[w.heap.size]? = some (.cells (acells zeroA) 210 (0, 0)) := by rw [heap_setCell, if_neg (Ne.symm hbne)]; exact A5
      have B6 : (W5.setCell ⟨b, 4, none⟩ (I (t3.live - 1))).heap[b]? = some (.cells (hcells (dropT t j) s) 141 (0, 0)) := by rw [heap_setCell, if_pos rfl, B5, Option.map_some, setAt_cells, hset_live, ← HD.out]
      have C6 : Ch [b] w (W5.setCell ⟨b, 4, none⟩ (I (t3.live - 1))) := C5.setCell (p := ⟨b, 4, none⟩) (.inl (by simp)) _
      generalize W5.setCell ⟨b, 4, none⟩ (I (t3.live - 1)) = W6 at *
      clear A5 B5 C5 HD HT3 HX3
      obtain ⟨tf, htf⟩ : ∃ tf, dropT t j = tf := ⟨_, rfl⟩
      rw [htf] at B6
      have HTF := Lib.hid htf
      clear htf
      go_wp2
      refine bodyPost_ret (v := .agg (acells ⟨tf, j, 0⟩)) (results_cell1 Tryz.results136 _ _ _ rfl (run_loadVar_row _ _ 210 210 (acells ⟨tf, j, 0⟩) (0, 0) _ ?_ Tryz.underlying210 rfl (by rw [acells_size]; kernel_rfl))) rfl ⟨by rw [← HTF.out]; rfl, ?_⟩
      · simp only [heap_onObj, if_true, A6, Option.map_some, laidAt_a]
      · exact C6.onObj (.inr (Nat.le_refl _)) _
end Go.Proofs.Hc
