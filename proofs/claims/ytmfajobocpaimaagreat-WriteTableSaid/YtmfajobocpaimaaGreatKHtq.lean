/- Package table: a key that is put, in any table whose control words may be. -/
import Derived.Test.YtmfajobocpaimaaGreatKHm
import Derived.Test.YtmfajobocpaimaaGreatKHd
import Derived.Test.YtmfajobocpaimaaGreatKHj
import Derived.Test.YtmfajobocpaimaaGreatKHma
import Derived.Test.YtmfajobocpaimaaGreatKHmy
import Derived.Test.YtmfajobocpaimaaGreatKHn
import Derived.Test.YtmfajobocpaimaaGreatKHpa
import Derived.Test.YtmfajobocpaimaaGreatKHrw
import Derived.Test.YtmfajobocpaimaaGreatKHh
import Derived.Test.YtmfajobocpaimaaGreatKHtd
import Derived.Test.YtmfajobocpaimaaGreatKHtg
import Derived.Test.YtmfajobocpaimaaGreatKHxo
import Derived.Test.YtmfajobocpaimaaGreatKHtj
import Derived.Test.YtmfajobocpaimaaGreatKHxc
import Derived.Below
import Derived.BigQuiet
import Derived.Deep.Draws
import Derived.Deep.Light
import Derived.Deep.QuietTactic
import Derived.Deep.RegionHeld
import Derived.Laws.CopyRow
import Derived.Laws.Tables
import Derived.Lib.AppendZerosOnto
import Derived.Lib.Hide
import Derived.Lib.Tables
import Derived.Lib.Walk
import Derived.LoopIn
import Derived.LoopN
import Derived.LoopNIn
import Derived.Maps.AppendAt
import Derived.Maps.Views
import Derived.OwnWalkIn
import Derived.RangeFuncBox
import Derived.RangeFuncCalls
import Derived.RangeFuncRecord
import Derived.RangeFuncSeq
import Derived.Recover
import Derived.RegionTactic
import Derived.Shelf.Slices.Clone
import Derived.StillTail
import Derived.StillTailTactics
import Derived.TacticsInMore
import Derived.Test.YtmfajobocpaimaaGreatProg
import Derived.WalkKit
import Derived.WalkLawsBesides
import Derived.WalkMore
import Derived.WalkSpells
set_option linter.unusedSimpArgs false
set_option linter.unusedVariables false
namespace Go.Proofs.Hc
open Go.RowKit
attribute [local go_sem] wrap_u64 wrap_u8 bits_xor64 bits_and64 bits_or64 bits_not64 bits_xor8 bits_and8 bits_or8 signed64 signed8 ofInt_N BitVec.ofInt_add BitVec.ofInt_mul ofInt_sub' ofInt8_N64 ofInt64_N8 wide8 eqN neN shr_pow shr1 shr7 shr56
attribute [local go_sem high] bits_com64 shl_wrap
attribute [local go_sem] cell_heap ice_heap cellAt_cells iceAt_cells setAt_cells rowAt_cells canLay_cells laidAt_cells size_onObj size_setCell rowRes_some layRes_true
attribute [local go_sem] load26 load73 load23 store26 build73
attribute [local go_sem ↓] lrow26 lrow73 lrow23 srow26 zero26 brow73 heap_alloc heap_drew heap_drewN heap_setCell heap_onObj
attribute [local go_sem] tcells_size hcells_size tcells_get hcells_get tcells_one hcells_one hcells_table tcells_table hcells_all hcells_ctrl tcells_ctrl
attribute [local go_sem] nn2 nm2 nn3 nm3 nn4 nm4 nn5 nm5 nn6 nm6 nn7 nm7 nn8 nm8
attribute [local go_sem] nn2 nm2 nn3 nm3 nn4 nm4 nn5 nm5 nn6 nm6 nn7 nm7 nn8 nm8
/-- Control words that may be, and numbers far from any end. -/
structure OkT (t : Tab) (n : Nat) : Prop where
  c0 : ctrlOk (t.c 0) = true
  c1 : ctrlOk (t.c 1) = true
  can : -(n : Int) ≤ t.can ∧ t.can ≤ 14
  live : 0 ≤ t.live ∧ t.live ≤ 14 + (n : Int)
theorem ctrlOk_fill {c : BitVec 64} (h : ctrlOk c = true) (x : Nat) (hx : x < 8) (b : BitVec 8) (hb : b.toNat < 128) : ctrlOk (withB c x b) = true := by
  rw [ctrlOk_iff] at h ⊢
  intro n hn
  rw [byteAt_withB c x n b hx hn]
  by_cases he : n = x
  · rw [if_pos he]; exact .inl hb
  · rw [if_neg he]; exact h n hn
theorem hash2_lt (h : BitVec 64) : (hash2 h).toNat < 128 := by
  have := hash2_le h
  unfold N at this
  omega
theorem OkT.fill {t : Tab} {n : Nat} (h : OkT t n) (s k v : BitVec 64) (sl : Nat) (hs : sl < 16) : OkT (fillT t s k v sl) (n + 1) := by
  have hw : ∀ g, ctrlOk (t.c g) = true → g < 2 → ctrlOk ((fillT t s k v sl).c g) = true := fun g hg _ => by
    show ctrlOk (if g = sl / 8 then withB (t.c (sl / 8)) (sl % 8) (hash2 (hashOf s k)) else t.c g) = true
    by_cases he : g = sl / 8
    · rw [if_pos he, ← he]; exact ctrlOk_fill hg _ (by omega) _ (hash2_lt _)
    · rw [if_neg he]; exact hg
  refine ⟨hw 0 h.c0 (by omega), hw 1 h.c1 (by omega), ?_, ?_⟩
  · show -((n + 1 : Nat) : Int) ≤ (if emptyM (t.c (sl / 8)) &&& laneM (sl % 8) != 0#8 then t.can - 1 else t.can) ∧ (if emptyM (t.c (sl / 8)) &&& laneM (sl % 8) != 0#8 then t.can - 1 else t.can) ≤ 14
    have := h.can
    split <;> omega
  · show 0 ≤ t.live + 1 ∧ t.live + 1 ≤ 14 + ((n + 1 : Nat) : Int)
    have := h.live
    omega
theorem put_any (t : Tab) (n : Nat) (s k v : BitVec 64) (b : Nat) (w : World) (h : OkT t n) (hn : n ≤ 900) (hb : w.heap[b]? = some (.cells (hcells t s) 112 (0, 0))) :
    Calls Tryz.prog 86 #[.pointer (some ⟨b, 0, none⟩), U k, U v] w fun e w' => e = retOr (fun n : Nat => I n) (placeT t s k) ∧ Ch [b] w w' ∧
      ∀ sl, placeT t s k = .ok sl → w'.heap[b]? = some (.cells (hcells (fillT t s k v sl) s) 112 (0, 0)) := by
  cases hP : placeT t s k with
  | error c => exact (put_no t s k v c b w h.c0 h.c1 hP hb).mono fun e w' ⟨he, hc⟩ => ⟨he, hc.of_nil, fun sl hsl => by cases hsl⟩
  | ok sl =>
    obtain ⟨g, x, hsl, hg, hx, _, _, hfm, _⟩ := place_ok hP
    have h1 := h.can
    have h2 := h.live
    cases he : (emptyM (t.c g) &&& laneM x != 0#8)
    · exact (put_deleted t s k v sl g x b w h.c0 h.c1 hP hsl hg hx hfm (by omega) (by omega) he hb).mono fun e w' ⟨he, hc, hh⟩ => ⟨he, hc, fun sl' hsl' => by cases hsl'; exact hh⟩
    · exact (put_empty t s k v sl g x b w h.c0 h.c1 hP hsl hg hx hfm (by omega) (by omega) he hb).mono fun e w' ⟨he, hc, hh⟩ => ⟨he, hc, fun sl' hsl' => by cases hsl'; exact hh⟩
end Go.Proofs.Hc
/- Package table: the exported functions that look at a table. -/
namespace Go.Proofs.Hc
open Go.RowKit
attribute [local go_sem] wrap_u64 wrap_u8 bits_xor64 bits_and64 bits_or64 bits_not64 bits_xor8 bits_and8 bits_or8 signed64 signed8 ofInt_N BitVec.ofInt_add BitVec.ofInt_mul ofInt_sub' ofInt8_N64 ofInt64_N8 wide8 eqN neN shr_pow shr1 shr7 shr56
attribute [local go_sem high] bits_com64 shl_wrap
attribute [local go_sem] cell_heap ice_heap cellAt_cells iceAt_cells setAt_cells rowAt_cells canLay_cells laidAt_cells size_onObj size_setCell rowRes_some layRes_true
attribute [local go_sem] load26 load73 load23 store26 build73
attribute [local go_sem ↓] lrow26 lrow73 lrow23 srow26 zero26 brow73 heap_alloc heap_drew heap_drewN heap_setCell heap_onObj
attribute [local go_sem] tcells_size hcells_size tcells_get hcells_get tcells_one hcells_one hcells_table tcells_table hcells_all hcells_ctrl tcells_ctrl
attribute [local go_sem] nn2 nm2 nn3 nm3 nn4 nm4 nn5 nm5 nn6 nm6 nn7 nm7 nn8 nm8
attribute [local go_sem] loadA loadT2 storeA storeT2 buildA_ts buildA_sm assert_errno make_func acells_size t2cells_size acells_get t2cells_get acells_one t2cells_one acells_table acells_all t2cells_all t2cells_l t2cells_r
attribute [local go_sem ↓] lrowA lrowT2 srowA srowT2 browA zeroA_run zeroT2_run
attribute [local go_sem] nn2 nm2 nn3 nm3 nn4 nm4 nn5 nm5 nn6 nm6 nn7 nm7 nn8 nm8
attribute [local go_sem] Oper.semAt_some make_func1 ofInt_pow8
attribute [local go_sem] box26 tcells_idx cell0 cell1 cell2 cell3 cell4 hcells_idx hcells_pop
attribute [local go_sem] cell5 cell6
theorem enters_find1 (args : Array Value) (w : World) : (callFunc 99 args).run Tryz.prog w = .ok (.enter 99 args) w := by kernel_rfl
theorem may_ok {t : Tab} {s : BitVec 64} (h : mayT t s = true) : ctrlOk (t.c 0) = true ∧ ctrlOk (t.c 1) = true := by
  rw [mayT] at h
  simp only [Bool.and_eq_true] at h
  exact h.1.1.1.2
set_option maxRecDepth 100000 in
theorem check_any (t : Tab) (s : BitVec 64) (w : World) :
    Calls Tryz.prog 31 #[U s, .agg (tcells t)] w fun e w' => e = .returned (I (if mayT t s then 0 else 270)) ∧ Ch [] w w' := by
  have M1 := fun b w hb => may_any t s b w hb
  generalize mayT t s = m at *
  cases m
  all_goals
    go_enter Tryz.func31, Tryz.ntmps31
    go_wp2_with fail
    refine (M1 (w.heap.size + 1) _ (by simp [go_sem])).mono ?_
    rintro e w1 ⟨rfl, hc1⟩
    go_wp2
    go_ret
    exact ⟨rfl, (((Ch.refl [] w).alloc _).alloc _).trans hc1⟩
set_option maxRecDepth 100000 in
theorem find1_any (t : Tab) (s k : BitVec 64) (b p : Nat) (w : World) (h0 : ctrlOk (t.c 0) = true) (h1 : ctrlOk (t.c 1) = true) (hb : w.heap[b]? = some (.cells (hcells t s) 112 (0, 0))) (hp : w.heap[p]? = some (.cells #[U k] 22 (0, 0))) :
    Calls Tryz.prog 99 #[.pointer (some ⟨b, 0, none⟩), .pointer (some ⟨p, 0, none⟩)] w fun e w' => e = retOr (fun y : Nat × Nat => .agg (acells ⟨zeroT, y.1, y.2⟩)) (foundE t s k) ∧ Ch [] w w' := by
  have hpl := (Array.getElem?_eq_some_iff.1 hp).1
  have hbl := (Array.getElem?_eq_some_iff.1 hb).1
  have hb' : (w.alloc (.cells (acells zeroA) 130)).heap[b]? = some (.cells (hcells t s) 112 (0, 0)) := by rw [heap_alloc, if_neg (by omega)]; exact hb
  have hpn : ¬ p = w.heap.size := by omega
  have P1 := found_any t s k b _ h0 h1 hb'
  generalize foundE t s k = r at *
  clear hpl hbl
  cases r with
  | error c =>
    go_enter Tryz.func99, Tryz.ntmps99
    go_wp2_with (go_at_call 88; refine P1.mono ?_; rintro e w1 ⟨rfl, hc1⟩; simp only [retOr])
    exact ⟨rfl, rfl, ((Ch.refl [] w).alloc _).trans hc1⟩
  | ok y =>
    go_enter Tryz.func99, Tryz.ntmps99
    go_wp2_with (go_at_call 88; refine P1.mono ?_; rintro e w1 ⟨rfl, hc1⟩; simp only [retOr]; have hA : w1.heap[w.heap.size]? = some (.cells (acells zeroA) 130 (0, 0)) := (hc1.block _ (by simp) (by simp)).trans (by simp [go_sem]))
    refine bodyPost_ret (v := .agg (acells ⟨zeroT, y.1, y.2⟩)) (results_cell1 Tryz.results99 _ _ _ rfl (run_loadVar_row _ _ 130 130 (acells ⟨zeroT, y.1, y.2⟩) (0, 0) _ ?_ Tryz.underlying130 rfl (by rw [acells_size]; kernel_rfl))) rfl ⟨rfl, ?_⟩
    · simp only [heap_onObj, if_true, hA, Option.map_some, laidAt_cells]
      rw [laid_whole _ _ (by rw [acells_size, acells_size])]
    · exact (((Ch.refl [] w).alloc _).trans hc1).onObj (.inr (Nat.le_refl _)) _
end Go.Proofs.Hc
/- Package table: Place, Find, Pairs. -/
namespace Go.Proofs.Hc
open Go.RowKit
attribute [local go_sem] wrap_u64 wrap_u8 bits_xor64 bits_and64 bits_or64 bits_not64 bits_xor8 bits_and8 bits_or8 signed64 signed8 ofInt_N BitVec.ofInt_add BitVec.ofInt_mul ofInt_sub' ofInt8_N64 ofInt64_N8 wide8 eqN neN shr_pow shr1 shr7 shr56
attribute [local go_sem high] bits_com64 shl_wrap
attribute [local go_sem] cell_heap ice_heap cellAt_cells iceAt_cells setAt_cells rowAt_cells canLay_cells laidAt_cells size_onObj size_setCell rowRes_some layRes_true
attribute [local go_sem] load26 load73 load23 store26 build73
attribute [local go_sem ↓] lrow26 lrow73 lrow23 srow26 zero26 brow73 heap_alloc heap_drew heap_drewN heap_setCell heap_onObj
attribute [local go_sem] tcells_size hcells_size tcells_get hcells_get tcells_one hcells_one hcells_table tcells_table hcells_all hcells_ctrl tcells_ctrl
attribute [local go_sem] nn2 nm2 nn3 nm3 nn4 nm4 nn5 nm5 nn6 nm6 nn7 nm7 nn8 nm8
attribute [local go_sem] loadA loadT2 storeA storeT2 buildA_ts buildA_sm assert_errno make_func acells_size t2cells_size acells_get t2cells_get acells_one t2cells_one acells_table acells_all t2cells_all t2cells_l t2cells_r
attribute [local go_sem ↓] lrowA lrowT2 srowA srowT2 browA zeroA_run zeroT2_run
attribute [local go_sem] nn2 nm2 nn3 nm3 nn4 nm4 nn5 nm5 nn6 nm6 nn7 nm7 nn8 nm8
attribute [local go_sem] Oper.semAt_some make_func1 ofInt_pow8
attribute [local go_sem] box26 tcells_idx cell0 cell1 cell2 cell3 cell4 hcells_idx hcells_pop
attribute [local go_sem] cell5 cell6
/-- What a call comes to that is made of a table that may be. -/
def ifMay {α : Type} (t : Tab) (s : BitVec 64) (r : Except Int α) : Except Int α := if mayT t s then r else .error 270
theorem mapE_ret {α β : Type} (enc : β → Value) (f : α → β) (r : Except Int α) : retOr (fun x => enc (f x)) r = retOr enc (r.map f) := by cases r <;> rfl
def findV (r : Except Int (Nat × Nat)) : Value := match r with
  | .ok y => .tuple #[I y.1, I y.2, I 0]
  | .error c => .tuple #[I 0, I 0, I c]
theorem acells_idx (a : At) (i : Nat) (h : i < (acells a).size) : (acells a)[i] = if i = 39 then I a.slot else if i = 40 then I a.many else a.t.cell i := by simp [acells]
attribute [local go_sem] acells_idx
set_option maxRecDepth 100000 in
theorem Find_any (t : Tab) (s k : BitVec 64) (w : World) :
    Calls Tryz.prog 35 #[U s, .agg (tcells t), U k] w fun e w' => e = .returned (findV (ifMay t s (foundE t s k))) ∧ Ch [] w w' := by
  have T1 := fun (w : World) cap hd => tries91_any t s 99 cap ((foundE t s k).map fun y : Nat × Nat => (⟨zeroT, y.1, y.2⟩ : At)) w enters_find1 hd
  have D1 := fun b p w h0 h1 hb hp => find1_any t s k b p w h0 h1 hb hp
  have hm := fun h => may_ok (t := t) (s := s) h
  unfold ifMay
  generalize foundE t s k = r at *
  generalize mayT t s = m at *
  go_enter Tryz.func35, Tryz.ntmps35
  go_wp2_with fail
  refine (T1 _ #[.pointer (some ⟨w.heap.size + 1, 0, none⟩)] ?_).mono ?_
  · intro hmt b w1 hb hc hle
    obtain ⟨h0, h1⟩ := hm hmt
    refine (D1 b (w.heap.size + 1) w1 h0 h1 hb ((hc.block _ (by simp) (by simp)).trans (by simp [go_sem]))).mono ?_
    rintro e w2 ⟨rfl, hc2⟩
    exact ⟨mapE_ret (fun v : At => .agg (acells v)) (fun y : Nat × Nat => (⟨zeroT, y.1, y.2⟩ : At)) r, hc2.of_nil⟩
  · rintro e w1 ⟨rfl, hc1⟩
    cases m
    · simp only [tupOr, Bool.false_eq_true, if_false]
      go_wp2
      go_quiet (fail)
      go_wp2
      go_ret3
      refine ⟨rfl, ?_⟩
      exact ((((((Ch.refl [] w).alloc _).alloc _).trans hc1).alloc _).onObj (.inr (by have := hc1.size; simp at this; show w.heap.size ≤ w1.heap.size; omega)) _).drewN nq
    · cases r with
      | error e =>
        simp only [tupOr, if_true, Except.map]
        go_wp2
        go_quiet (fail)
        go_wp2
        go_ret3
        refine ⟨rfl, ?_⟩
        exact ((((((Ch.refl [] w).alloc _).alloc _).trans hc1).alloc _).onObj (.inr (by have := hc1.size; simp at this; show w.heap.size ≤ w1.heap.size; omega)) _).drewN nq
      | ok y =>
        obtain ⟨y1, y2⟩ := y
        simp only [tupOr, if_true, Except.map]
        go_wp2
        go_quiet (fail)
        go_wp2
        go_ret3
        refine ⟨?_, ?_⟩
        · simp only [findV, if_true]; rfl
        · exact ((((((Ch.refl [] w).alloc _).alloc _).trans hc1).alloc _).onObj (.inr (by have := hc1.size; simp at this; show w.heap.size ≤ w1.heap.size; omega)) _).drewN nq
end Go.Proofs.Hc
/- Package table: Put, Puts. -/
namespace Go.Proofs.Hc
open Go.RowKit
attribute [local go_sem] wrap_u64 wrap_u8 bits_xor64 bits_and64 bits_or64 bits_not64 bits_xor8 bits_and8 bits_or8 signed64 signed8 ofInt_N BitVec.ofInt_add BitVec.ofInt_mul ofInt_sub' ofInt8_N64 ofInt64_N8 wide8 eqN neN shr_pow shr1 shr7 shr56
attribute [local go_sem high] bits_com64 shl_wrap
attribute [local go_sem] cell_heap ice_heap cellAt_cells iceAt_cells setAt_cells rowAt_cells canLay_cells laidAt_cells size_onObj size_setCell rowRes_some layRes_true
attribute [local go_sem] load26 load73 load23 store26 build73
attribute [local go_sem ↓] lrow26 lrow73 lrow23 srow26 zero26 brow73 heap_alloc heap_drew heap_drewN heap_setCell heap_onObj
attribute [local go_sem] tcells_size hcells_size tcells_get hcells_get tcells_one hcells_one hcells_table tcells_table hcells_all hcells_ctrl tcells_ctrl
attribute [local go_sem] nn2 nm2 nn3 nm3 nn4 nm4 nn5 nm5 nn6 nm6 nn7 nm7 nn8 nm8
attribute [local go_sem] loadA loadT2 storeA storeT2 buildA_ts buildA_sm assert_errno make_func acells_size t2cells_size acells_get t2cells_get acells_one t2cells_one acells_table acells_all t2cells_all t2cells_l t2cells_r
attribute [local go_sem ↓] lrowA lrowT2 srowA srowT2 browA zeroA_run zeroT2_run
attribute [local go_sem] nn2 nm2 nn3 nm3 nn4 nm4 nn5 nm5 nn6 nm6 nn7 nm7 nn8 nm8
attribute [local go_sem] Oper.semAt_some make_func1 ofInt_pow8
attribute [local go_sem] box26 tcells_idx cell0 cell1 cell2 cell3 cell4 hcells_idx hcells_pop
attribute [local go_sem] cell5 cell6 acells_idx
attribute [local go_sem high] laidAt_t
theorem laidAt_a (a b : At) (T : TypeId) (fr : Nat × Nat) : laidAt 0 (acells b) (.cells (acells a) T fr) = .cells (acells b) T fr := by
  rw [laidAt_cells, laid_whole _ _ (by rw [acells_size, acells_size])]
attribute [local go_sem high] laidAt_a
theorem enters_put1 (args : Array Value) (w : World) : (callFunc 85 args).run Tryz.prog w = .ok (.enter 85 args) w := by kernel_rfl
/-- A key that is put: the table then, and its slot. -/
def putA (t : Tab) (s k v : BitVec 64) : Except Int At := (placeT t s k).map fun sl => ⟨fillT t s k v sl, sl, 0⟩
theorem may_okT {t : Tab} {s : BitVec 64} (h : mayT t s = true) : OkT t 0 := by
  obtain ⟨h0, h1⟩ := may_ok h
  rw [mayT] at h
  simp only [Bool.and_eq_true, beq_iff_eq] at h
  obtain ⟨⟨⟨⟨hf, _⟩, _⟩, hl⟩, hc⟩ := h
  have := slots_len t
  refine ⟨h0, h1, ?_, ?_⟩ <;> (rw [flatT] at hf; simp only [Bool.and_eq_true, decide_eq_true_eq] at hf; omega)
set_option maxRecDepth 100000 in
theorem put1_any (t : Tab) (s k v : BitVec 64) (b p q : Nat) (w : World) (hok : OkT t 0) (hb : w.heap[b]? = some (.cells (hcells t s) 112 (0, 0))) (hp : w.heap[p]? = some (.cells #[U k] 22 (0, 0))) (hq : w.heap[q]? = some (.cells #[U v] 22 (0, 0))) :
    Calls Tryz.prog 85 #[.pointer (some ⟨b, 0, none⟩), .pointer (some ⟨p, 0, none⟩), .pointer (some ⟨q, 0, none⟩)] w fun e w' => e = retOr (fun y => .agg (acells y)) (putA t s k v) ∧ Ch [b] w w' := by
  have hpl := (Array.getElem?_eq_some_iff.1 hp).1
  have hql := (Array.getElem?_eq_some_iff.1 hq).1
  have hbl := (Array.getElem?_eq_some_iff.1 hb).1
  have hb' : (w.alloc (.cells (acells zeroA) 130)).heap[b]? = some (.cells (hcells t s) 112 (0, 0)) := by rw [heap_alloc, if_neg (by omega)]; exact hb
  have hpn : ¬ p = w.heap.size := by omega
  have hqn : ¬ q = w.heap.size := by omega
  have P1 := put_any t 0 s k v b _ hok (by omega) hb'
  unfold putA
  generalize fillT t s k v = f at *
  generalize placeT t s k = r at *
  have hbne : w.heap.size ∉ [b] := by simp; omega
  clear hpl hql hbl
  cases r with
  | error c =>
    go_enter Tryz.func85, Tryz.ntmps85
    go_wp2_with (go_at_call 86; refine P1.mono ?_; rintro e w1 ⟨rfl, hc1, _⟩; simp only [retOr])
    exact ⟨rfl, rfl, (((Ch.refl [] w).alloc _).of_nil).trans hc1⟩
  | ok sl =>
    go_enter Tryz.func85, Tryz.ntmps85
    go_wp2_with (go_at_call 86; refine P1.mono ?_; rintro e w1 ⟨rfl, hc1, hh⟩; simp only [retOr]; have hb1 := hh sl rfl; clear hh; have hA : w1.heap[w.heap.size]? = some (.cells (acells zeroA) 130 (0, 0)) := (hc1.block _ (by simp) hbne).trans (by simp [go_sem]))
    refine bodyPost_ret (v := .agg (acells ⟨f sl, sl, 0⟩)) (results_cell1 Tryz.results85 _ _ _ rfl (run_loadVar_row _ _ 130 130 (acells ⟨f sl, sl, 0⟩) (0, 0) _ ?_ Tryz.underlying130 rfl (by rw [acells_size]; kernel_rfl))) rfl ⟨rfl, ?_⟩
    · simp only [heap_onObj, if_true, hA, Option.map_some, laidAt_a]
    · exact ((((Ch.refl [] w).alloc _).of_nil).trans hc1).onObj (.inr (Nat.le_refl _)) _
end Go.Proofs.Hc
/- Package table: Set. -/
namespace Go.Proofs.Hc
open Go.RowKit
attribute [local go_sem] wrap_u64 wrap_u8 bits_xor64 bits_and64 bits_or64 bits_not64 bits_xor8 bits_and8 bits_or8 signed64 signed8 ofInt_N BitVec.ofInt_add BitVec.ofInt_mul ofInt_sub' ofInt8_N64 ofInt64_N8 wide8 eqN neN shr_pow shr1 shr7 shr56
attribute [local go_sem high] bits_com64 shl_wrap
attribute [local go_sem] cell_heap ice_heap cellAt_cells iceAt_cells setAt_cells rowAt_cells canLay_cells laidAt_cells size_onObj size_setCell rowRes_some layRes_true
attribute [local go_sem] load26 load73 load23 store26 build73
attribute [local go_sem ↓] lrow26 lrow73 lrow23 srow26 zero26 brow73 heap_alloc heap_drew heap_drewN heap_setCell heap_onObj
attribute [local go_sem] tcells_size hcells_size tcells_get hcells_get tcells_one hcells_one hcells_table tcells_table hcells_all hcells_ctrl tcells_ctrl
attribute [local go_sem] nn2 nm2 nn3 nm3 nn4 nm4 nn5 nm5 nn6 nm6 nn7 nm7 nn8 nm8
attribute [local go_sem] loadA loadT2 storeA storeT2 buildA_ts buildA_sm assert_errno make_func acells_size t2cells_size acells_get t2cells_get acells_one t2cells_one acells_table acells_all t2cells_all t2cells_l t2cells_r
attribute [local go_sem ↓] lrowA lrowT2 srowA srowT2 browA zeroA_run zeroT2_run
attribute [local go_sem] nn2 nm2 nn3 nm3 nn4 nm4 nn5 nm5 nn6 nm6 nn7 nm7 nn8 nm8
attribute [local go_sem] Oper.semAt_some make_func1 ofInt_pow8
attribute [local go_sem] box26 tcells_idx cell0 cell1 cell2 cell3 cell4 hcells_idx hcells_pop
attribute [local go_sem] cell5 cell6
attribute [local go_sem high] laidAt_t
theorem scan_mem (f : Nat → Bool) : ∀ (l : List Nat) (n : Nat) (y : Nat × Nat), scan f n l = some y → y.1 ∈ l ∧ f y.1 = true
  | [], n, y, h => by cases h
  | x :: l, n, y, h => by
    rw [scan] at h
    by_cases hf : f x = true
    · rw [if_pos hf] at h
      cases h
      exact ⟨by simp, hf⟩
    · rw [if_neg hf] at h
      obtain ⟨h1, h2⟩ := scan_mem f l (n + 1) y h
      exact ⟨by simp [h1], h2⟩
theorem cand_lt {t : Tab} {s k : BitVec 64} {h2 : BitVec 8} {j : Nat} (h : j ∈ (rowT t s k).flatMap (candG t h2)) : j < 16 := by
  obtain ⟨g, hg, hj⟩ := List.mem_flatMap.1 h
  have := row_bound t s k g hg
  unfold candG at hj
  obtain ⟨x, hx, rfl⟩ := List.mem_map.1 hj
  have := ((mem_lanes _ _).1 hx).1
  omega
theorem foundT_lt {t : Tab} {s k : BitVec 64} {y : Nat × Nat} (h : foundT t s k = some y) : y.1 < 16 := cand_lt (scan_mem _ _ _ _ h).1
theorem foundE_lt {t : Tab} {s k : BitVec 64} {y : Nat × Nat} (h : foundE t s k = .ok y) : y.1 < 16 := by
  rw [foundE_eq] at h
  cases hf : foundT t s k with
  | none => rw [hf] at h; cases h
  | some z => rw [hf] at h; cases h; exact foundT_lt hf
theorem enters_set1 (args : Array Value) (w : World) : (callFunc 87 args).run Tryz.prog w = .ok (.enter 87 args) w := by kernel_rfl
/-- A table whose key has another value. -/
def setT (t : Tab) (j : Nat) (v : BitVec 64) : Tab := { t with v := fun i => if i = j then v else t.v i }
def setE (t : Tab) (s k v : BitVec 64) : Except Int Tab := (foundE t s k).map fun y => setT t y.1 v
set_option maxHeartbeats 1000000 in
set_option maxRecDepth 100000 in
theorem set1_any (t : Tab) (s k v : BitVec 64) (b p q : Nat) (w : World) (h0 : ctrlOk (t.c 0) = true) (h1 : ctrlOk (t.c 1) = true) (hb : w.heap[b]? = some (.cells (hcells t s) 112 (0, 0))) (hp : w.heap[p]? = some (.cells #[U k] 22 (0, 0))) (hq : w.heap[q]? = some (.cells #[U v] 22 (0, 0))) :
    Calls Tryz.prog 87 #[.pointer (some ⟨b, 0, none⟩), .pointer (some ⟨p, 0, none⟩), .pointer (some ⟨q, 0, none⟩)] w fun e w' => e = retOr (fun y => .agg (tcells y)) (setE t s k v) ∧ Ch [b] w w' := by
  have hpl := (Array.getElem?_eq_some_iff.1 hp).1
  have hql := (Array.getElem?_eq_some_iff.1 hq).1
  have hbl := (Array.getElem?_eq_some_iff.1 hb).1
  have hb' : (w.alloc (.cells (tcells zeroT) 26)).heap[b]? = some (.cells (hcells t s) 112 (0, 0)) := by rw [heap_alloc, if_neg (by omega)]; exact hb
  have hpn : ¬ p = w.heap.size := by omega
  have hqn : ¬ q = w.heap.size := by omega
  have P1 := found_any t s k b _ h0 h1 hb'
  have hlt := Lib.hid (fun y => foundE_lt (t := t) (s := s) (k := k) (y := y))
  unfold setE
  generalize foundE t s k = r at *
  have hbne : ¬ b = w.heap.size := by omega
  clear hpl hql
  cases r with
  | error c =>
    go_enter Tryz.func87, Tryz.ntmps87
    go_wp2_with (go_at_call 88; refine P1.mono ?_; rintro e w1 ⟨rfl, hc1⟩; simp only [retOr])
    exact ⟨rfl, rfl, (((Ch.refl [] w).alloc _).trans hc1).of_nil⟩
  | ok y =>
    have hj : y.1 < 16 := hlt.out y rfl
    clear hlt
    go_enter Tryz.func87, Tryz.ntmps87
    go_wp2_with (go_at_call 88; refine P1.mono ?_; rintro e w1 ⟨rfl, hc1⟩; simp only [retOr]; have hA := hkeep hc1 (show (w.alloc (.cells (tcells zeroT) 26)).heap[w.heap.size]? = some (.cells (tcells zeroT) 26 (0, 0)) by simp [go_sem]); have hB := hkeep hc1 hb'; have hQ := hkeep hc1 (show (w.alloc (.cells (tcells zeroT) 26)).heap[q]? = some (.cells #[U v] 22 (0, 0)) by rw [heap_alloc, if_neg (by omega)]; exact hq))
    have hcf : Ch [] w w1 := ((Ch.refl [] w).alloc _).trans hc1
    clear hc1 hb' P1
    obtain ⟨j, m⟩ := y
    replace hj : j < 16 := hj
    simp only at *
    have hqb : ¬ q = b := by
      rintro rfl
      rw [hb] at hq
      have := congrArg (fun o => match o with | some (Obj.cells c _ _) => c.size | _ => 0) hq
      simp [hcells_size] at this
    have hj0 : (0 : Int) ≤ (j : Int) := by omega
    have hj1 : (j : Int) < 16 := by omega
    have hqn2 : ¬ w.heap.size = q := by omega
    refine wp_region_held_drew (S := fun W' => W'.heap[q]? = some (.cells #[U v] 22 (0, 0))) (by kernel_rfl) hQ ?_
    intro hS
    simp only [List.size_toArray, List.length_cons, List.length_nil, Nat.reduceAdd]
    refine wpAnyH_take (i := 0) (v := ?_) rfl (by kernel_rfl) (by kernel_rfl) (by kernel_rfl) (fun _ _ _ h => h) (Or.inl ⟨by rfl, ?_⟩) hS ?_
    rotate_left
    · intro wq hSq
      first | (go_simp; done) | (go_simp; with_reducible rfl)
    try simp only [Act.put, List.setIfInBounds_toArray, List.set_cons_zero, List.set_cons_succ]
    refine wpAnyH_take (i := 1) (v := ?_) rfl (by kernel_rfl) (by kernel_rfl) (by kernel_rfl) (fun _ _ _ h => h) (Or.inl ⟨by rfl, ?_⟩) hS ?_
    rotate_left
    · intro wq hSq
      first | (go_simp; done) | (go_simp; with_reducible rfl)
    try simp only [Act.put, List.setIfInBounds_toArray, List.set_cons_zero, List.set_cons_succ]
    refine wpAnyH_take (i := 2) (v := ?_) rfl (by kernel_rfl) (by kernel_rfl) (by kernel_rfl) (fun _ _ _ h => h) (Or.inl ⟨by rfl, ?_⟩) hS ?_
    rotate_left
    · intro wq hSq
      first | (go_simp; done) | (go_simp; with_reducible rfl)
    try simp only [Act.put, List.setIfInBounds_toArray, List.set_cons_zero, List.set_cons_succ]
    refine wpAnyH_take (i := 3) (v := ?_) rfl (by kernel_rfl) (by kernel_rfl) (by kernel_rfl) (fun _ _ _ h => h) (Or.inl ⟨by rfl, ?_⟩) hS ?_
    rotate_left
    · intro wq hSq
      first | (go_simp; done) | (go_simp; with_reducible rfl)
    try simp only [Act.put, List.setIfInBounds_toArray, List.set_cons_zero, List.set_cons_succ]
    refine wpAnyH_take (i := 4) (v := ?_) rfl (by kernel_rfl) (by kernel_rfl) (by kernel_rfl) (fun _ _ _ h => h) (Or.inl ⟨by rfl, ?_⟩) hS ?_
    rotate_left
    · intro wq hSq
      first | (go_simp; done) | (go_simp; with_reducible rfl)
    try simp only [Act.put, List.setIfInBounds_toArray, List.set_cons_zero, List.set_cons_succ]
    refine wpAnyH_take (i := 5) (v := ?_) rfl (by kernel_rfl) (by kernel_rfl) (by kernel_rfl) (fun _ _ _ h => h) (Or.inl ⟨by rfl, ?_⟩) hS ?_
    rotate_left
    · intro wq hSq
      first | (go_simp; done) | (go_simp; with_reducible rfl)
    try simp only [Act.put, List.setIfInBounds_toArray, List.set_cons_zero, List.set_cons_succ]
    refine wpAnyH_take (i := 6) (v := ?_) rfl (by kernel_rfl) (by kernel_rfl) (by kernel_rfl) (fun _ _ _ h => h) (Or.inl ⟨by rfl, ?_⟩) hS ?_
    rotate_left
    · intro wq hSq
      first | (go_simp; done) | (go_simp; with_reducible rfl)
    try simp only [Act.put, List.setIfInBounds_toArray, List.set_cons_zero, List.set_cons_succ]
    refine wpAnyH_ready (rs := [7]) (by kernel_rfl) (by simp) ?_
    refine AllReadyH.cons (o := ⟨none, .store 22 (.tmp 19) (.tmp 15), 0, _, _, none⟩) rfl (fun K hK => ?_) AllReadyH.nil
    go_simp
    rw [if_pos (show 23 + j < 40 by omega)]
    go_simp
    have hS9 : (w1.setCell ⟨b, 23 + j, none⟩ (U v)).heap[q]? = some (.cells #[U v] 22 (0, 0)) := by rw [heap_setCell, if_neg hqb]; exact hQ
    refine hK.out _ _ hS9 (fun hS2 => ?_)
    refine wpAnyH_done (by kernel_rfl) ?_ _
    have hB2 : ((w1.setCell ⟨b, 23 + j, none⟩ (U v)).drew).heap[b]? = some (.cells (hcells (setT t j v) s) 112 (0, 0)) := by
      rw [heap_drew, heap_setCell, if_pos rfl, hB, Option.map_some, setAt_cells, hset_val t s j hj v]; rfl
    have hA2 : ((w1.setCell ⟨b, 23 + j, none⟩ (U v)).drew).heap[w.heap.size]? = some (.cells (tcells zeroT) 26 (0, 0)) := by
      rw [heap_drew, heap_setCell, if_neg (Ne.symm hbne)]; exact hA
    have hC2 : Ch [b] w ((w1.setCell ⟨b, 23 + j, none⟩ (U v)).drew) := (hcf.of_nil.setCell (p := ⟨b, 23 + j, none⟩) (.inl (by simp)) _).drew
    generalize (w1.setCell ⟨b, 23 + j, none⟩ (U v)).drew = W2 at *
    go_wp2
    refine bodyPost_ret (v := .agg (tcells (setT t j v))) (results_cell1 Tryz.results87 _ _ _ rfl (run_loadVar_row _ _ 26 26 (tcells (setT t j v)) (0, 0) _ ?_ Tryz.underlying26 rfl (by rw [tcells_size]; kernel_rfl))) rfl ⟨rfl, ?_⟩
    · simp only [heap_onObj, if_true, hA2, Option.map_some, laidAt_t]
    · exact hC2.onObj (.inr (Nat.le_refl _)) _
theorem tup26 (r : Except Int Tab) : ∃ (y : Tab) (c : Int), tupOr (fun v => Value.agg (tcells v)) (.agg (tcells zeroT)) r = .tuple #[.agg (tcells y), I c] := by
  cases r with
  | error c => exact ⟨zeroT, c, rfl⟩
  | ok y => exact ⟨y, 0, rfl⟩
theorem results_c0t {P : Program} {fn : Func} {p q : Tmp} {T1 : TypeId} (h : fn.results = #[.cell p T1, .tmp q]) (tmps : Array Value) (a : Addr) (w : World) {x y : Value}
    (hp : tmps.getD p undef = .pointer (some a)) (hq : tmps.getD q undef = y) (h1 : (loadVar T1 a).run P w = .ok x w) :
    (results fn tmps).run P w = .ok (.tuple #[x, y]) w := by
  have hp' : tmps[p]?.getD undef = .pointer (some a) := by simpa using hp
  have hq' : tmps[q]?.getD undef = y := by simpa using hq
  simp [results, h, hp', hq', asAddr, h1]
set_option maxHeartbeats 1000000 in
set_option maxRecDepth 100000 in
theorem Set_any (t : Tab) (s k v : BitVec 64) (w : World) :
    Calls Tryz.prog 25 #[U s, .agg (tcells t), U k, U v] w fun e w' => e = .returned (tupOr (fun v => .agg (tcells v)) (.agg (tcells zeroT)) (ifMay t s (setE t s k v))) ∧ Ch [] w w' := by
  have T1 : ∀ (w : World) (cap : Array Value), _ → Calls Tryz.prog 64 #[U s, .agg (tcells t), .func (.func 87) #[] cap] w fun e w' => e = .returned (tupOr (fun v => .agg (tcells v)) (.agg (tcells zeroT)) (ifMay t s (setE t s k v))) ∧ Ch [] w w' := fun w cap hd => tries26_any t s 87 cap (setE t s k v) w enters_set1 hd
  have D1 := fun b p q w h0 h1 hb hp hq => set1_any t s k v b p q w h0 h1 hb hp hq
  have hm := fun h => may_ok (t := t) (s := s) h
  generalize ifMay t s (setE t s k v) = R at *
  generalize setE t s k v = r at *
  obtain ⟨y, c, htup⟩ := tup26 R
  rw [htup]
  obtain ⟨W0, hW0⟩ : ∃ W0, (((w.alloc (.cells (tcells t) 26)).alloc (.cells #[U k] 22)).alloc (.cells #[U v] 22)).alloc (.cells (tcells zeroT) 26) = W0 := ⟨_, rfl⟩
  have hC0 : Ch [] w W0 := by rw [← hW0]; exact ((((Ch.refl [] w).alloc _).alloc _).alloc _).alloc _
  have b0 : W0.heap[w.heap.size]? = some (.cells (tcells t) 26 (0, 0)) := by rw [← hW0]; simp [go_sem]
  have b1 : W0.heap[w.heap.size + 1]? = some (.cells #[U k] 22 (0, 0)) := by rw [← hW0]; simp [go_sem]
  have b2 : W0.heap[w.heap.size + 1 + 1]? = some (.cells #[U v] 22 (0, 0)) := by rw [← hW0]; simp [go_sem]
  have b3 : W0.heap[w.heap.size + 1 + 1 + 1]? = some (.cells (tcells zeroT) 26 (0, 0)) := by rw [← hW0]; simp [go_sem]
  go_enter Tryz.func25, Tryz.ntmps25
  go_wp2_with fail
  refine (T1 W0 #[.pointer (some ⟨w.heap.size + 1, 0, none⟩), .pointer (some ⟨w.heap.size + 1 + 1, 0, none⟩)] ?_).mono ?_
  · intro hmt b w1 hb hc hle
    obtain ⟨h0, h1⟩ := hm hmt
    exact D1 b (w.heap.size + 1) (w.heap.size + 1 + 1) w1 h0 h1 hb (hkeep hc b1) (hkeep hc b2)
  · rintro e w1 ⟨rfl, hc1⟩
    have d3 := hkeep hc1 b3
    clear T1 D1 hm b0 b1 b2 b3
    rw [htup]
    clear htup
    go_wp2
    refine bodyPost_ret (v := .tuple #[.agg (tcells y), I c]) (results_c0t Tryz.results25 _ _ _ rfl rfl (run_loadVar_row _ _ 26 26 (tcells y) (0, 0) _ ?_ Tryz.underlying26 rfl (by rw [tcells_size]; kernel_rfl))) rfl ⟨rfl, ?_⟩
    · simp only [heap_onObj, if_true, d3, Option.map_some, laidAt_t]
    · exact (hC0.trans hc1).onObj (.inr (by omega)) _
end Go.Proofs.Hc
