/- Law 17: does the layer do anything? -/
import Derived.Test.YtaddieimkpijeaaGreatKHpc
import Derived.Test.YtaddieimkpijeaaGreatKHtrHtr2
import Derived.Test.YtaddieimkpijeaaGreatKHtv
import Derived.Deep.QuietTactic
import Derived.BigQuiet
set_option linter.unusedSimpArgs false
set_option linter.unusedVariables false
namespace Go.Proofs.Hc
open Go.RowKit
attribute [local go_sem] wrap_u64 wrap_u8 bits_xor64 bits_and64 bits_or64 bits_not64 bits_xor8 bits_and8 bits_or8 signed64 signed8 ofInt_N BitVec.ofInt_add BitVec.ofInt_mul ofInt_sub' ofInt8_N64 ofInt64_N8 wide8 eqN neN shr_pow shr1 shr7 shr56
attribute [local go_sem high] bits_com64 shl_wrap
attribute [local go_sem] cell_heap ice_heap cellAt_cells iceAt_cells setAt_cells rowAt_cells canLay_cells laidAt_cells size_onObj size_setCell rowRes_some layRes_true
attribute [local go_sem] load26 load73 load23 store26 build73
attribute [local go_sem ↓] lrow26 lrow73 lrow23 srow26 zero26 brow73 heap_alloc heap_drew heap_drewN heap_setCell heap_onObj
attribute [local go_sem] tcells_size hcells_size tcells_get hcells_get tcells_one hcells_one hcells_table tcells_table hcells_all hcells_ctrl tcells_ctrl
attribute [local go_sem] nn2 nm2 nn3 nm3 nn4 nm4 nn5 nm5 nn6 nm6 nn7 nm7 nn8 nm8
attribute [local go_sem] loadA loadT2 storeA storeT2 buildA_ts buildA_sm assert_errno make_func acells_size t2cells_size acells_get t2cells_get acells_one t2cells_one acells_table acells_all t2cells_all t2cells_l t2cells_r
attribute [local go_sem ↓] lrowA lrowT2 srowA srowT2 browA zeroA_run zeroT2_run
attribute [local go_sem] nn2 nm2 nn3 nm3 nn4 nm4 nn5 nm5 nn6 nm6 nn7 nm7 nn8 nm8
attribute [local go_sem] Oper.semAt_some make_func1 ofInt_pow8
attribute [local go_sem] box26 tcells_idx cell0 cell1 cell2 cell3 cell4 hcells_idx hcells_pop
attribute [local go_sem] cell5 cell6 acells_idx acells_table
attribute [local go_sem high] laidAt_t laidAt_a laidAt_t2
/-- A half, if it can be laid. -/
def okOr : Except Int Tab → Tab
  | .ok x => x
  | .error _ => zeroT
theorem okOr_ok (x : Tab) : okOr (.ok x) = x := rfl
def halfX (t : Tab) (s : BitVec 64) (i : Nat) : Tab := okOr (laidT s (halfB t i) (halfL t s i))
theorem halfX_def (t : Tab) (s : BitVec 64) (i : Nat) : halfX t s i = okOr (laidT s (halfB t i) (halfL t s i)) := by rw [halfX]
theorem halfX_laid {t : Tab} {s : BitVec 64} (m : May t s) (hd : t.depth < 5) (i : Nat) (hi : i < 2) : Laid s (halfB t i) (halfL t s i) (halfX t s i) := by
  obtain ⟨x, hx⟩ := half_ok m hd i hi
  have e : halfX t s i = x := by rw [halfX_def, hx.eq, okOr_ok]
  rw [e]; exact hx
theorem halfX_eq {t : Tab} {s : BitVec 64} (hm : mayT t s = true) (hd : t.depth < 5) (i : Nat) (hi : i < 2) : laidT s (halfB t i) (halfL t s i) = .ok (halfX t s i) := (halfX_laid ((may_iff t s).1 hm) hd i hi).eq
theorem Halves_is (t : Tab) (s : BitVec 64) (w : World) :
    Calls Tryz.prog 12 #[U s, .agg (tcells t)] w fun e w' => e = .returned (tupOr (fun v => .agg (t2cells v)) (.agg (t2cells zeroT2)) (ifMay t s (halvesE t (halfX t s)))) ∧ Ch [] w w' :=
  Halves_any t s (halfX t s) w halfX_eq
/-- The tables that the statements' first look makes. -/
def wk0 : Tab := bareT 0#64 0 0#64
def wk1 : Tab := fillT wk0 5#64 5#64 50#64 0
theorem wk_new : newE 0 0#64 = .ok wk0 := by rw [newE, if_neg (by decide)]; rfl
theorem wk_may0 : mayT wk0 5#64 = true := by decide +kernel
theorem wk_place0 : placeT wk0 5#64 5#64 = .ok 0 := by kernel_rfl
theorem wk_may1 : mayT wk1 5#64 = true := by decide +kernel
theorem wk_found5 : foundE wk1 5#64 5#64 = .ok (0, 1) := by kernel_rfl
theorem wk_found6 : foundE wk1 5#64 6#64 = .error 4 := by kernel_rfl
theorem wk_place1 : placeT wk1 5#64 5#64 = .error 5 := by kernel_rfl
theorem wk_left : (halfX wk1 5#64 0).live = 1 := by kernel_rfl
theorem wk_right : (halfX wk1 5#64 1).live = 0 := by kernel_rfl
theorem wk_live : (dropT wk1 0).live = 0 := by kernel_rfl
theorem wk_can : (dropT wk1 0).can = 14 := by kernel_rfl
theorem wk_zero : mayT zeroT 5#64 = false := by decide +kernel
end Go.Proofs.Hc
/- Law 17: the first look, walked. -/
namespace Go.Proofs.Hc
open Go.RowKit
attribute [local go_sem] wrap_u64 wrap_u8 bits_xor64 bits_and64 bits_or64 bits_not64 bits_xor8 bits_and8 bits_or8 signed64 signed8 ofInt_N BitVec.ofInt_add BitVec.ofInt_mul ofInt_sub' ofInt8_N64 ofInt64_N8 wide8 eqN neN shr_pow shr1 shr7 shr56
attribute [local go_sem high] bits_com64 shl_wrap
attribute [local go_sem] cell_heap ice_heap cellAt_cells iceAt_cells setAt_cells rowAt_cells canLay_cells laidAt_cells size_onObj size_setCell rowRes_some layRes_true
attribute [local go_sem] load26 load73 load23 store26 build73
attribute [local go_sem ↓] lrow26 lrow73 lrow23 srow26 zero26 brow73 heap_alloc heap_drew heap_drewN heap_setCell heap_onObj
attribute [local go_sem] tcells_size hcells_size tcells_get hcells_get tcells_one hcells_one hcells_table tcells_table hcells_all hcells_ctrl tcells_ctrl
attribute [local go_sem] nn2 nm2 nn3 nm3 nn4 nm4 nn5 nm5 nn6 nm6 nn7 nm7 nn8 nm8
attribute [local go_sem] loadA loadT2 storeA storeT2 buildA_ts buildA_sm assert_errno make_func acells_size t2cells_size acells_get t2cells_get acells_one t2cells_one acells_table acells_all t2cells_all t2cells_l t2cells_r
attribute [local go_sem ↓] lrowA lrowT2 srowA srowT2 browA zeroA_run zeroT2_run
attribute [local go_sem] nn2 nm2 nn3 nm3 nn4 nm4 nn5 nm5 nn6 nm6 nn7 nm7 nn8 nm8
attribute [local go_sem] Oper.semAt_some make_func1 ofInt_pow8
attribute [local go_sem] box26 tcells_idx cell0 cell1 cell2 cell3 cell4 hcells_idx hcells_pop
attribute [local go_sem] cell5 cell6 acells_idx acells_table build_zero
attribute [local go_sem high] laidAt_t laidAt_a laidAt_t2
attribute [local go_sem ↓] brow26
theorem t2cells_idx (a : T2) (i : Nat) (h : i < (t2cells a).size) : (t2cells a)[i] = if i < 39 then a.l.cell i else a.r.cell (i - 39) := by simp [t2cells]
attribute [local go_sem] t2cells_idx
set_option maxHeartbeats 4000000 in
set_option maxRecDepth 100000 in
theorem wakes_any (w : World) : Calls Tryz.prog 9 #[] w fun e w' => e = .returned (.bool true) ∧ Ch [] w w' := by
  have N1 : ∀ w, Calls Tryz.prog 33 #[.int .i64 0, .int .u64 0] w fun e w' => e = .returned (.tuple #[.agg (tcells wk0), I 0]) ∧ Ch [] w w' := fun w => by
    have := New_any 0 0#64 w; rw [wk_new] at this; exact this
  have P1 : ∀ w, Calls Tryz.prog 19 #[.int .u64 5, .agg (tcells wk0), .int .u64 5, .int .u64 50] w fun e w' => e = .returned (.tuple #[.agg (tcells wk1), I 0, I 0]) ∧ Ch [] w w' := fun w => by
    have := Put_any wk0 5#64 5#64 50#64 w; rw [ifMay, if_pos wk_may0, putA, wk_place0] at this; exact this
  have F5 : ∀ w, Calls Tryz.prog 30 #[.int .u64 5, .agg (tcells wk1), .int .u64 5] w fun e w' => e = .returned (.tuple #[I 0, I 1, I 0]) ∧ Ch [] w w' := fun w => by
    have := Find_any wk1 5#64 5#64 w; rw [ifMay, if_pos wk_may1, wk_found5] at this; exact this
  have F6 : ∀ w, Calls Tryz.prog 30 #[.int .u64 5, .agg (tcells wk1), .int .u64 6] w fun e w' => e = .returned (.tuple #[I 0, I 0, I 4]) ∧ Ch [] w w' := fun w => by
    have := Find_any wk1 5#64 6#64 w; rw [ifMay, if_pos wk_may1, wk_found6] at this; exact this
  have P2 : ∀ w, Calls Tryz.prog 19 #[.int .u64 5, .agg (tcells wk1), .int .u64 5, .int .u64 51] w fun e w' => e = .returned (.tuple #[.agg (tcells zeroT), I 0, I 5]) ∧ Ch [] w w' := fun w => by
    have := Put_any wk1 5#64 5#64 51#64 w; rw [ifMay, if_pos wk_may1, putA, wk_place1] at this; exact this
  have H1 : ∀ w, Calls Tryz.prog 12 #[.int .u64 5, .agg (tcells wk1)] w fun e w' => e = .returned (.tuple #[.agg (t2cells ⟨halfX wk1 5#64 0, halfX wk1 5#64 1⟩), I 0]) ∧ Ch [] w w' := fun w => by
    have := Halves_is wk1 5#64 w; rw [ifMay, if_pos wk_may1, halvesE, if_pos (by decide)] at this; exact this
  have D1 : ∀ w, Calls Tryz.prog 21 #[.int .u64 5, .agg (tcells wk1), .int .u64 5] w fun e w' => e = .returned (.tuple #[.agg (tcells (dropT wk1 0)), I 0, I 0]) ∧ Ch [] w w' := fun w => by
    have := Drop_any wk1 5#64 5#64 w; rw [ifMay, if_pos wk_may1, dropE, wk_found5] at this; exact this
  have P3 : ∀ w, Calls Tryz.prog 19 #[.int .u64 5, .agg (tcells zeroT), .int .u64 5, .int .u64 1] w fun e w' => e = .returned (.tuple #[.agg (tcells zeroT), I 0, I 270]) ∧ Ch [] w w' := fun w => by
    have := Put_any zeroT 5#64 5#64 1#64 w; rw [ifMay, if_neg (by rw [wk_zero]; decide)] at this; exact this
  have hxl := wk_left
  have hxr := wk_right
  have hdl := wk_live
  have hdc := wk_can
  generalize halfX wk1 5#64 0 = XL at *
  generalize halfX wk1 5#64 1 = XR at *
  generalize dropT wk1 0 = TD at *
  generalize wk0 = T0 at *
  generalize wk1 = T1 at *
  go_enter Tryz.func9, Tryz.ntmps9
  go_wp2_with fail
  refine (N1 _).mono ?_
  rintro e w1 ⟨rfl, hc1⟩
  go_wp2_with fail
  have a1 : (World.onObj (w1.alloc (.cells (tcells zeroT) 26)) w1.heap.size (laidAt 0 (tcells T0))).heap[w1.heap.size]? = some (.cells (tcells T0) 26 (0, 0)) := by simp [go_sem]
  have C1 : Ch [] w (World.onObj (w1.alloc (.cells (tcells zeroT) 26)) w1.heap.size (laidAt 0 (tcells T0))) := (hc1.alloc _).onObj (.inr hc1.size) _
  have hA := hc1.size
  generalize World.onObj (w1.alloc (.cells (tcells zeroT) 26)) w1.heap.size (laidAt 0 (tcells T0)) = W1 at *
  generalize w1.heap.size = A at *
  clear hc1
  refine (P1 _).mono ?_
  rintro e w2 ⟨rfl, hc2⟩
  have a2 := hkeep hc2 a1
  go_wp2_with fail
  have a2' : (World.onObj w2 A (laidAt 0 (tcells T1))).heap[A]? = some (.cells (tcells T1) 26 (0, 0)) := by rw [heap_onObj, if_pos rfl, a2, Option.map_some, laidAt_t]
  have C2 : Ch [] w (World.onObj w2 A (laidAt 0 (tcells T1))) := (C1.trans hc2).onObj (.inr hA) _
  generalize World.onObj w2 A (laidAt 0 (tcells T1)) = W2 at *
  clear a1 a2 C1 hc2
  refine (F5 _).mono ?_
  rintro e w3 ⟨rfl, hc3⟩
  have a3 := hkeep hc3 a2'
  have C3 := C2.trans hc3
  clear a2' C2 hc3
  go_wp2_with fail
  refine (F6 _).mono ?_
  rintro e w4 ⟨rfl, hc4⟩
  have a4 := hkeep hc4 a3
  have C4 := C3.trans hc4
  clear a3 C3 hc4
  go_wp2_with fail
  refine (P2 _).mono ?_
  rintro e w5 ⟨rfl, hc5⟩
  have a5 := hkeep hc5 a4
  have C5 := C4.trans hc5
  clear a4 C4 hc5
  have hA5 : ¬ A = w5.heap.size := by have := (Array.getElem?_eq_some_iff.1 a5).1; omega
  go_wp2_with fail
  have a5' : (World.onObj (w5.alloc (.cells (tcells zeroT) 26)) w5.heap.size (laidAt 0 (tcells zeroT))).heap[A]? = some (.cells (tcells T1) 26 (0, 0)) := by rw [heap_onObj, if_neg hA5, heap_alloc, if_neg hA5]; exact a5
  have C5' : Ch [] w (World.onObj (w5.alloc (.cells (tcells zeroT) 26)) w5.heap.size (laidAt 0 (tcells zeroT))) := (C5.alloc _).onObj (.inr C5.size) _
  generalize World.onObj (w5.alloc (.cells (tcells zeroT) 26)) w5.heap.size (laidAt 0 (tcells zeroT)) = W5 at *
  clear a5 C5 hA5
  generalize w5.heap.size = A5 at *
  refine (H1 _).mono ?_
  rintro e w6 ⟨rfl, hc6⟩
  have a6 := hkeep hc6 a5'
  have C6 := C5'.trans hc6
  clear a5' C5' hc6
  have hA6 : ¬ A = w6.heap.size := by have := (Array.getElem?_eq_some_iff.1 a6).1; omega
  go_wp2_with fail
  have a6' : (World.onObj (w6.alloc (.cells (t2cells zeroT2) 35)) w6.heap.size (laidAt 0 (t2cells ⟨XL, XR⟩))).heap[A]? = some (.cells (tcells T1) 26 (0, 0)) := by rw [heap_onObj, if_neg hA6, heap_alloc, if_neg hA6]; exact a6
  have b6 : (World.onObj (w6.alloc (.cells (t2cells zeroT2) 35)) w6.heap.size (laidAt 0 (t2cells ⟨XL, XR⟩))).heap[w6.heap.size]? = some (.cells (t2cells ⟨XL, XR⟩) 35 (0, 0)) := by rw [heap_onObj, if_pos rfl, heap_alloc, if_pos rfl, Option.map_some, laidAt_t2]
  have C6' : Ch [] w (World.onObj (w6.alloc (.cells (t2cells zeroT2) 35)) w6.heap.size (laidAt 0 (t2cells ⟨XL, XR⟩))) := (C6.alloc _).onObj (.inr C6.size) _
  generalize World.onObj (w6.alloc (.cells (t2cells zeroT2) 35)) w6.heap.size (laidAt 0 (t2cells ⟨XL, XR⟩)) = W6 at *
  clear a6 C6 hA6
  generalize w6.heap.size = B at *
  refine (D1 _).mono ?_
  rintro e w7 ⟨rfl, hc7⟩
  have b7 := hkeep hc7 b6
  have C7 := C6'.trans hc7
  clear a6' b6 C6' hc7
  have hB7 : ¬ B = w7.heap.size := by have := (Array.getElem?_eq_some_iff.1 b7).1; omega
  go_wp2_with fail
  have b7' : (World.onObj (w7.alloc (.cells (tcells zeroT) 26)) w7.heap.size (laidAt 0 (tcells TD))).heap[B]? = some (.cells (t2cells ⟨XL, XR⟩) 35 (0, 0)) := by rw [heap_onObj, if_neg hB7, heap_alloc, if_neg hB7]; exact b7
  have c7 : (World.onObj (w7.alloc (.cells (tcells zeroT) 26)) w7.heap.size (laidAt 0 (tcells TD))).heap[w7.heap.size]? = some (.cells (tcells TD) 26 (0, 0)) := by rw [heap_onObj, if_pos rfl, heap_alloc, if_pos rfl, Option.map_some, laidAt_t]
  have C7' : Ch [] w (World.onObj (w7.alloc (.cells (tcells zeroT) 26)) w7.heap.size (laidAt 0 (tcells TD))) := (C7.alloc _).onObj (.inr C7.size) _
  generalize World.onObj (w7.alloc (.cells (tcells zeroT) 26)) w7.heap.size (laidAt 0 (tcells TD)) = W7 at *
  clear b7 C7 hB7
  generalize w7.heap.size = C at *
  refine (P3 _).mono ?_
  rintro e w8 ⟨rfl, hc8⟩
  have b8 := hkeep hc8 b7'
  have c8 := hkeep hc8 c7
  have C8 := C7'.trans hc8
  clear b7' c7 C7' hc8 N1 P1 F5 F6 P2 H1 D1 P3
  have hB8 : ¬ B = w8.heap.size := by have := (Array.getElem?_eq_some_iff.1 b8).1; omega
  have hC8 : ¬ C = w8.heap.size := by have := (Array.getElem?_eq_some_iff.1 c8).1; omega
  go_wp2
  trace_state
  go_ret
  exact ⟨rfl, (C8.alloc _).onObj (.inr C8.size) _⟩
end Go.Proofs.Hc
