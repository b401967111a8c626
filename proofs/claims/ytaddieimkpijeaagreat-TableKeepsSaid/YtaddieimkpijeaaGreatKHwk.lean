/- Law 17: does the layer do anything? -/
import Derived.Test.YtaddieimkpijeaaGreatKHpc
import Derived.Test.YtaddieimkpijeaaGreatKHtrHtr2
import Derived.Test.YtaddieimkpijeaaGreatKHtv
set_option linter.unusedSimpArgs false
set_option linter.unusedVariables false
namespace Go.Proofs.Hc
open Go.RowKit
attribute [local go_sem] wrap_u64 wrap_u8 bits_xor64 bits_and64 bits_or64 bits_not64 bits_xor8 bits_and8 bits_or8 signed64 signed8 ofInt_N BitVec.ofInt_add BitVec.ofInt_mul ofInt_sub' ofInt8_N64 ofInt64_N8 wide8 eqN neN shr_pow shr1 shr7 shr56
attribute [local go_sem high] bits_com64 shl_wrap
attribute [local go_sem] cell_heap ice_heap cellAt_cells iceAt_cells setAt_cells rowAt_cells canLay_cells laidAt_cells size_onObj size_setCell rowRes_some layRes_true
attribute [local go_sem] load26 load73 load23 store26 build73
attribute [local go_sem ↓] lrow26 lrow73 lrow23 srow26 zero26 brow73 heap_alloc heap_drew heap_drewN heap_setCell heap_onObj
attribute [local go_sem] tcells_size hcells_size tcells_get hcells_get tcells_one hcells_one hcells_table tcells_table hcells_all hcells_ctrl tcells_ctrl
attribute [local go_sem] nn2 nm2 nn3 nm3 nn4 nm4 nn5 nm5 nn6 nm6 nn7 nm7 nn8 nm8
attribute [local go_sem] loadA loadT2 storeA storeT2 buildA_ts buildA_sm assert_errno make_func acells_size t2cells_size acells_get t2cells_get acells_one t2cells_one acells_table acells_all t2cells_all t2cells_l t2cells_r
attribute [local go_sem ↓] lrowA lrowT2 srowA srowT2 browA zeroA_run zeroT2_run
attribute [local go_sem] nn2 nm2 nn3 nm3 nn4 nm4 nn5 nm5 nn6 nm6 nn7 nm7 nn8 nm8
attribute [local go_sem] Oper.semAt_some make_func1 ofInt_pow8
attribute [local go_sem] box26 tcells_idx cell0 cell1 cell2 cell3 cell4 hcells_idx hcells_pop
attribute [local go_sem] cell5 cell6 acells_idx acells_table
attribute [local go_sem high] laidAt_t laidAt_a laidAt_t2
/-- A half, if it can be laid. -/
def okOr : Except Int Tab → Tab
  | .ok x => x
  | .error _ => zeroT
theorem okOr_ok (x : Tab) : okOr (.ok x) = x := rfl
def halfX (t : Tab) (s : BitVec 64) (i : Nat) : Tab := okOr (laidT s (halfB t i) (halfL t s i))
theorem halfX_def (t : Tab) (s : BitVec 64) (i : Nat) : halfX t s i = okOr (laidT s (halfB t i) (halfL t s i)) := by rw [halfX]
theorem halfX_laid {t : Tab} {s : BitVec 64} (m : May t s) (hd : t.depth < 5) (i : Nat) (hi : i < 2) : Laid s (halfB t i) (halfL t s i) (halfX t s i) := by
  obtain ⟨x, hx⟩ := half_ok m hd i hi
  have e : halfX t s i = x := by rw [halfX_def, hx.eq, okOr_ok]
  rw [e]; exact hx
theorem halfX_eq {t : Tab} {s : BitVec 64} (hm : mayT t s = true) (hd : t.depth < 5) (i : Nat) (hi : i < 2) : laidT s (halfB t i) (halfL t s i) = .ok (halfX t s i) := (halfX_laid ((may_iff t s).1 hm) hd i hi).eq
theorem Halves_is (t : Tab) (s : BitVec 64) (w : World) :
    Calls Tryz.prog 12 #[U s, .agg (tcells t)] w fun e w' => e = .returned (tupOr (fun v => .agg (t2cells v)) (.agg (t2cells zeroT2)) (ifMay t s (halvesE t (halfX t s)))) ∧ Ch [] w w' :=
  Halves_any t s (halfX t s) w halfX_eq
/-- The tables that the statements' first look makes. -/
def wk0 : Tab := bareT 0#64 0 0#64
def wk1 : Tab := fillT wk0 5#64 5#64 50#64 0
theorem wk_new : newE 0 0#64 = .ok wk0 := by rw [newE, if_neg (by decide)]; rfl
theorem wk_may0 : mayT wk0 5#64 = true := by decide +kernel
theorem wk_place0 : placeT wk0 5#64 5#64 = .ok 0 := by kernel_rfl
theorem wk_may1 : mayT wk1 5#64 = true := by decide +kernel
theorem wk_found5 : foundE wk1 5#64 5#64 = .ok (0, 1) := by kernel_rfl
theorem wk_found6 : foundE wk1 5#64 6#64 = .error 4 := by kernel_rfl
theorem wk_place1 : placeT wk1 5#64 5#64 = .error 5 := by kernel_rfl
theorem wk_left : (halfX wk1 5#64 0).live = 1 := by kernel_rfl
theorem wk_right : (halfX wk1 5#64 1).live = 0 := by kernel_rfl
theorem wk_live : (dropT wk1 0).live = 0 := by kernel_rfl
theorem wk_can : (dropT wk1 0).can = 14 := by kernel_rfl
theorem wk_zero : mayT zeroT 5#64 = false := by decide +kernel
end Go.Proofs.Hc
