/- Package table: Pairs. -/
import Derived.Test.YtaddieimkpijeaaGreatKHtkHtlHto
set_option linter.unusedSimpArgs false
set_option linter.unusedVariables false
namespace Go.Proofs.Hc
open Go.RowKit
attribute [local go_sem] wrap_u64 wrap_u8 bits_xor64 bits_and64 bits_or64 bits_not64 bits_xor8 bits_and8 bits_or8 signed64 signed8 ofInt_N BitVec.ofInt_add BitVec.ofInt_mul ofInt_sub' ofInt8_N64 ofInt64_N8 wide8 eqN neN shr_pow shr1 shr7 shr56
attribute [local go_sem high] bits_com64 shl_wrap
attribute [local go_sem] cell_heap ice_heap cellAt_cells iceAt_cells setAt_cells rowAt_cells canLay_cells laidAt_cells size_onObj size_setCell rowRes_some layRes_true
attribute [local go_sem] load26 load73 load23 store26 build73
attribute [local go_sem ↓] lrow26 lrow73 lrow23 srow26 zero26 brow73 heap_alloc heap_drew heap_drewN heap_setCell heap_onObj
attribute [local go_sem] tcells_size hcells_size tcells_get hcells_get tcells_one hcells_one hcells_table tcells_table hcells_all hcells_ctrl tcells_ctrl
attribute [local go_sem] nn2 nm2 nn3 nm3 nn4 nm4 nn5 nm5 nn6 nm6 nn7 nm7 nn8 nm8
attribute [local go_sem] loadA loadT2 storeA storeT2 buildA_ts buildA_sm assert_errno make_func acells_size t2cells_size acells_get t2cells_get acells_one t2cells_one acells_table acells_all t2cells_all t2cells_l t2cells_r
attribute [local go_sem ↓] lrowA lrowT2 srowA srowT2 browA zeroA_run zeroT2_run
attribute [local go_sem] nn2 nm2 nn3 nm3 nn4 nm4 nn5 nm5 nn6 nm6 nn7 nm7 nn8 nm8
attribute [local go_sem] Oper.semAt_some make_func1 ofInt_pow8
attribute [local go_sem] box26 tcells_idx cell0 cell1 cell2 cell3 cell4 hcells_idx hcells_pop
attribute [local go_sem] cell5 cell6
/-- What a row of pairs comes to, in a table that may be. -/
def PairsPost (w : World) (l : List (BitVec 64 × BitVec 64)) (e : Ending) (w' : World) : Prop := ∃ a c, e = .returned (.slice a l.length c) ∧ w'.ownsRow w.heap.size 31 2 (.slice a l.length c) l.length (pcells l) ∧ Ch [] w w'
/-- No row. -/
def NoPairs (w : World) (e : Ending) (w' : World) : Prop := ∃ c, e = .returned (.slice none 0 c) ∧ Ch [] w w'
set_option maxRecDepth 100000 in
theorem Pairs_no (t : Tab) (s : BitVec 64) (w : World) (hm : mayT t s = false) :
    Calls Tryz.prog 29 #[U s, .agg (tcells t)] w (NoPairs w) := by
  have T1 := fun (w : World) hd => triesp_any t s 42 #[] 0 [] w enters_pairs hd
  rw [hm] at T1
  clear hm
  go_enter Tryz.func29, Tryz.ntmps29
  go_wp2_with fail
  refine (T1 _ (fun h => by cases h)).mono ?_
  rintro e w1 ⟨a, c, rfl, -, hn, hc1⟩
  have ha := hn trivial
  subst ha
  clear hn T1
  simp only [Bool.false_eq_true, if_false]
  go_wp2
  go_ret
  exact ⟨c, rfl, ((Ch.refl [] w).alloc _).trans hc1⟩
set_option maxRecDepth 100000 in
theorem Pairs_yes (t : Tab) (s : BitVec 64) (w : World) (hm : mayT t s = true) :
    Calls Tryz.prog 29 #[U s, .agg (tcells t)] w (PairsPost w (pairsT t)) := by
  obtain ⟨h0, h1⟩ := may_ok hm
  have T1 := fun (w : World) hd => triesp_any t s 42 #[] (pairsT t).length (pcells (pairsT t)) w enters_pairs hd
  have D1 := fun b w hb => pairs_any t s b w h0 h1 hb
  rw [hm] at T1
  clear hm h0 h1
  generalize pairsT t = l at *
  go_enter Tryz.func29, Tryz.ntmps29
  go_wp2_with fail
  refine (T1 _ ?_).mono ?_
  · intro _ b w1 hb hc hle
    refine (D1 b w1 hb).mono ?_
    rintro e w2 ⟨a, c, rfl, ho, hc2⟩
    exact ⟨a, c, rfl, ho, hc2.of_nil⟩
  · rintro e w1 ⟨a, c, rfl, ho, -, hc1⟩
    have HO := Lib.hid (ho trivial)
    clear ho T1 D1
    simp only [if_true]
    go_wp2
    go_ret
    exact ⟨a, c, rfl, own_mono HO.out (base' := w.heap.size) (by simp), ((Ch.refl [] w).alloc _).trans hc1⟩
end Go.Proofs.Hc
