/- Package table: Pairs. -/
import Derived.Test.YtaddieimkpijeaaGreatKHtkHtlHto
import Derived.Test.YtaddieimkpijeaaGreatKHmHtHu
import Derived.ChangeKeysEq
import Derived.Laws.StructEq
set_option linter.unusedSimpArgs false
set_option linter.unusedVariables false
namespace Go.Proofs.Hc
open Go.RowKit
attribute [local go_sem] wrap_u64 wrap_u8 bits_xor64 bits_and64 bits_or64 bits_not64 bits_xor8 bits_and8 bits_or8 signed64 signed8 ofInt_N BitVec.ofInt_add BitVec.ofInt_mul ofInt_sub' ofInt8_N64 ofInt64_N8 wide8 eqN neN shr_pow shr1 shr7 shr56
attribute [local go_sem high] bits_com64 shl_wrap
attribute [local go_sem] cell_heap ice_heap cellAt_cells iceAt_cells setAt_cells rowAt_cells canLay_cells laidAt_cells size_onObj size_setCell rowRes_some layRes_true
attribute [local go_sem] load26 load73 load23 store26 build73
attribute [local go_sem ↓] lrow26 lrow73 lrow23 srow26 zero26 brow73 heap_alloc heap_drew heap_drewN heap_setCell heap_onObj
attribute [local go_sem] tcells_size hcells_size tcells_get hcells_get tcells_one hcells_one hcells_table tcells_table hcells_all hcells_ctrl tcells_ctrl
attribute [local go_sem] nn2 nm2 nn3 nm3 nn4 nm4 nn5 nm5 nn6 nm6 nn7 nm7 nn8 nm8
attribute [local go_sem] loadA loadT2 storeA storeT2 buildA_ts buildA_sm assert_errno make_func acells_size t2cells_size acells_get t2cells_get acells_one t2cells_one acells_table acells_all t2cells_all t2cells_l t2cells_r
attribute [local go_sem ↓] lrowA lrowT2 srowA srowT2 browA zeroA_run zeroT2_run
attribute [local go_sem] nn2 nm2 nn3 nm3 nn4 nm4 nn5 nm5 nn6 nm6 nn7 nm7 nn8 nm8
attribute [local go_sem] Oper.semAt_some make_func1 ofInt_pow8
attribute [local go_sem] box26 tcells_idx cell0 cell1 cell2 cell3 cell4 hcells_idx hcells_pop
attribute [local go_sem] cell5 cell6
/-- What a row of pairs comes to, in a table that may be. -/
def PairsPost (w : World) (l : List (BitVec 64 × BitVec 64)) (e : Ending) (w' : World) : Prop := ∃ a c, e = .returned (.slice a l.length c) ∧ w'.ownsRow w.heap.size 31 2 (.slice a l.length c) l.length (pcells l) ∧ Ch [] w w'
/-- No row. -/
def NoPairs (w : World) (e : Ending) (w' : World) : Prop := ∃ c, e = .returned (.slice none 0 c) ∧ Ch [] w w'
set_option maxRecDepth 100000 in
theorem Pairs_no (t : Tab) (s : BitVec 64) (w : World) (hm : mayT t s = false) :
    Calls Tryz.prog 29 #[U s, .agg (tcells t)] w (NoPairs w) := by
  have T1 := fun (w : World) hd => triesp_any t s 42 #[] 0 [] w enters_pairs hd
  rw [hm] at T1
  clear hm
  go_enter Tryz.func29, Tryz.ntmps29
  go_wp2_with fail
  refine (T1 _ (fun h => by cases h)).mono ?_
  rintro e w1 ⟨a, c, rfl, -, hn, hc1⟩
  have ha := hn trivial
  subst ha
  clear hn T1
  simp only [Bool.false_eq_true, if_false]
  go_wp2
  go_ret
  exact ⟨c, rfl, ((Ch.refl [] w).alloc _).trans hc1⟩
set_option maxRecDepth 100000 in
theorem Pairs_yes (t : Tab) (s : BitVec 64) (w : World) (hm : mayT t s = true) :
    Calls Tryz.prog 29 #[U s, .agg (tcells t)] w (PairsPost w (pairsT t)) := by
  obtain ⟨h0, h1⟩ := may_ok hm
  have T1 := fun (w : World) hd => triesp_any t s 42 #[] (pairsT t).length (pcells (pairsT t)) w enters_pairs hd
  have D1 := fun b w hb => pairs_any t s b w h0 h1 hb
  rw [hm] at T1
  clear hm h0 h1
  generalize pairsT t = l at *
  go_enter Tryz.func29, Tryz.ntmps29
  go_wp2_with fail
  refine (T1 _ ?_).mono ?_
  · intro _ b w1 hb hc hle
    refine (D1 b w1 hb).mono ?_
    rintro e w2 ⟨a, c, rfl, ho, hc2⟩
    exact ⟨a, c, rfl, ho, hc2.of_nil⟩
  · rintro e w1 ⟨a, c, rfl, ho, -, hc1⟩
    have HO := Lib.hid (ho trivial)
    clear ho T1 D1
    simp only [if_true]
    go_wp2
    go_ret
    exact ⟨a, c, rfl, own_mono HO.out (base' := w.heap.size) (by simp), ((Ch.refl [] w).alloc _).trans hc1⟩
end Go.Proofs.Hc
/- Tables compared with themselves. -/
namespace Go.Proofs.Hc
open Go.RowKit
/-- A value that is equal to itself. -/
def SelfEq (d : Nat) (T : TypeId) (v : Value) : Prop := ∀ w, (Op.equalIn d T v v).run Tryz.prog w = .ok true w
theorem self_int (d : Nat) (T : TypeId) (k k' : IntKind) (a : Int) (h : Tryz.prog.underlying T = some (.int k')) : SelfEq (d + 1) T (.int k a) := fun w => by
  rw [run_equalIn_int w d T k k' a a h, beq_self_eq_true]
theorem self_items {d c : Nat} {e : TypeId} {xs : Array Value} : ∀ (is : List Nat), (∀ i ∈ is, ∃ a, (∀ w, (part e xs (i * c)).run Tryz.prog w = .ok a w) ∧ SelfEq d e a) → ∀ w, (Op.eqItems d e c xs xs is).run Tryz.prog w = .ok true w
  | [], _, w => by simp [Op.eqItems]
  | i :: is, h, w => by
    obtain ⟨a, h1, h2⟩ := h i (by simp)
    have ih := self_items is (fun j hj => h j (by simp [hj])) w
    simp only [Op.eqItems, Sem.run_bind, h1, h2 w, Result.andThen_ok, Bool.not_true, Bool.false_eq_true, if_false, ih]
theorem self_fields {d : Nat} {xs : Array Value} : ∀ (fs : List Field), (∀ f ∈ fs, ∃ a, (∀ w, (part f.type xs f.offset).run Tryz.prog w = .ok a w) ∧ SelfEq d f.type a) → ∀ w, (Op.eqFields d xs xs fs).run Tryz.prog w = .ok true w
  | [], _, w => by simp [Op.eqFields]
  | f :: fs, h, w => by
    obtain ⟨a, h1, h2⟩ := h f (by simp)
    have ih := self_fields fs (fun j hj => h j (by simp [hj])) w
    simp only [Op.eqFields]
    split
    · simp only [Sem.run_bind, h1, h2 w, Result.andThen_ok, Bool.not_true, Bool.false_eq_true, if_false, ih]
    · exact ih
theorem part_int {T : TypeId} {k : IntKind} (h : Tryz.prog.underlying T = some (.int k)) {xs : Array Value} {off : Nat} {v : Value} (hx : xs[off]? = some v) (w : World) : (part T xs off).run Tryz.prog w = .ok v w :=
  run_part_plain w (by simp [Program.plainKey, h]) hx
theorem part_arr {T e : TypeId} {n : Nat} (h : Tryz.prog.underlying T = some (.array n e)) {i : TypeInfo} (hi : Tryz.prog.info? T = some i) (hs : Tryz.prog.cellsOf T = n) (xs : Array Value) (off : Nat) (w : World) : (part T xs off).run Tryz.prog w = .ok (.agg (xs.extract off (off + n))) w := by
  simp [part, isAgg, run_underlying h, run_sizeOf w hi, hs]
theorem self_words {d n : Nat} {T : TypeId} (h : Tryz.prog.underlying T = some (.array n 22)) (xs : Array Value) (hx : ∀ i, i < n → ∃ b : BitVec 64, xs[i]? = some (U b)) : SelfEq (d + 2) T (.agg xs) := fun w => by
  obtain ⟨i, hi⟩ : ∃ i, Tryz.prog.info? 22 = some i := info_of_underlying Tryz.underlying22
  rw [run_equalIn_array w (d + 1) xs xs h hi]
  have hc : Tryz.prog.cellsOf 22 = 1 := by kernel_rfl
  rw [hc]
  refine self_items _ (fun j hj => ?_) w
  obtain ⟨b, hb⟩ := hx j (by simpa using hj)
  exact ⟨U b, fun w => part_int Tryz.underlying22 (by rw [Nat.mul_one]; exact hb) w, self_int d _ _ _ _ Tryz.underlying22⟩
theorem tab_fields : (Tryz.prog.fieldsOf 26).toList.map (fun f => (f.type, f.offset)) = [(22, 0), (3, 1), (22, 2), (3, 3), (3, 4), (23, 5), (24, 7), (24, 23)] := by kernel_rfl
theorem tab_under : Tryz.prog.underlying 26 = some (.struct (Tryz.prog.fieldsOf 26)) := by kernel_rfl
theorem tab_stood : Tryz.prog.stoodInHeld 26 = false := by kernel_rfl
theorem c2_cells : Tryz.prog.cellsOf 23 = 2 := by kernel_rfl
theorem c16_cells : Tryz.prog.cellsOf 24 = 16 := by kernel_rfl
theorem tab_word {t : Tab} {o i : Nat} (h : o = 5 ∧ i < 2 ∨ o = 7 ∧ i < 16 ∨ o = 23 ∧ i < 16) : ∃ b : BitVec 64, (tcells t)[o + i]? = some (U b) := by
  rcases h with ⟨rfl, hi⟩ | ⟨rfl, hi⟩ | ⟨rfl, hi⟩
  · match i, hi with
    | 0, _ => exact ⟨t.c 0, by rw [tcells_get]; rfl⟩
    | 1, _ => exact ⟨t.c 1, by rw [tcells_get]; rfl⟩
  · exact ⟨_, tcells_key t i hi⟩
  · exact ⟨_, tcells_val t i hi⟩
theorem tab_words {t : Tab} {o n : Nat} (h : o = 5 ∧ n = 2 ∨ o = 7 ∧ n = 16 ∨ o = 23 ∧ n = 16) : ∀ i, i < n → ∃ b : BitVec 64, ((tcells t).extract o (o + n))[i]? = some (U b) := by
  intro i hi
  obtain ⟨b, hb⟩ := tab_word (t := t) (o := o) (i := i) (by omega)
  refine ⟨b, ?_⟩
  rw [Array.getElem?_extract, if_pos (by rw [tcells_size]; omega)]
  exact hb
theorem self_tab (d : Nat) (t : Tab) : SelfEq (d + 3) 26 (.agg (tcells t)) := fun w => by
  rw [run_equalIn_agg w (d + 2) 26 _ _ tab_under tab_stood]
  refine self_fields _ (fun f hf => ?_) w
  have hm : (f.type, f.offset) ∈ [(22, 0), (3, 1), (22, 2), (3, 3), (3, 4), (23, 5), (24, 7), (24, 23)] := by
    rw [← tab_fields]; exact List.mem_map.2 ⟨f, hf, rfl⟩
  generalize f.type = T at *
  generalize f.offset = o at *
  obtain ⟨i2, h2⟩ := info_of_underlying (P := Tryz.prog) Tryz.underlying23
  obtain ⟨i16, h16⟩ := info_of_underlying (P := Tryz.prog) Tryz.underlying24
  simp only [List.mem_cons, Prod.mk.injEq, List.not_mem_nil, or_false] at hm
  rcases hm with ⟨rfl, rfl⟩ | ⟨rfl, rfl⟩ | ⟨rfl, rfl⟩ | ⟨rfl, rfl⟩ | ⟨rfl, rfl⟩ | ⟨rfl, rfl⟩ | ⟨rfl, rfl⟩ | ⟨rfl, rfl⟩
  · exact ⟨U t.count, part_int Tryz.underlying22 (by rw [tcells_get]; rfl), self_int _ _ _ _ _ Tryz.underlying22⟩
  · exact ⟨I t.depth, part_int Tryz.underlying3 (by rw [tcells_get]; rfl), self_int _ _ _ _ _ Tryz.underlying3⟩
  · exact ⟨U t.pre, part_int Tryz.underlying22 (by rw [tcells_get]; rfl), self_int _ _ _ _ _ Tryz.underlying22⟩
  · exact ⟨I t.can, part_int Tryz.underlying3 (by rw [tcells_get]; rfl), self_int _ _ _ _ _ Tryz.underlying3⟩
  · exact ⟨I t.live, part_int Tryz.underlying3 (by rw [tcells_get]; rfl), self_int _ _ _ _ _ Tryz.underlying3⟩
  · exact ⟨_, part_arr Tryz.underlying23 h2 c2_cells _ _, self_words Tryz.underlying23 _ (tab_words (by omega))⟩
  · exact ⟨_, part_arr Tryz.underlying24 h16 c16_cells _ _, self_words Tryz.underlying24 _ (tab_words (by omega))⟩
  · exact ⟨_, part_arr Tryz.underlying24 h16 c16_cells _ _, self_words Tryz.underlying24 _ (tab_words (by omega))⟩
theorem t2_cells : Tryz.prog.cellsOf 26 = 39 := by kernel_rfl
theorem self_t2 (d : Nat) (a : T2) : SelfEq (d + 4) 35 (.agg (t2cells a)) := fun w => by
  obtain ⟨i, hi⟩ := info_of_underlying (P := Tryz.prog) Tryz.underlying26
  rw [run_equalIn_array w (d + 3) _ _ Tryz.underlying35 hi, t2_cells]
  refine self_items _ (fun j hj => ?_) w
  have hj2 : j = 0 ∨ j = 1 := by have : j < 2 := by simpa using hj
                                 omega
  have hp : ∀ (o : Nat) (w : World), (part 26 (t2cells a) o).run Tryz.prog w = .ok (.agg ((t2cells a).extract o (o + 39))) w := fun o w => by
    simp [part, isAgg, run_underlying tab_under, run_sizeOf w hi, t2_cells]
  rcases hj2 with rfl | rfl
  · exact ⟨.agg (tcells a.l), fun w => by rw [hp, t2cells_l], self_tab d _⟩
  · exact ⟨.agg (tcells a.r), fun w => by rw [hp, t2cells_r], self_tab d _⟩
theorem eql_tab (t : Tab) (w : World) : (binOp .eql 26 (.agg (tcells t)) (.agg (tcells t))).run Tryz.prog w = .ok (.bool true) w := by
  rw [run_eql_struct, self_tab 9997 t w]; rfl
theorem neq_tab (t : Tab) (w : World) : (binOp .neq 26 (.agg (tcells t)) (.agg (tcells t))).run Tryz.prog w = .ok (.bool false) w := by
  rw [run_neq_struct, self_tab 9997 t w]; rfl
theorem eql_t2 (a : T2) (w : World) : (binOp .eql 35 (.agg (t2cells a)) (.agg (t2cells a))).run Tryz.prog w = .ok (.bool true) w := by
  rw [run_eql_struct, self_t2 9996 a w]; rfl
theorem guard26 (op : BinOp) (x y : Operand) (xs ys : Array Value) (w : World) : (eqGuard op 26 x y (.agg xs) (.agg ys)).run Tryz.prog w = .ok () w := run_eqGuard_agg w op 26 x y xs ys (by kernel_rfl)
end Go.Proofs.Hc
