/- Package table: the exported functions that look at a table. -/
import Derived.Test.YtaddieimkpijeaaGreatKHtiHtj
set_option linter.unusedSimpArgs false
set_option linter.unusedVariables false
namespace Go.Proofs.Hc
open Go.RowKit
attribute [local go_sem] wrap_u64 wrap_u8 bits_xor64 bits_and64 bits_or64 bits_not64 bits_xor8 bits_and8 bits_or8 signed64 signed8 ofInt_N BitVec.ofInt_add BitVec.ofInt_mul ofInt_sub' ofInt8_N64 ofInt64_N8 wide8 eqN neN shr_pow shr1 shr7 shr56
attribute [local go_sem high] bits_com64 shl_wrap
attribute [local go_sem] cell_heap ice_heap cellAt_cells iceAt_cells setAt_cells rowAt_cells canLay_cells laidAt_cells size_onObj size_setCell rowRes_some layRes_true
attribute [local go_sem] load26 load73 load23 store26 build73
attribute [local go_sem ↓] lrow26 lrow73 lrow23 srow26 zero26 brow73 heap_alloc heap_drew heap_drewN heap_setCell heap_onObj
attribute [local go_sem] tcells_size hcells_size tcells_get hcells_get tcells_one hcells_one hcells_table tcells_table hcells_all hcells_ctrl tcells_ctrl
attribute [local go_sem] nn2 nm2 nn3 nm3 nn4 nm4 nn5 nm5 nn6 nm6 nn7 nm7 nn8 nm8
attribute [local go_sem] loadA loadT2 storeA storeT2 buildA_ts buildA_sm assert_errno make_func acells_size t2cells_size acells_get t2cells_get acells_one t2cells_one acells_table acells_all t2cells_all t2cells_l t2cells_r
attribute [local go_sem ↓] lrowA lrowT2 srowA srowT2 browA zeroA_run zeroT2_run
attribute [local go_sem] nn2 nm2 nn3 nm3 nn4 nm4 nn5 nm5 nn6 nm6 nn7 nm7 nn8 nm8
attribute [local go_sem] Oper.semAt_some make_func1 ofInt_pow8
attribute [local go_sem] box26 tcells_idx cell0 cell1 cell2 cell3 cell4 hcells_idx hcells_pop
attribute [local go_sem] cell5 cell6
theorem enters_place1 (args : Array Value) (w : World) : (callFunc 56 args).run Tryz.prog w = .ok (.enter 56 args) w := by kernel_rfl
theorem enters_find1 (args : Array Value) (w : World) : (callFunc 73 args).run Tryz.prog w = .ok (.enter 73 args) w := by kernel_rfl
theorem enters_pairs (args : Array Value) (w : World) : (callFunc 42 args).run Tryz.prog w = .ok (.enter 42 args) w := by kernel_rfl
theorem may_ok {t : Tab} {s : BitVec 64} (h : mayT t s = true) : ctrlOk (t.c 0) = true ∧ ctrlOk (t.c 1) = true := by
  rw [mayT] at h
  simp only [Bool.and_eq_true] at h
  exact h.1.1.1.2
set_option maxRecDepth 100000 in
theorem check_any (t : Tab) (s : BitVec 64) (w : World) :
    Calls Tryz.prog 26 #[U s, .agg (tcells t)] w fun e w' => e = .returned (I (if mayT t s then 0 else 270)) ∧ Ch [] w w' := by
  have M1 := fun b w hb => may_any t s b w hb
  generalize mayT t s = m at *
  cases m
  all_goals
    go_enter Tryz.func26, Tryz.ntmps26
    go_wp2_with fail
    refine (M1 (w.heap.size + 1) _ (by simp [go_sem])).mono ?_
    rintro e w1 ⟨rfl, hc1⟩
    go_wp2
    go_ret
    exact ⟨rfl, (((Ch.refl [] w).alloc _).alloc _).trans hc1⟩
set_option maxRecDepth 100000 in
theorem place1_any (t : Tab) (s k : BitVec 64) (b p : Nat) (w : World) (h0 : ctrlOk (t.c 0) = true) (h1 : ctrlOk (t.c 1) = true) (hb : w.heap[b]? = some (.cells (hcells t s) 73 (0, 0))) (hp : w.heap[p]? = some (.cells #[U k] 22 (0, 0))) :
    Calls Tryz.prog 56 #[.pointer (some ⟨b, 0, none⟩), .pointer (some ⟨p, 0, none⟩)] w fun e w' => e = retOr (fun n : Nat => I n) (placeT t s k) ∧ Ch [] w w' := by
  have P1 := place_any t s k b w h0 h1 hb
  generalize placeT t s k = r at *
  cases r with
  | error c =>
    go_enter Tryz.func56, Tryz.ntmps56
    go_wp2_with (go_at_call 57; refine P1.mono ?_; rintro e w1 ⟨rfl, hc1⟩; simp only [retOr])
    exact ⟨rfl, rfl, hc1⟩
  | ok n =>
    go_enter Tryz.func56, Tryz.ntmps56
    go_wp2_with (go_at_call 57; refine P1.mono ?_; rintro e w1 ⟨rfl, hc1⟩; simp only [retOr])
    go_ret
    exact ⟨rfl, hc1⟩
set_option maxRecDepth 100000 in
theorem find1_any (t : Tab) (s k : BitVec 64) (b p : Nat) (w : World) (h0 : ctrlOk (t.c 0) = true) (h1 : ctrlOk (t.c 1) = true) (hb : w.heap[b]? = some (.cells (hcells t s) 73 (0, 0))) (hp : w.heap[p]? = some (.cells #[U k] 22 (0, 0))) :
    Calls Tryz.prog 73 #[.pointer (some ⟨b, 0, none⟩), .pointer (some ⟨p, 0, none⟩)] w fun e w' => e = retOr (fun y : Nat × Nat => .agg (acells ⟨zeroT, y.1, y.2⟩)) (foundE t s k) ∧ Ch [] w w' := by
  have hpl := (Array.getElem?_eq_some_iff.1 hp).1
  have hbl := (Array.getElem?_eq_some_iff.1 hb).1
  have hb' : (w.alloc (.cells (acells zeroA) 91)).heap[b]? = some (.cells (hcells t s) 73 (0, 0)) := by rw [heap_alloc, if_neg (by omega)]; exact hb
  have hpn : ¬ p = w.heap.size := by omega
  have P1 := found_any t s k b _ h0 h1 hb'
  generalize foundE t s k = r at *
  clear hpl hbl
  cases r with
  | error c =>
    go_enter Tryz.func73, Tryz.ntmps73
    go_wp2_with (go_at_call 62; refine P1.mono ?_; rintro e w1 ⟨rfl, hc1⟩; simp only [retOr])
    exact ⟨rfl, rfl, ((Ch.refl [] w).alloc _).trans hc1⟩
  | ok y =>
    go_enter Tryz.func73, Tryz.ntmps73
    go_wp2_with (go_at_call 62; refine P1.mono ?_; rintro e w1 ⟨rfl, hc1⟩; simp only [retOr]; have hA : w1.heap[w.heap.size]? = some (.cells (acells zeroA) 91 (0, 0)) := (hc1.block _ (by simp) (by simp)).trans (by simp [go_sem]))
    refine bodyPost_ret (v := .agg (acells ⟨zeroT, y.1, y.2⟩)) (results_cell1 Tryz.results73 _ _ _ rfl (run_loadVar_row _ _ 91 91 (acells ⟨zeroT, y.1, y.2⟩) (0, 0) _ ?_ Tryz.underlying91 rfl (by rw [acells_size]; kernel_rfl))) rfl ⟨rfl, ?_⟩
    · simp only [heap_onObj, if_true, hA, Option.map_some, laidAt_cells]
      rw [laid_whole _ _ (by rw [acells_size, acells_size])]
    · exact (((Ch.refl [] w).alloc _).trans hc1).onObj (.inr (Nat.le_refl _)) _
end Go.Proofs.Hc
/- Package table: Place, Find, Pairs. -/
namespace Go.Proofs.Hc
open Go.RowKit
attribute [local go_sem] wrap_u64 wrap_u8 bits_xor64 bits_and64 bits_or64 bits_not64 bits_xor8 bits_and8 bits_or8 signed64 signed8 ofInt_N BitVec.ofInt_add BitVec.ofInt_mul ofInt_sub' ofInt8_N64 ofInt64_N8 wide8 eqN neN shr_pow shr1 shr7 shr56
attribute [local go_sem high] bits_com64 shl_wrap
attribute [local go_sem] cell_heap ice_heap cellAt_cells iceAt_cells setAt_cells rowAt_cells canLay_cells laidAt_cells size_onObj size_setCell rowRes_some layRes_true
attribute [local go_sem] load26 load73 load23 store26 build73
attribute [local go_sem ↓] lrow26 lrow73 lrow23 srow26 zero26 brow73 heap_alloc heap_drew heap_drewN heap_setCell heap_onObj
attribute [local go_sem] tcells_size hcells_size tcells_get hcells_get tcells_one hcells_one hcells_table tcells_table hcells_all hcells_ctrl tcells_ctrl
attribute [local go_sem] nn2 nm2 nn3 nm3 nn4 nm4 nn5 nm5 nn6 nm6 nn7 nm7 nn8 nm8
attribute [local go_sem] loadA loadT2 storeA storeT2 buildA_ts buildA_sm assert_errno make_func acells_size t2cells_size acells_get t2cells_get acells_one t2cells_one acells_table acells_all t2cells_all t2cells_l t2cells_r
attribute [local go_sem ↓] lrowA lrowT2 srowA srowT2 browA zeroA_run zeroT2_run
attribute [local go_sem] nn2 nm2 nn3 nm3 nn4 nm4 nn5 nm5 nn6 nm6 nn7 nm7 nn8 nm8
attribute [local go_sem] Oper.semAt_some make_func1 ofInt_pow8
attribute [local go_sem] box26 tcells_idx cell0 cell1 cell2 cell3 cell4 hcells_idx hcells_pop
attribute [local go_sem] cell5 cell6
/-- What a call comes to that is made of a table that may be. -/
def ifMay {α : Type} (t : Tab) (s : BitVec 64) (r : Except Int α) : Except Int α := if mayT t s then r else .error 270
theorem mapE_ret {α β : Type} (enc : β → Value) (f : α → β) (r : Except Int α) : retOr (fun x => enc (f x)) r = retOr enc (r.map f) := by cases r <;> rfl
def placeV (r : Except Int Nat) : Value := match r with
  | .ok n => .tuple #[I n, I 0]
  | .error c => .tuple #[I 0, I c]
def findV (r : Except Int (Nat × Nat)) : Value := match r with
  | .ok y => .tuple #[I y.1, I y.2, I 0]
  | .error c => .tuple #[I 0, I 0, I c]
set_option maxRecDepth 100000 in
theorem Place_any (t : Tab) (s k : BitVec 64) (w : World) :
    Calls Tryz.prog 18 #[U s, .agg (tcells t), U k] w fun e w' => e = .returned (placeV (ifMay t s (placeT t s k))) ∧ Ch [] w w' := by
  have T1 := fun (w : World) cap hd => tries3_any t s 56 cap ((placeT t s k).map fun n : Nat => (n : Int)) w enters_place1 hd
  have D1 := fun b p w h0 h1 hb hp => place1_any t s k b p w h0 h1 hb hp
  have hm := fun h => may_ok (t := t) (s := s) h
  unfold ifMay
  generalize placeT t s k = r at *
  generalize mayT t s = m at *
  go_enter Tryz.func18, Tryz.ntmps18
  go_wp2_with fail
  refine (T1 _ #[.pointer (some ⟨w.heap.size + 1, 0, none⟩)] ?_).mono ?_
  · intro hmt b w1 hb hc hle
    obtain ⟨h0, h1⟩ := hm hmt
    refine (D1 b (w.heap.size + 1) w1 h0 h1 hb ((hc.block _ (by simp) (by simp)).trans (by simp [go_sem]))).mono ?_
    rintro e w2 ⟨rfl, hc2⟩
    exact ⟨mapE_ret (fun v : Int => I v) (fun n : Nat => (n : Int)) r, hc2.of_nil⟩
  · rintro e w1 ⟨rfl, hc1⟩
    cases m
    · simp only [tupOr, Bool.false_eq_true, if_false]
      go_wp2
      go_ret2
      exact ⟨rfl, (((Ch.refl [] w).alloc _).alloc _).trans hc1⟩
    · cases r
      all_goals
        simp only [tupOr, if_true, Except.map]
        go_wp2
        go_ret2
        exact ⟨rfl, (((Ch.refl [] w).alloc _).alloc _).trans hc1⟩
theorem acells_idx (a : At) (i : Nat) (h : i < (acells a).size) : (acells a)[i] = if i = 39 then I a.slot else if i = 40 then I a.many else a.t.cell i := by simp [acells]
attribute [local go_sem] acells_idx
set_option maxRecDepth 100000 in
theorem Find_any (t : Tab) (s k : BitVec 64) (w : World) :
    Calls Tryz.prog 30 #[U s, .agg (tcells t), U k] w fun e w' => e = .returned (findV (ifMay t s (foundE t s k))) ∧ Ch [] w w' := by
  have T1 := fun (w : World) cap hd => tries91_any t s 73 cap ((foundE t s k).map fun y : Nat × Nat => (⟨zeroT, y.1, y.2⟩ : At)) w enters_find1 hd
  have D1 := fun b p w h0 h1 hb hp => find1_any t s k b p w h0 h1 hb hp
  have hm := fun h => may_ok (t := t) (s := s) h
  unfold ifMay
  generalize foundE t s k = r at *
  generalize mayT t s = m at *
  go_enter Tryz.func30, Tryz.ntmps30
  go_wp2_with fail
  refine (T1 _ #[.pointer (some ⟨w.heap.size + 1, 0, none⟩)] ?_).mono ?_
  · intro hmt b w1 hb hc hle
    obtain ⟨h0, h1⟩ := hm hmt
    refine (D1 b (w.heap.size + 1) w1 h0 h1 hb ((hc.block _ (by simp) (by simp)).trans (by simp [go_sem]))).mono ?_
    rintro e w2 ⟨rfl, hc2⟩
    exact ⟨mapE_ret (fun v : At => .agg (acells v)) (fun y : Nat × Nat => (⟨zeroT, y.1, y.2⟩ : At)) r, hc2.of_nil⟩
  · rintro e w1 ⟨rfl, hc1⟩
    cases m
    · simp only [tupOr, Bool.false_eq_true, if_false]
      go_wp2
      go_quiet (fail)
      go_wp2
      go_ret3
      refine ⟨rfl, ?_⟩
      exact ((((((Ch.refl [] w).alloc _).alloc _).trans hc1).alloc _).onObj (.inr (by have := hc1.size; simp at this; show w.heap.size ≤ w1.heap.size; omega)) _).drewN nq
    · cases r with
      | error e =>
        simp only [tupOr, if_true, Except.map]
        go_wp2
        go_quiet (fail)
        go_wp2
        go_ret3
        refine ⟨rfl, ?_⟩
        exact ((((((Ch.refl [] w).alloc _).alloc _).trans hc1).alloc _).onObj (.inr (by have := hc1.size; simp at this; show w.heap.size ≤ w1.heap.size; omega)) _).drewN nq
      | ok y =>
        obtain ⟨y1, y2⟩ := y
        simp only [tupOr, if_true, Except.map]
        go_wp2
        go_quiet (fail)
        go_wp2
        go_ret3
        refine ⟨?_, ?_⟩
        · simp only [findV, if_true]; rfl
        · exact ((((((Ch.refl [] w).alloc _).alloc _).trans hc1).alloc _).onObj (.inr (by have := hc1.size; simp at this; show w.heap.size ≤ w1.heap.size; omega)) _).drewN nq
end Go.Proofs.Hc
/- Package table: Put, Puts. -/
namespace Go.Proofs.Hc
open Go.RowKit
attribute [local go_sem] wrap_u64 wrap_u8 bits_xor64 bits_and64 bits_or64 bits_not64 bits_xor8 bits_and8 bits_or8 signed64 signed8 ofInt_N BitVec.ofInt_add BitVec.ofInt_mul ofInt_sub' ofInt8_N64 ofInt64_N8 wide8 eqN neN shr_pow shr1 shr7 shr56
attribute [local go_sem high] bits_com64 shl_wrap
attribute [local go_sem] cell_heap ice_heap cellAt_cells iceAt_cells setAt_cells rowAt_cells canLay_cells laidAt_cells size_onObj size_setCell rowRes_some layRes_true
attribute [local go_sem] load26 load73 load23 store26 build73
attribute [local go_sem ↓] lrow26 lrow73 lrow23 srow26 zero26 brow73 heap_alloc heap_drew heap_drewN heap_setCell heap_onObj
attribute [local go_sem] tcells_size hcells_size tcells_get hcells_get tcells_one hcells_one hcells_table tcells_table hcells_all hcells_ctrl tcells_ctrl
attribute [local go_sem] nn2 nm2 nn3 nm3 nn4 nm4 nn5 nm5 nn6 nm6 nn7 nm7 nn8 nm8
attribute [local go_sem] loadA loadT2 storeA storeT2 buildA_ts buildA_sm assert_errno make_func acells_size t2cells_size acells_get t2cells_get acells_one t2cells_one acells_table acells_all t2cells_all t2cells_l t2cells_r
attribute [local go_sem ↓] lrowA lrowT2 srowA srowT2 browA zeroA_run zeroT2_run
attribute [local go_sem] nn2 nm2 nn3 nm3 nn4 nm4 nn5 nm5 nn6 nm6 nn7 nm7 nn8 nm8
attribute [local go_sem] Oper.semAt_some make_func1 ofInt_pow8
attribute [local go_sem] box26 tcells_idx cell0 cell1 cell2 cell3 cell4 hcells_idx hcells_pop
attribute [local go_sem] cell5 cell6 acells_idx
attribute [local go_sem high] laidAt_t
theorem laidAt_a (a b : At) (T : TypeId) (fr : Nat × Nat) : laidAt 0 (acells b) (.cells (acells a) T fr) = .cells (acells b) T fr := by
  rw [laidAt_cells, laid_whole _ _ (by rw [acells_size, acells_size])]
attribute [local go_sem high] laidAt_a
theorem enters_put1 (args : Array Value) (w : World) : (callFunc 59 args).run Tryz.prog w = .ok (.enter 59 args) w := by kernel_rfl
/-- A key that is put: the table then, and its slot. -/
def putA (t : Tab) (s k v : BitVec 64) : Except Int At := (placeT t s k).map fun sl => ⟨fillT t s k v sl, sl, 0⟩
theorem may_okT {t : Tab} {s : BitVec 64} (h : mayT t s = true) : OkT t 0 := by
  obtain ⟨h0, h1⟩ := may_ok h
  rw [mayT] at h
  simp only [Bool.and_eq_true, beq_iff_eq] at h
  obtain ⟨⟨⟨⟨hf, _⟩, _⟩, hl⟩, hc⟩ := h
  have := slots_len t
  refine ⟨h0, h1, ?_, ?_⟩ <;> (rw [flatT] at hf; simp only [Bool.and_eq_true, decide_eq_true_eq] at hf; omega)
set_option maxRecDepth 100000 in
theorem put1_any (t : Tab) (s k v : BitVec 64) (b p q : Nat) (w : World) (hok : OkT t 0) (hb : w.heap[b]? = some (.cells (hcells t s) 73 (0, 0))) (hp : w.heap[p]? = some (.cells #[U k] 22 (0, 0))) (hq : w.heap[q]? = some (.cells #[U v] 22 (0, 0))) :
    Calls Tryz.prog 59 #[.pointer (some ⟨b, 0, none⟩), .pointer (some ⟨p, 0, none⟩), .pointer (some ⟨q, 0, none⟩)] w fun e w' => e = retOr (fun y => .agg (acells y)) (putA t s k v) ∧ Ch [b] w w' := by
  have hpl := (Array.getElem?_eq_some_iff.1 hp).1
  have hql := (Array.getElem?_eq_some_iff.1 hq).1
  have hbl := (Array.getElem?_eq_some_iff.1 hb).1
  have hb' : (w.alloc (.cells (acells zeroA) 91)).heap[b]? = some (.cells (hcells t s) 73 (0, 0)) := by rw [heap_alloc, if_neg (by omega)]; exact hb
  have hpn : ¬ p = w.heap.size := by omega
  have hqn : ¬ q = w.heap.size := by omega
  have P1 := put_any t 0 s k v b _ hok (by omega) hb'
  unfold putA
  generalize fillT t s k v = f at *
  generalize placeT t s k = r at *
  have hbne : w.heap.size ∉ [b] := by simp; omega
  clear hpl hql hbl
  cases r with
  | error c =>
    go_enter Tryz.func59, Tryz.ntmps59
    go_wp2_with (go_at_call 60; refine P1.mono ?_; rintro e w1 ⟨rfl, hc1, _⟩; simp only [retOr])
    exact ⟨rfl, rfl, (((Ch.refl [] w).alloc _).of_nil).trans hc1⟩
  | ok sl =>
    go_enter Tryz.func59, Tryz.ntmps59
    go_wp2_with (go_at_call 60; refine P1.mono ?_; rintro e w1 ⟨rfl, hc1, hh⟩; simp only [retOr]; have hb1 := hh sl rfl; clear hh; have hA : w1.heap[w.heap.size]? = some (.cells (acells zeroA) 91 (0, 0)) := (hc1.block _ (by simp) hbne).trans (by simp [go_sem]))
    refine bodyPost_ret (v := .agg (acells ⟨f sl, sl, 0⟩)) (results_cell1 Tryz.results59 _ _ _ rfl (run_loadVar_row _ _ 91 91 (acells ⟨f sl, sl, 0⟩) (0, 0) _ ?_ Tryz.underlying91 rfl (by rw [acells_size]; kernel_rfl))) rfl ⟨rfl, ?_⟩
    · simp only [heap_onObj, if_true, hA, Option.map_some, laidAt_a]
    · exact ((((Ch.refl [] w).alloc _).of_nil).trans hc1).onObj (.inr (Nat.le_refl _)) _
end Go.Proofs.Hc
