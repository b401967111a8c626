/- Package table: a table, and pairs that are put in it. -/
import Derived.Test.YtcikopeddljgkaaGreatKHcb
import Derived.Test.YtcikopeddljgkaaGreatKHdn
import Derived.Test.YtcikopeddljgkaaGreatKHj
import Derived.Test.YtcikopeddljgkaaGreatKHma
import Derived.Test.YtcikopeddljgkaaGreatKHmet
import Derived.Test.YtcikopeddljgkaaGreatKHr
import Derived.Test.YtcikopeddljgkaaGreatKHrw
import Derived.Test.YtcikopeddljgkaaGreatKHs
import Derived.Test.YtcikopeddljgkaaGreatKHtc
import Derived.Test.YtcikopeddljgkaaGreatKHtd
import Derived.Test.YtcikopeddljgkaaGreatKRn
import Derived.Test.YtcikopeddljgkaaGreatKHtm
import Derived.Test.YtcikopeddljgkaaGreatKHye
import Derived.Below
import Derived.BigQuiet
import Derived.Deep.Draws
import Derived.Deep.Light
import Derived.Deep.QuietTactic
import Derived.Deep.RegionHeld
import Derived.Laws.CopyRow
import Derived.Laws.Tables
import Derived.Lib.AppendZerosOnto
import Derived.Lib.Hide
import Derived.Lib.Tables
import Derived.Lib.Walk
import Derived.LoopIn
import Derived.LoopN
import Derived.LoopNIn
import Derived.Maps.AppendAt
import Derived.Maps.Views
import Derived.OwnWalkIn
import Derived.RangeFuncBox
import Derived.RangeFuncCalls
import Derived.RangeFuncRecord
import Derived.RangeFuncSeq
import Derived.Recover
import Derived.RegionTactic
import Derived.Shelf.Slices.Clone
import Derived.StillTail
import Derived.StillTailTactics
import Derived.TacticsInMore
import Derived.Test.YtcikopeddljgkaaGreatProg
import Derived.WalkKit
import Derived.WalkLawsBesides
import Derived.WalkMore
import Derived.WalkSpells
import Derived.Laws.StructEq
set_option linter.unusedSimpArgs false
set_option linter.unusedVariables false
namespace Go.Proofs.Hc
open Go.RowKit
attribute [local go_sem] wrap_u64 wrap_u8 bits_xor64 bits_and64 bits_or64 bits_not64 bits_xor8 bits_and8 bits_or8 signed64 signed8 ofInt_N BitVec.ofInt_add BitVec.ofInt_mul ofInt_sub' ofInt8_N64 ofInt64_N8 wide8 eqN neN shr_pow shr1 shr7 shr56
attribute [local go_sem high] bits_com64 shl_wrap
attribute [local go_sem] cell_heap ice_heap cellAt_cells iceAt_cells setAt_cells rowAt_cells canLay_cells laidAt_cells size_onObj size_setCell rowRes_some layRes_true
attribute [local go_sem] load26 load73 load23 store26 build73
attribute [local go_sem ↓] lrow26 lrow73 lrow23 srow26 zero26 brow73 heap_alloc heap_drew heap_drewN heap_setCell heap_onObj
attribute [local go_sem] tcells_size hcells_size tcells_get hcells_get tcells_one hcells_one hcells_table tcells_table hcells_all hcells_ctrl tcells_ctrl
attribute [local go_sem] nn2 nm2 nn3 nm3 nn4 nm4 nn5 nm5 nn6 nm6 nn7 nm7 nn8 nm8
attribute [local go_sem] nn2 nm2 nn3 nm3 nn4 nm4 nn5 nm5 nn6 nm6 nn7 nm7 nn8 nm8
attribute [local go_sem] Oper.semAt_some make_func1 ofInt_pow8
attribute [local go_sem] box26 tcells_idx cell0 cell1 cell2 cell3 cell4 hcells_idx hcells_pop
attribute [local go_sem] cell5 cell6
theorem loadP (g o : Nat) (w : World) : (loadRow 31 ⟨g, o, none⟩).run Tryz.prog w = rowRes Tryz.prog 31 g o w ((w.heap[g]?).bind (rowAt o 2)) :=
  run_row Tryz.underlying31 rfl (by kernel_rfl) g o w
theorem storeP (g o : Nat) (vs : Array Value) (w : World) : (storeRow 31 ⟨g, o, none⟩ (.agg vs)).run Tryz.prog w = layRes Tryz.prog 31 g o vs w (((w.heap[g]?).map (canLay o 2 vs)).getD false) :=
  run_lay (by kernel_rfl) g o vs w
theorem lrowP (a : Addr) : loadVar 31 a = loadRow 31 a := rfl
theorem srowP (a : Addr) (v : Value) : storeVar 31 a v = storeRow 31 a v := rfl
theorem zeroP (w : World) : (zeroValue 31).run Tryz.prog w = .ok (.agg #[U 0#64, U 0#64]) w := by kernel_rfl
/-- A row of pairs, read where it lies. -/
def PairsAt (cur : Array Value) (l : List (BitVec 64 × BitVec 64)) : Prop := ∀ (i : Nat) (p : BitVec 64 × BitVec 64), l[i]? = some p → rowAt (2 * i) 2 (.cells cur 31 (0, 0)) = some #[U p.1, U p.2]
theorem pcells_at : ∀ (l : List (BitVec 64 × BitVec 64)) (i : Nat) (p : BitVec 64 × BitVec 64), l[i]? = some p → (pcells l)[2 * i]? = some (U p.1) ∧ (pcells l)[2 * i + 1]? = some (U p.2)
  | [], i, p, h => by cases h
  | q :: l, 0, p, h => by
    have : q = p := by simpa using h
    subst this; exact ⟨rfl, rfl⟩
  | q :: l, i + 1, p, h => by
    have := pcells_at l i p (by simpa using h)
    have e : pcells (q :: l) = U q.1 :: U q.2 :: pcells l := rfl
    rw [e, show 2 * (i + 1) = 2 * i + 1 + 1 by omega]
    simpa using this
theorem pairs_at {W : World} {base n : Nat} {a : Option Addr} {c : Nat} {l : List (BitVec 64 × BitVec 64)} (hn : n = l.length) (h : W.ownsRow base 31 2 (.slice a n c) n (pcells l)) :
    ∃ cur, PairsAt cur l ∧ (0 < l.length → ∃ r, a = some ⟨r, 0, none⟩) ∧ ∀ r, a = some ⟨r, 0, none⟩ → base ≤ r ∧ W.heap[r]? = some (.cells cur 31 (0, 0)) := by
  subst hn
  obtain ⟨_, ⟨hv, h0⟩ | ⟨g, cap, cur, hv, hg, hW, hle, _, hsz, hx⟩⟩ := h
  · refine ⟨#[], fun i p hp => ?_, fun hl => by omega, fun r hr => by rw [hr] at hv; simp at hv⟩
    have := (List.getElem?_eq_some_iff.1 hp).1
    omega
  · refine ⟨cur, fun i p hp => ?_, fun _ => ⟨g, by simp only [Value.slice.injEq] at hv; exact hv.1⟩, fun r hr => ?_⟩
    · have hi := (List.getElem?_eq_some_iff.1 hp).1
      obtain ⟨h1, h2⟩ := pcells_at l i p hp
      rw [← hx, List.getElem?_take] at h1 h2
      rw [if_pos (by omega)] at h1 h2
      have h1' : cur[2 * i]? = some (U p.1) := by simpa using h1
      have h2' : cur[2 * i + 1]? = some (U p.2) := by simpa using h2
      rw [rowAt_cells, if_pos (by omega)]
      congr 1
      apply Array.ext_getElem?
      intro j
      rw [Array.getElem?_extract]
      match j with
      | 0 => rw [if_pos (by omega)]; simpa using h1'
      | 1 => rw [if_pos (by omega)]; simpa using h2'
      | j + 2 => rw [if_neg (by omega)]; simp
    · rw [hr] at hv
      simp only [Value.slice.injEq] at hv
      have hrg : r = g := by simpa using hv.1
      subst hrg
      exact ⟨hg, hW⟩
theorem allOne_pair (x y : BitVec 64) : allOne #[U x, U y] = true := by simp [allOne, Value.oneCell']
theorem laidAt_p (a b c d : Value) (T : TypeId) (fr : Nat × Nat) : laidAt 0 #[a, b] (.cells #[c, d] T fr) = .cells #[a, b] T fr := by
  have h := laid_whole (#[a, b] : Array Value) #[c, d] rfl
  show Obj.cells (((#[c, d] : Array Value).extract 0 0 ++ #[a, b]) ++ (#[c, d] : Array Value).extract (0 + (#[a, b] : Array Value).size) (#[c, d] : Array Value).size) T fr = _
  rw [h]
attribute [local go_sem] loadP storeP allOne_pair
attribute [local go_sem high] laidAt_p
attribute [local go_sem high] laidAt_t
attribute [local go_sem ↓] lrowP srowP zeroP
theorem drop_one {α : Type} {l : List α} {m : Nat} (h : m < l.length) : ∃ p, l[m]? = some p ∧ l.drop m = p :: l.drop (m + 1) :=
  ⟨l[m]'h, List.getElem?_eq_getElem h, List.drop_eq_getElem_cons h⟩
set_option maxHeartbeats 2000000 in
set_option maxRecDepth 100000 in
theorem laid_walk (t t0 : Tab) (s : BitVec 64) (l : List (BitVec 64 × BitVec 64)) (n : Nat) (a : Option Addr) (c : Nat) (cur : Array Value) (b : Nat) (w : World) (hok : OkT t0 n) (hn : n + l.length ≤ 900)
    (hb : w.heap[b]? = some (.cells (hcells t s) 141 (0, 0))) (hp : PairsAt cur l) (ha : 0 < l.length → ∃ r, a = some ⟨r, 0, none⟩) (hr : ∀ r, a = some ⟨r, 0, none⟩ → w.heap[r]? = some (.cells cur 31 (0, 0))) :
    Calls Tryz.prog 78 #[.pointer (some ⟨b, 0, none⟩), .agg (tcells t0), .slice a l.length c] w fun e w' => e = retOr (fun x => .agg (tcells x)) (laidT s t0 l) ∧ Ch [] w w' := by
  have hbl := (Array.getElem?_eq_some_iff.1 hb).1
  have hs39 : (hcells t s)[39]? = some (U s) := by rw [hcells_get]; rfl
  obtain ⟨W0, hW0⟩ : ∃ W0, (w.alloc (.cells (tcells t0) 26)).alloc (.cells (tcells zeroT) 26) = W0 := ⟨_, rfl⟩
  have hC0 : Ch [] w W0 := by rw [← hW0]; exact ((Ch.refl [] w).alloc _).alloc _
  have hs0 : W0.heap.size = w.heap.size + 1 + 1 := by rw [← hW0]; simp
  have b0 : W0.heap[w.heap.size]? = some (.cells (tcells t0) 26 (0, 0)) := by rw [← hW0]; simp [go_sem]
  have b1 : W0.heap[w.heap.size + 1]? = some (.cells (tcells zeroT) 26 (0, 0)) := by rw [← hW0]; simp [go_sem]
  have bb := hkeep hC0 hb
  have hg0 : ∀ q : Gar W0, (q.1).heap[w.heap.size]? = some (.cells (tcells t0) 26 (0, 0)) := fun q => hkeep q.2 b0
  have hg1 : ∀ q : Gar W0, (q.1).heap[b]? = some (.cells (hcells t s) 141 (0, 0)) := fun q => hkeep q.2 bb
  have HR := Lib.hid hr
  have HA := Lib.hid ha
  have HP := Lib.hid hp
  clear hr ha hp hb
  go_enter Tryz.func78, Tryz.ntmps78
  go_wp2
  refine wp_region_gar_tail 6 (by kernel_rfl) (by kernel_rfl) ?_
  simp only [List.take_succ_cons, List.take_zero, List.drop_succ_cons, List.drop_zero]
  repeat (go_big_quiet_step (fail))
  refine wpQuiet_nil ?_
  rintro W6 ⟨g6, hw6⟩
  have hc6 : Ch [] W0 W6 := by rw [hw6]; exact g6.2
  clear hw6 g6 hg0 hg1
  have d1 := hkeep hc6 b1
  go_wp2
  have hX : w.heap.size + 1 < W6.heap.size := by have := hc6.size; omega
  have hbX : b < W6.heap.size := by omega
  obtain ⟨X, hXe⟩ : ∃ X, W6.heap.size = X := ⟨_, rfl⟩
  obtain ⟨Wb, hWb⟩ : ∃ Wb, W6.alloc (.cells (hcells t0 s) 141) = Wb := ⟨_, rfl⟩
  have eX : Wb.heap[X]? = some (.cells (hcells t0 s) 141 (0, 0)) := by rw [← hWb, heap_alloc, if_pos hXe.symm]
  have hCb : Ch [] W6 Wb := by rw [← hWb]; exact (Ch.refl [] W6).alloc _
  have e1 := hkeep hCb d1
  have hCw : Ch [] w Wb := (hC0.trans hc6).trans hCb
  rw [hWb, hXe]
  rw [hXe] at hX hbX
  have HX := Lib.hid hXe
  clear hWb hXe d1 hCb b0 b1 bb hs0 hs39 hW0
  go_loopw [22] (fun i wr => ∃ (m : Nat) (tm : Tab), i = .int .i64 m ∧ m ≤ l.length ∧ OkT tm (n + m) ∧ laidT s t0 l = laidT s tm (l.drop m) ∧ wr.heap[X]? = some (.cells (hcells tm s) 141 (0, 0)) ∧ Ch [X] Wb wr) (fun i _ => l.length - (intOf i).toNat)
  case atStart => exact ⟨0, t0, rfl, Nat.zero_le _, hok, rfl, eX, Ch.refl _ _⟩
  case round =>
    obtain ⟨m, tm, hm, hml, hokm, hlaid, hxm, hcm⟩ := hrel
    subst hm
    have HL := Lib.hid hlaid
    clear hlaid eX
    rcases Nat.lt_or_ge m l.length with hlt | hge
    · obtain ⟨r, hra⟩ := HA.out (by omega)
      obtain ⟨p, hpm, hdrop⟩ := drop_one hlt
      have hrow := HP.out m p hpm
      have hrow' : rowAt (m * 2) 2 (.cells cur 31 (0, 0)) = some #[U p.1, U p.2] := by rw [Nat.mul_comm]; exact hrow
      subst hra
      have hrr : wr.heap[r]? = some (.cells cur 31 (0, 0)) := by
        have h1 := HR.out r rfl
        have h2 := hkeep hCw h1
        exact hkeepS hcm (by have := (Array.getElem?_eq_some_iff.1 h1).1; simp; omega) h2
      have hdec : decide (m < l.length) = true := by simpa using hlt
      have hne : ¬ X = wr.heap.size := by have := (Array.getElem?_eq_some_iff.1 hxm).1; omega
      have hne2 : ¬ r = wr.heap.size := by have := (Array.getElem?_eq_some_iff.1 hrr).1; omega
      have HXM := Lib.hid hxm
      have HD := Lib.hid hdrop
      clear hdrop hpm
      have P1 := fun (w : World) hb => put_any tm (n + m) s p.1 p.2 X w hokm (by omega) hb
      go_wp2_with fail
      cases hP : placeT tm s p.1 with
      | error e0 =>
        have HPP := Lib.hid hP
        rw [hP] at P1
        clear hP
        refine (P1 _ ?_).mono ?_
        · simp [go_sem, hne, HXM.out]
        · rintro e w2 ⟨rfl, hc2, _⟩
          simp only [retOr]
          have hc2' : Ch [X] Wb w2 := ((hcm.alloc (.cells #[U 0#64, U 0#64] 31)).onObj (.inr (by have := hcm.size; exact this)) _).trans hc2
          exact ⟨rfl, by rw [HL.out, HD.out, laidT_err HPP.out]; rfl, hCw.trans2 hc2' (by simp; omega)⟩
      | ok sl =>
        have HPP := Lib.hid hP
        have hfill := hokm.fill s p.1 p.2 sl (by obtain ⟨g, x, hsl, hg, hx, _⟩ := place_ok hP; omega)
        rw [hP] at P1
        clear hP
        refine (P1 _ ?_).mono ?_
        · simp [go_sem, hne, HXM.out]
        · rintro e w2 ⟨rfl, hc2, hh⟩
          have hx2 := hh sl rfl
          clear hh
          simp only [retOr]
          go_wp2
          go_roundw
          case rel => exact ⟨m + 1, _, by go_num, hlt, by rw [← Nat.add_assoc]; exact hfill, by rw [HL.out, HD.out, laidT_ok HPP.out], hx2, ((hcm.alloc (.cells #[U 0#64, U 0#64] 31)).onObj (.inr (by have := hcm.size; exact this)) _).trans hc2⟩
          case measure => simp [intOf]; omega
    · have hme : m = l.length := Nat.le_antisymm hml hge
      have hdec : decide (m < l.length) = false := by simpa using hge
      have HM := Lib.hid hme
      have e1' := hkeepS hcm (by simp; omega) e1
      clear hme hge
      go_wp2
      refine bodyPost_ret (v := .agg (tcells tm)) (results_cell1 Tryz.results78 _ _ _ rfl (run_loadVar_row _ _ 26 26 (tcells tm) (0, 0) _ ?_ Tryz.underlying26 rfl (by rw [tcells_size]; kernel_rfl))) rfl ⟨?_, ?_⟩
      · rw [heap_onObj, if_pos rfl, e1', Option.map_some, laidAt_t]
      · rw [HL.out, HM.out, List.drop_length, laidT_nil]; rfl
      · exact (hCw.trans2 hcm (by simp; omega)).onObj (.inr (by show w.heap.size ≤ w.heap.size + 1; omega)) _
end Go.Proofs.Hc
/- slices.Index, slices.Contains at rows of pairs. -/
namespace Go.Proofs.Hc
open Go.RowKit
attribute [local go_sem] wrap_u64 wrap_u8 bits_xor64 bits_and64 bits_or64 bits_not64 bits_xor8 bits_and8 bits_or8 signed64 signed8 ofInt_N BitVec.ofInt_add BitVec.ofInt_mul ofInt_sub' ofInt8_N64 ofInt64_N8 wide8 eqN neN shr_pow shr1 shr7 shr56
attribute [local go_sem high] bits_com64 shl_wrap
attribute [local go_sem] cell_heap ice_heap cellAt_cells iceAt_cells setAt_cells rowAt_cells canLay_cells laidAt_cells size_onObj size_setCell rowRes_some layRes_true
attribute [local go_sem] load26 load73 load23 store26 build73
attribute [local go_sem ↓] lrow26 lrow73 lrow23 srow26 zero26 brow73 heap_alloc heap_drew heap_drewN heap_setCell heap_onObj
attribute [local go_sem] tcells_size hcells_size tcells_get hcells_get tcells_one hcells_one hcells_table tcells_table hcells_all hcells_ctrl tcells_ctrl
attribute [local go_sem] nn2 nm2 nn3 nm3 nn4 nm4 nn5 nm5 nn6 nm6 nn7 nm7 nn8 nm8
attribute [local go_sem] nn2 nm2 nn3 nm3 nn4 nm4 nn5 nm5 nn6 nm6 nn7 nm7 nn8 nm8
attribute [local go_sem] Oper.semAt_some make_func1
attribute [local go_sem] loadP storeP allOne_pair
attribute [local go_sem high] laidAt_p
attribute [local go_sem ↓] lrowP srowP zeroP
theorem fieldsP : (Tryz.prog.fieldsOf 31).toList.map (fun f => (f.name == "_", f.type, f.offset)) = [(false, 22, 0), (false, 22, 1)] := by kernel_rfl
theorem eqU (d : Nat) (x y : BitVec 64) (w : World) : (Op.equalIn (d + 1) 22 (U x) (U y)).run Tryz.prog w = .ok (x == y) w := by
  rw [run_equalIn_int w d 22 .u64 .u64 (N x) (N y) Tryz.underlying22]
  rw [eqN]
theorem eql_pair (x y z v : BitVec 64) (w : World) : (binOp .eql 31 (.agg #[U x, U y]) (.agg #[U z, U v])).run Tryz.prog w = .ok (.bool (x == z && y == v)) w := by
  rw [run_eql_struct, run_equalIn_agg w 9999 31 _ _ (by kernel_rfl) (by kernel_rfl)]
  have h := fieldsP
  generalize (Tryz.prog.fieldsOf 31).toList = fs at *
  have p0 : ∀ (x y : BitVec 64) (w : World), (part 22 #[U x, U y] 0).run Tryz.prog w = .ok (U x) w := fun x y w => by kernel_rfl
  have p1 : ∀ (x y : BitVec 64) (w : World), (part 22 #[U x, U y] 1).run Tryz.prog w = .ok (U y) w := fun x y w => by kernel_rfl
  cases fs with
  | nil => simp at h
  | cons f fs =>
    cases fs with
    | nil => simp at h
    | cons g fs =>
      cases fs with
      | cons e fs => simp at h
      | nil =>
        simp only [List.map_cons, List.map_nil, List.cons.injEq, Prod.mk.injEq, and_true, beq_eq_false_iff_ne] at h
        obtain ⟨⟨n1, t1, o1⟩, n2, t2, o2⟩ := h
        simp only [Op.eqFields]
        rw [if_pos n1, if_pos n2, t1, t2, o1, o2]
        simp only [Sem.run_bind, p0, p1, Result.andThen_ok, eqU, Sem.run_ite, Sem.run_pure]
        cases h1 : (x == z) <;> cases h2 : (y == v) <;> simp
theorem guardP (x y : Operand) (xs ys : Array Value) (w : World) : (eqGuard .eql 31 x y (.agg xs) (.agg ys)).run Tryz.prog w = .ok () w := run_eqGuard_agg w .eql 31 x y xs ys (by kernel_rfl)
attribute [local go_sem high] eql_pair guardP
end Go.Proofs.Hc
/- slices.Equal at rows of the same pairs. -/
namespace Go.Proofs.Hc
open Go.RowKit
attribute [local go_sem] wrap_u64 wrap_u8 bits_xor64 bits_and64 bits_or64 bits_not64 bits_xor8 bits_and8 bits_or8 signed64 signed8 ofInt_N BitVec.ofInt_add BitVec.ofInt_mul ofInt_sub' ofInt8_N64 ofInt64_N8 wide8 eqN neN shr_pow shr1 shr7 shr56
attribute [local go_sem high] bits_com64 shl_wrap
attribute [local go_sem] cell_heap ice_heap cellAt_cells iceAt_cells setAt_cells rowAt_cells canLay_cells laidAt_cells size_onObj size_setCell rowRes_some layRes_true
attribute [local go_sem] load26 load73 load23 store26 build73
attribute [local go_sem ↓] lrow26 lrow73 lrow23 srow26 zero26 brow73 heap_alloc heap_drew heap_drewN heap_setCell heap_onObj
attribute [local go_sem] tcells_size hcells_size tcells_get hcells_get tcells_one hcells_one hcells_table tcells_table hcells_all hcells_ctrl tcells_ctrl
attribute [local go_sem] nn2 nm2 nn3 nm3 nn4 nm4 nn5 nm5 nn6 nm6 nn7 nm7 nn8 nm8
attribute [local go_sem] nn2 nm2 nn3 nm3 nn4 nm4 nn5 nm5 nn6 nm6 nn7 nm7 nn8 nm8
attribute [local go_sem] Oper.semAt_some make_func1
attribute [local go_sem] loadP storeP allOne_pair
attribute [local go_sem high] laidAt_p
attribute [local go_sem ↓] lrowP srowP zeroP
theorem neq_pair (x y : BitVec 64) (w : World) : (binOp .neq 31 (.agg #[U x, U y]) (.agg #[U x, U y])).run Tryz.prog w = .ok (.bool false) w := by
  have h := eql_pair x y x y w
  rw [run_eql_struct] at h
  rw [run_neq_struct]
  generalize (Op.equalIn 10000 31 (.agg #[U x, U y]) (.agg #[U x, U y])).run Tryz.prog w = r at *
  cases r with
  | ok b w' =>
    simp only [Result.andThen_ok, Result.ok.injEq, Value.bool.injEq, beq_self_eq_true, Bool.and_self] at h
    obtain ⟨rfl, rfl⟩ := h
    rfl
  | halt x w' => simp [Result.andThen] at h
theorem guardP' (op : BinOp) (x y : Operand) (xs ys : Array Value) (w : World) : (eqGuard op 31 x y (.agg xs) (.agg ys)).run Tryz.prog w = .ok () w := run_eqGuard_agg w op 31 x y xs ys (by kernel_rfl)
attribute [local go_sem high] neq_pair guardP'
set_option maxHeartbeats 1000000 in
set_option maxRecDepth 100000 in
theorem eqPairs_any (l : List (BitVec 64 × BitVec 64)) (a b : Option Addr) (c d : Nat) (cur cur2 : Array Value) (w : World) (hl : l.length ≤ 900000)
    (hpa : PairsAt cur l) (ha : 0 < l.length → ∃ r, a = some ⟨r, 0, none⟩) (hr : ∀ r, a = some ⟨r, 0, none⟩ → w.heap[r]? = some (.cells cur 31 (0, 0)))
    (hpb : PairsAt cur2 l) (hb : 0 < l.length → ∃ r, b = some ⟨r, 0, none⟩) (hs : ∀ r, b = some ⟨r, 0, none⟩ → w.heap[r]? = some (.cells cur2 31 (0, 0))) :
    Calls Tryz.prog 100 #[.slice a l.length c, .slice b l.length d] w fun e w' => e = .returned (.bool true) ∧ Ch [] w w' := by
  have HP := Lib.hid hpa
  have HA := Lib.hid ha
  have HR := Lib.hid hr
  have HPB := Lib.hid hpb
  have HAB := Lib.hid hb
  have HRB := Lib.hid hs
  clear hpa ha hr hpb hb hs
  go_enter Tryz.func100, Tryz.ntmps100
  go_wp2
  go_loopw [13] (fun i wr => ∃ j : Nat, i = .int .i64 j ∧ j ≤ l.length ∧ Ch [] w wr) (fun i _ => l.length - (intOf i).toNat)
  case atStart => exact ⟨0, rfl, Nat.zero_le _, Ch.refl _ _⟩
  case round =>
    obtain ⟨j, hj, hjl, hcr⟩ := hrel
    subst hj
    rcases Nat.lt_or_ge j l.length with hlt | hge
    · obtain ⟨r, hra⟩ := HA.out (by omega)
      obtain ⟨q, hqb⟩ := HAB.out (by omega)
      obtain ⟨p, hpm, -⟩ := drop_one hlt
      have hrow : rowAt (j * 2) 2 (.cells cur 31 (0, 0)) = some #[U p.1, U p.2] := by rw [Nat.mul_comm]; exact HP.out j p hpm
      have hrow2 : rowAt (j * 2) 2 (.cells cur2 31 (0, 0)) = some #[U p.1, U p.2] := by rw [Nat.mul_comm]; exact HPB.out j p hpm
      subst hra hqb
      have hrr : wr.heap[r]? = some (.cells cur 31 (0, 0)) := hkeep hcr (HR.out r rfl)
      have hqq : wr.heap[q]? = some (.cells cur2 31 (0, 0)) := hkeep hcr (HRB.out q rfl)
      have hdec : decide (j < l.length) = true := by simpa using hlt
      have hg0 : ∀ g : Gar wr, (g.1).heap[q]? = some (.cells cur2 31 (0, 0)) := fun g => hkeep g.2 hqq
      have hg1 : ∀ g : Gar wr, (g.1).heap[r]? = some (.cells cur 31 (0, 0)) := fun g => hkeep g.2 hrr
      clear hpm
      go_wp2
      refine wp_region_gar (by kernel_rfl) (by kernel_rfl) ?_
      repeat (go_big_quiet_step (fail))
      refine wpQuiet_nil ?_
      rintro W6 ⟨g6, hw6⟩
      have hc6 : Ch [] wr W6 := by rw [hw6]; exact g6.2
      clear hw6 g6 hg0 hg1
      go_wp2
      go_roundw
      case rel => exact ⟨j + 1, by go_num, hlt, hcr.trans hc6⟩
      case measure => simp [intOf]; omega
    · have hme : j = l.length := Nat.le_antisymm hjl hge
      have hdec : decide (j < l.length) = false := by simpa using hge
      clear hme hge
      go_wp2
      go_ret
      exact ⟨rfl, hcr⟩
end Go.Proofs.Hc
