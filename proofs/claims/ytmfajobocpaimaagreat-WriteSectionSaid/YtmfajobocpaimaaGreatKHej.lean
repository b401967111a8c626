/- The reference of layer 17: row. -/
import Derived.Test.YtmfajobocpaimaaGreatKHmet
import Derived.Test.YtmfajobocpaimaaGreatKHcg
import Derived.Test.YtmfajobocpaimaaGreatKHcs
import Derived.Test.YtmfajobocpaimaaGreatKHdh
import Derived.Test.YtmfajobocpaimaaGreatKHdk
import Derived.Test.YtmfajobocpaimaaGreatKHds
import Derived.Test.YtmfajobocpaimaaGreatKHdt
import Derived.Test.YtmfajobocpaimaaGreatKHdv
import Derived.Test.YtmfajobocpaimaaGreatKHec
import Derived.Test.YtmfajobocpaimaaGreatKHm
import Derived.Test.YtmfajobocpaimaaGreatKHma
import Derived.Test.YtmfajobocpaimaaGreatKHnl
import Derived.Test.YtmfajobocpaimaaGreatKHpb
import Derived.Test.YtmfajobocpaimaaGreatKHh
import Derived.Test.YtmfajobocpaimaaGreatKHni
import Derived.Test.YtmfajobocpaimaaGreatKHxh
import Derived.Test.YtmfajobocpaimaaGreatKHxo
import Derived.Below
import Derived.BigQuiet
import Derived.Deep.Draws
import Derived.Deep.Light
import Derived.Deep.QuietTactic
import Derived.Deep.RegionHeld
import Derived.Laws.CopyRow
import Derived.Laws.StructEq
import Derived.Laws.Tables
import Derived.Lib.AppendZerosOnto
import Derived.Lib.Hide
import Derived.Lib.Tables
import Derived.Lib.Walk
import Derived.LoopIn
import Derived.LoopN
import Derived.LoopNIn
import Derived.Maps.AppendAt
import Derived.Maps.Views
import Derived.OwnWalkIn
import Derived.RangeFuncBox
import Derived.RangeFuncCalls
import Derived.RangeFuncRecord
import Derived.RangeFuncSeq
import Derived.Recover
import Derived.RegionTactic
import Derived.Shelf.Slices.Clone
import Derived.StillTail
import Derived.StillTailTactics
import Derived.TacticsInMore
import Derived.Test.YtmfajobocpaimaaGreatProg
import Derived.WalkKit
import Derived.WalkLawsBesides
import Derived.WalkMore
import Derived.WalkSpells
import Derived.ChangeKeysEq
import Derived.Deep.OwnRows
import Derived.Deep.Slices
import Derived.IntWalk
import Derived.Laws.CopyOwn
import Derived.OpenShut
import Derived.ProofKit
import Derived.ScopeJumps
set_option linter.unusedSimpArgs false
set_option linter.unusedVariables false
namespace Go.Proofs.Hc
open Go.RowKit
attribute [local go_sem] wrap_u64 wrap_u8 bits_xor64 bits_and64 bits_or64 bits_not64 bits_xor8 bits_and8 bits_or8 signed64 signed8 ofInt_N BitVec.ofInt_add BitVec.ofInt_mul ofInt_sub' ofInt8_N64 ofInt64_N8 wide8 eqN neN shr_pow shr1 shr7 shr56
attribute [local go_sem high] bits_com64 shl_wrap
attribute [local go_sem] cell_heap ice_heap cellAt_cells iceAt_cells setAt_cells rowAt_cells canLay_cells laidAt_cells size_onObj size_setCell rowRes_some layRes_true
attribute [local go_sem] load26 load73 load23 store26 build73
attribute [local go_sem ↓] lrow26 lrow73 lrow23 srow26 zero26 brow73 heap_alloc heap_drew heap_drewN heap_setCell heap_onObj
attribute [local go_sem] tcells_size hcells_size tcells_get hcells_get tcells_one hcells_one hcells_table tcells_table hcells_all hcells_ctrl tcells_ctrl
attribute [local go_sem] nn2 nm2 nn3 nm3 nn4 nm4 nn5 nm5 nn6 nm6 nn7 nm7 nn8 nm8
attribute [local go_sem] nn2 nm2 nn3 nm3 nn4 nm4 nn5 nm5 nn6 nm6 nn7 nm7 nn8 nm8
attribute [local go_sem] ofInt_N
attribute [local go_sem] box26 tcells_idx cell0 cell1 cell2 cell3 cell4
attribute [local irreducible] tcells
/-- A row of numbers that the call made. -/
def IntsAt (w0 w : World) (v : Value) (l : List Nat) : Prop :=
  ∃ r c cur, v = .slice (some ⟨r, 0, none⟩) l.length c ∧ w0.heap.size ≤ r ∧ w.heap[r]? = some (.cells cur 3 (0, 0)) ∧ ∀ i x : Nat, l[i]? = some x → cur[i]? = some (I (x : Int))
theorem IntsAt.ch {w0 w w' : World} {v : Value} {l : List Nat} {S : List Nat} (h : IntsAt w0 w v l) (c : Ch S w w') (hS : ∀ r n c, v = .slice (some ⟨r, 0, none⟩) n c → r ∉ S) : IntsAt w0 w' v l := by
  obtain ⟨r, c', cur, hv, hr, hb, hi⟩ := h
  exact ⟨r, c', cur, hv, hr, (c.block r (Array.getElem?_eq_some_iff.1 hb).1 (hS _ _ _ hv)).trans hb, hi⟩
end Go.Proofs.Hc
/- slices.IndexFunc, slices.DeleteFunc at rows of pairs, by the statement's own test. -/
namespace Go.Proofs.Hc
open Go.RowKit
attribute [local go_sem] wrap_u64 wrap_u8 bits_xor64 bits_and64 bits_or64 bits_not64 bits_xor8 bits_and8 bits_or8 signed64 signed8 ofInt_N BitVec.ofInt_add BitVec.ofInt_mul ofInt_sub' ofInt8_N64 ofInt64_N8 wide8 eqN neN shr_pow shr1 shr7 shr56
attribute [local go_sem high] bits_com64 shl_wrap
attribute [local go_sem] cell_heap ice_heap cellAt_cells iceAt_cells setAt_cells rowAt_cells canLay_cells laidAt_cells size_onObj size_setCell rowRes_some layRes_true
attribute [local go_sem] load26 load73 load23 store26 build73
attribute [local go_sem ↓] lrow26 lrow73 lrow23 srow26 zero26 brow73 heap_alloc heap_drew heap_drewN heap_setCell heap_onObj
attribute [local go_sem] tcells_size hcells_size tcells_get hcells_get tcells_one hcells_one hcells_table tcells_table hcells_all hcells_ctrl tcells_ctrl
attribute [local go_sem] nn2 nm2 nn3 nm3 nn4 nm4 nn5 nm5 nn6 nm6 nn7 nm7 nn8 nm8
attribute [local go_sem] nn2 nm2 nn3 nm3 nn4 nm4 nn5 nm5 nn6 nm6 nn7 nm7 nn8 nm8
attribute [local go_sem] Oper.semAt_some make_func1
attribute [local go_sem] loadP storeP allOne_pair
attribute [local go_sem high] laidAt_p
attribute [local go_sem ↓] lrowP srowP zeroP
theorem box_pair (x y : BitVec 64) (w : World) : (Instr.box 31 (.agg #[U x, U y])).run Tryz.prog w = .ok (.pointer (some ⟨w.heap.size, 0, none⟩)) (w.alloc (.cells #[U x, U y] 31)) := rfl
attribute [local go_sem] box_pair
/-- The place of the first pair of a row that has a key, or minus one. -/
def IdxF (w : World) (l : List (BitVec 64 × BitVec 64)) (k : BitVec 64) (e : Ending) (w' : World) : Prop :=
  ∃ n : Int, e = .returned (I n) ∧ Ch [] w w' ∧ (n = -1 ∧ (∀ q ∈ l, q.1 ≠ k) ∨ ∃ (j : Nat) (q : BitVec 64 × BitVec 64), n = j ∧ l[j]? = some q ∧ q.1 = k ∧ ∀ q ∈ l.take j, q.1 ≠ k)
end Go.Proofs.Hc
/- Law 19, WriteTable: the walk, call by call (printed by gen_table19.py). -/
namespace Go.Proofs.Hc
open Go.RowKit
attribute [local go_sem] wrap_u64 wrap_u8 bits_xor64 bits_and64 bits_or64 bits_not64 bits_xor8 bits_and8 bits_or8 signed64 signed8 ofInt_N BitVec.ofInt_add BitVec.ofInt_mul ofInt_sub' ofInt8_N64 ofInt64_N8 wide8 eqN neN shr_pow shr1 shr7 shr56
attribute [local go_sem high] bits_com64 shl_wrap
attribute [local go_sem] cell_heap ice_heap cellAt_cells iceAt_cells setAt_cells rowAt_cells canLay_cells laidAt_cells size_onObj size_setCell rowRes_some layRes_true
attribute [local go_sem] load26 load73 load23 store26 build73
attribute [local go_sem ↓] lrow26 lrow73 lrow23 srow26 zero26 brow73 heap_alloc heap_drew heap_drewN heap_setCell heap_onObj
attribute [local go_sem] tcells_size hcells_size tcells_get hcells_get tcells_one hcells_one hcells_table tcells_table hcells_all hcells_ctrl tcells_ctrl
attribute [local go_sem] nn2 nm2 nn3 nm3 nn4 nm4 nn5 nm5 nn6 nm6 nn7 nm7 nn8 nm8
attribute [local go_sem] nn2 nm2 nn3 nm3 nn4 nm4 nn5 nm5 nn6 nm6 nn7 nm7 nn8 nm8
attribute [local go_sem] ofInt_N ofInt_pow8
attribute [local go_sem] Oper.semAt_some make_func1
attribute [local go_sem] pen_g0 pen_g1 pen_g2 pen_g3 pen_g4 pen_g5 pen_g6 pen_g7 pen_g8 pen_g9 pen_g10 pen_g11 pen_g12 pen_g13 pen_g14 pen_g15 pen_g16 pen_g17 penC_size penC_one penC_all
attribute [local irreducible] penC
attribute [local go_sem] pen_s0 pen_s1 pen_s2 pen_s3 pen_s4 pen_s5 pen_s6 pen_s7 pen_s8 pen_s9 pen_s10 pen_s11 pen_s12 pen_s13 pen_s14 pen_s15 pen_s16 pen_s17
attribute [local go_sem] boxPen loadPen storePen buildPen0
attribute [local go_sem ↓] lrowPen srowPen wzeroPen_run browPen
attribute [local go_sem high] wlaidAt_pen laidAt_t
attribute [local go_sem] workC_size workC_one workC_all workC_tab workC_g0 workC_g1 workC_g2 workC_i0 workC_i1 workC_i2 boxWork loadWork
attribute [local go_sem ↓] lrowWork
theorem callC_i0 (o : Int) (k a b : BitVec 64) (h : 0 < (callC o k a b).size) : (callC o k a b)[0] = I o := rfl
theorem callC_i1 (o : Int) (k a b : BitVec 64) (h : 1 < (callC o k a b).size) : (callC o k a b)[1] = U k := rfl
theorem callC_i2 (o : Int) (k a b : BitVec 64) (h : 2 < (callC o k a b).size) : (callC o k a b)[2] = U a := rfl
theorem callC_i3 (o : Int) (k a b : BitVec 64) (h : 3 < (callC o k a b).size) : (callC o k a b)[3] = U b := rfl
theorem callC_j0 (o : Int) (k a b : BitVec 64) : (callC o k a b)[0]? = some (I o) := rfl
theorem callC_j1 (o : Int) (k a b : BitVec 64) : (callC o k a b)[1]? = some (U k) := rfl
theorem callC_j2 (o : Int) (k a b : BitVec 64) : (callC o k a b)[2]? = some (U a) := rfl
theorem callC_j3 (o : Int) (k a b : BitVec 64) : (callC o k a b)[3]? = some (U b) := rfl
attribute [local go_sem] callC_size callC_one callC_all boxCall loadCall callC_i0 callC_i1 callC_i2 callC_i3 callC_j0 callC_j1 callC_j2 callC_j3
attribute [local go_sem ↓] lrowCall
attribute [local irreducible] callC workC tcells
theorem workL_is {sl : Int} {B : Nat} (t : Tab) (hB : (16 + 40 * sl).toNat = B) : workL sl t = laidW (idxL 136) B t := by unfold workL; rw [hB]
theorem idxL_one : (idxL 136)[1]? = some 1#64 := rfl
end Go.Proofs.Hc
/- Law 19, WriteAnswers: write.Answer, and which pair has the key. -/
namespace Go.Proofs.Hc
open Go.RowKit
attribute [local go_sem] wrap_u64 wrap_u8 bits_xor64 bits_and64 bits_or64 bits_not64 bits_xor8 bits_and8 bits_or8 signed64 signed8 ofInt_N BitVec.ofInt_add BitVec.ofInt_mul ofInt_sub' ofInt8_N64 ofInt64_N8 wide8 eqN neN shr_pow shr1 shr7 shr56
attribute [local go_sem high] bits_com64 shl_wrap
attribute [local go_sem] cell_heap ice_heap cellAt_cells iceAt_cells setAt_cells rowAt_cells canLay_cells laidAt_cells size_onObj size_setCell rowRes_some layRes_true
attribute [local go_sem] load26 load73 load23 store26 build73
attribute [local go_sem ↓] lrow26 lrow73 lrow23 srow26 zero26 brow73 heap_alloc heap_drew heap_drewN heap_setCell heap_onObj
attribute [local go_sem] tcells_size hcells_size tcells_get hcells_get tcells_one hcells_one hcells_table tcells_table hcells_all hcells_ctrl tcells_ctrl
attribute [local go_sem] nn2 nm2 nn3 nm3 nn4 nm4 nn5 nm5 nn6 nm6 nn7 nm7 nn8 nm8
attribute [local go_sem] nn2 nm2 nn3 nm3 nn4 nm4 nn5 nm5 nn6 nm6 nn7 nm7 nn8 nm8
attribute [local go_sem] Oper.semAt_some make_func1
attribute [local go_sem] loadP storeP allOne_pair
attribute [local go_sem high] laidAt_p
attribute [local go_sem ↓] lrowP srowP zeroP
attribute [local go_sem] box_pair
attribute [local go_sem] callC_size callC_one callC_all boxCall loadCall callC_i0 callC_i1 callC_i2 callC_i3 callC_j0 callC_j1 callC_j2 callC_j3
attribute [local go_sem ↓] lrowCall
attribute [local irreducible] callC
set_option maxRecDepth 100000 in
theorem answers1_any (x : BitVec 64 × BitVec 64) (op : Int) (k a b : BitVec 64) (pb : Nat) (w : World) (hp : w.heap[pb]? = some (.cells (callC op k a b) 68 (0, 0))) :
    Calls Tryz.prog 62 #[.agg #[U x.1, U x.2], .pointer (some ⟨pb, 0, none⟩)] w fun e w' => e = .returned (.bool (x.1 == k)) ∧ Ch [] w w' := by
  have hne : ¬ pb = w.heap.size := by have := (Array.getElem?_eq_some_iff.1 hp).1; omega
  go_enter Tryz.func62, Tryz.ntmps62
  go_wp2
  go_ret
  exact ⟨rfl, (Ch.refl [] w).alloc _⟩
set_option maxHeartbeats 1000000 in
set_option maxRecDepth 100000 in
theorem indexA_any (l : List (BitVec 64 × BitVec 64)) (op : Int) (p : BitVec 64 × Unit) (av bv : BitVec 64) (pb : Nat) (a : Option Addr) (c : Nat) (cur : Array Value) (w : World) (hl : l.length ≤ 900000)
    (hpa : PairsAt cur l) (ha : 0 < l.length → ∃ r, a = some ⟨r, 0, none⟩) (hr : ∀ r, a = some ⟨r, 0, none⟩ → w.heap[r]? = some (.cells cur 31 (0, 0))) (hp : w.heap[pb]? = some (.cells (callC op p.1 av bv) 68 (0, 0))) :
    Calls Tryz.prog 61 #[.slice a l.length c, .func (.func 62) #[] #[.pointer (some ⟨pb, 0, none⟩)]] w (IdxF w l p.1) := by
  have HP := Lib.hid hpa
  have HA := Lib.hid ha
  have HR := Lib.hid hr
  have F1 := fun (q : BitVec 64 × BitVec 64) (W : World) (h : Ch [] w W) => answers1_any q op p.1 av bv pb W (hkeep h hp)
  clear hpa ha hr hp
  go_enter Tryz.func61, Tryz.ntmps61
  go_wp2
  go_loopw [8] (fun i wr => ∃ j : Nat, i = .int .i64 j ∧ j ≤ l.length ∧ (∀ q ∈ l.take j, q.1 ≠ p.1) ∧ Ch [] w wr) (fun i _ => l.length - (intOf i).toNat)
  case atStart => exact ⟨0, rfl, Nat.zero_le _, by simp, Ch.refl _ _⟩
  case round =>
    obtain ⟨j, hj, hjl, hno, hcr⟩ := hrel
    subst hj
    rcases Nat.lt_or_ge j l.length with hlt | hge
    · obtain ⟨r, hra⟩ := HA.out (by omega)
      obtain ⟨q, hqm, -⟩ := drop_one hlt
      have hrow' : rowAt (j * 2) 2 (.cells cur 31 (0, 0)) = some #[U q.1, U q.2] := by rw [Nat.mul_comm]; exact HP.out j q hqm
      subst hra
      have hrr : wr.heap[r]? = some (.cells cur 31 (0, 0)) := hkeep hcr (HR.out r rfl)
      have hdec : decide (j < l.length) = true := by simpa using hlt
      have F2 := F1 q wr hcr
      have HNO := Lib.hid hno
      have HQ := Lib.hid hqm
      clear hno hqm F1
      cases hq : (q.1 == p.1)
      all_goals
        have HE := Lib.hid hq
        rw [hq] at F2
        clear hq
        go_wp2_with (go_at_call 62; refine F2.mono ?_; rintro e wg ⟨rfl, hcg⟩)
      · have hne : q.1 ≠ p.1 := by have := HE.out; simpa using this
        go_roundw
        case rel => exact ⟨j + 1, by go_num, hlt, take_nextG (P := fun q => q.1 ≠ p.1) HNO.out HQ.out hne, hcr.trans hcg⟩
        case measure => simp [intOf]; omega
      · have heq : q.1 = p.1 := by have := HE.out; simpa using this
        go_ret
        exact ⟨j, rfl, hcr.trans hcg, .inr ⟨j, q, rfl, HQ.out, heq, HNO.out⟩⟩
    · have hme : j = l.length := Nat.le_antisymm hjl hge
      have hdec : decide (j < l.length) = false := by simpa using hge
      have hno' : ∀ q ∈ l, q.1 ≠ p.1 := by rw [hme, List.take_length] at hno; exact hno
      have HN := Lib.hid hno'
      clear hno hme hge hno'
      go_wp2
      go_ret
      exact ⟨-1, rfl, hcr, .inl ⟨rfl, HN.out⟩⟩
end Go.Proofs.Hc
/- Law 19: arguments opened (a table by a seed in a slab, a call). -/
namespace Go.Proofs.Hc
open Go.ChangeShapes Go.WideShapes Go.ChangeAt Go.RowKit
section
variable {H : Type} {enc : TypeId × Value → H} {w : World} {base : Nat} {spare : Nat → Bool} {held : Bool}
theorem work_under : Tryz.prog.underlying 88 = some (.struct (Tryz.prog.fieldsOf 88)) := by kernel_rfl
theorem work_fields : (Tryz.prog.fieldsOf 88).toList.map (fun f => (f.type, f.offset)) = [(22, 0), (3, 1), (26, 2)] := by kernel_rfl
theorem cells_work : Tryz.prog.cellsOf 88 = 41 := by kernel_rfl
theorem work_cellsOf {fuel : Nat} {cs : List Value} {x : DataW H × List MemPlace} (h : DataW.trod enc Tryz.prog w base spare held fuel 88 cs = some x) : ∃ s sl t, cs = (workC s sl t).toList := by
  obtain ⟨xs, n, _, _, hlen, hxl, hx⟩ := DataW.trod_struct work_under h
  have rd := fields_at (n := n) (cs := cs) work_fields hxl hx
  have hlen := hlen.trans cells_work
  obtain ⟨y0, e0⟩ := rd 0 _ _ rfl
  obtain ⟨m0, h0, w0⟩ := rd_int Tryz.underlying22 cells_u64 e0
  rw [← U_of w0] at h0
  obtain ⟨y1, e1⟩ := rd 1 _ _ rfl
  obtain ⟨m1, h1, _⟩ := rd_int Tryz.underlying3 cells_int e1
  obtain ⟨y2, e2⟩ := rd 2 _ _ rfl
  obtain ⟨hl, hc⟩ := table_cells e2
  have ht := tabOf_cells hl hc
  rw [cells_t] at ht hl
  refine ⟨BitVec.ofInt 64 m0, m1, tabOf ((cs.drop 2).take 39), ?_⟩
  unfold workC
  rw [Array.toList_append, ht]
  apply List.ext_getElem?
  intro i
  match i with
  | 0 => exact h0
  | 1 => exact h1
  | i + 2 =>
    rw [List.getElem?_append_right (by simp)]
    show cs[i + 2]? = ((cs.drop 2).take 39)[i]?
    rw [List.getElem?_take]
    by_cases hi : i < 39
    · rw [if_pos hi, List.getElem?_drop, Nat.add_comm]
    · rw [if_neg hi, List.getElem?_eq_none (by omega)]
set_option maxRecDepth 100000 in
theorem open_work {r : Reach} {b0 : Nat} {v : Value} {d : DataW H} {p : List MemPlace} (hv : Value.okWide Tryz.prog w r b0 88 v) (h : DataW.Trod enc Tryz.prog w base spare held 88 v d p) : ∃ s sl t, v = .agg (workC s sl t) := by
  obtain ⟨cs, rfl, hsz⟩ := okWide_struct work_under hv
  obtain ⟨fuel, hf⟩ := h
  have hf' : DataW.trod enc Tryz.prog w base spare held fuel 88 cs.toList = some (d, p) := hf
  obtain ⟨s, sl, t, hq⟩ := work_cellsOf hf'
  exact ⟨s, sl, t, congrArg Value.agg (Array.ext' hq)⟩
set_option maxRecDepth 100000 in
theorem open_call {r : Reach} {b0 : Nat} {v : Value} {d : DataW H} {p : List MemPlace} (hv : Value.okWide Tryz.prog w r b0 68 v) (h : DataW.Trod enc Tryz.prog w base spare held 68 v d p) : ∃ op k a b, v = .agg (callC op k a b) := by
  obtain ⟨cs, rfl, hsz⟩ := okWide_struct call_under hv
  obtain ⟨fuel, hf⟩ := h
  have hf' : DataW.trod enc Tryz.prog w base spare held fuel 68 cs.toList = some (d, p) := hf
  obtain ⟨hl, ⟨m0, h0⟩, ⟨m1, h1⟩, ⟨m2, h2⟩, ⟨m3, h3⟩⟩ := call_cellsOf hf'
  refine ⟨m0, m1, m2, m3, congrArg Value.agg (Array.ext' ?_)⟩
  apply List.ext_getElem?
  intro i
  match i with
  | 0 => exact h0
  | 1 => exact h1
  | 2 => exact h2
  | 3 => exact h3
  | i + 4 => rw [List.getElem?_eq_none (by omega), List.getElem?_eq_none (by show 4 ≤ i + 4; omega)]
end
end Go.Proofs.Hc
