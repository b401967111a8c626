/- Package layout: TableWords, what the words are. -/
import Derived.Test.YtmfajobocpaimaaGreatKHmet
import Derived.Test.YtmfajobocpaimaaGreatKHcc
import Derived.Test.YtmfajobocpaimaaGreatKHcs
import Derived.Test.YtmfajobocpaimaaGreatKHdn
import Derived.Test.YtmfajobocpaimaaGreatKHdo
import Derived.Test.YtmfajobocpaimaaGreatKHds
import Derived.Test.YtmfajobocpaimaaGreatKHdt
import Derived.Test.YtmfajobocpaimaaGreatKHdv
import Derived.Test.YtmfajobocpaimaaGreatKHj
import Derived.Test.YtmfajobocpaimaaGreatKHm
import Derived.Test.YtmfajobocpaimaaGreatKHma
import Derived.Test.YtmfajobocpaimaaGreatKHnl
import Derived.Test.YtmfajobocpaimaaGreatKHns
import Derived.Test.YtmfajobocpaimaaGreatKHpb
import Derived.Test.YtmfajobocpaimaaGreatKHh
import Derived.Test.YtmfajobocpaimaaGreatKHtm
import Derived.Test.YtmfajobocpaimaaGreatKHni
import Derived.Below
import Derived.BigQuiet
import Derived.Deep.Draws
import Derived.Deep.Light
import Derived.Deep.OwnRows
import Derived.Deep.QuietTactic
import Derived.Deep.RegionHeld
import Derived.IntWalk
import Derived.Laws.CopyOwn
import Derived.Laws.CopyRow
import Derived.Laws.StructEq
import Derived.Laws.Tables
import Derived.Lib.AppendZerosOnto
import Derived.Lib.Hide
import Derived.Lib.Tables
import Derived.Lib.Walk
import Derived.LoopIn
import Derived.LoopN
import Derived.LoopNIn
import Derived.Maps.AppendAt
import Derived.Maps.Views
import Derived.OwnWalkIn
import Derived.RangeFuncBox
import Derived.RangeFuncCalls
import Derived.RangeFuncRecord
import Derived.RangeFuncSeq
import Derived.Recover
import Derived.RegionTactic
import Derived.ScopeJumps
import Derived.Shelf.Slices.Clone
import Derived.StillTail
import Derived.StillTailTactics
import Derived.TacticsInMore
import Derived.Test.YtmfajobocpaimaaGreatProg
import Derived.WalkKit
import Derived.WalkLawsBesides
import Derived.WalkMore
import Derived.WalkSpells
set_option linter.unusedSimpArgs false
set_option linter.unusedVariables false
namespace Go.Proofs.Hc
open Go.RowKit
attribute [local go_sem] wrap_u64 wrap_u8 bits_xor64 bits_and64 bits_or64 bits_not64 bits_xor8 bits_and8 bits_or8 signed64 signed8 ofInt_N BitVec.ofInt_add BitVec.ofInt_mul ofInt_sub' ofInt8_N64 ofInt64_N8 wide8 eqN neN shr_pow shr1 shr7 shr56
attribute [local go_sem high] bits_com64 shl_wrap
attribute [local go_sem] cell_heap ice_heap cellAt_cells iceAt_cells setAt_cells rowAt_cells canLay_cells laidAt_cells size_onObj size_setCell rowRes_some layRes_true
attribute [local go_sem] load26 load73 load23 store26 build73
attribute [local go_sem ↓] lrow26 lrow73 lrow23 srow26 zero26 brow73 heap_alloc heap_drew heap_drewN heap_setCell heap_onObj
attribute [local go_sem] tcells_size hcells_size tcells_get hcells_get tcells_one hcells_one hcells_table tcells_table hcells_all hcells_ctrl tcells_ctrl
attribute [local go_sem] nn2 nm2 nn3 nm3 nn4 nm4 nn5 nm5 nn6 nm6 nn7 nm7 nn8 nm8
attribute [local go_sem] nn2 nm2 nn3 nm3 nn4 nm4 nn5 nm5 nn6 nm6 nn7 nm7 nn8 nm8
attribute [local go_sem] box26 tcells_idx cell0 cell1 cell2 cell3 cell4
attribute [local go_sem] Oper.semAt_some make_func1
theorem run_append_fits_zeros2 {P : Program} (w : World) (t tn ty e : TypeId) (i : TypeInfo) (z : Value) (kq kn : IntKind) (ht : P.underlying t = some (.slice e)) (htn : P.underlying tn = some (.int kn)) (hi : P.info? e = some i) (hz : i.zero = some z)
    (hs1 : i.size = 1) (hzc : z.cells = #[z]) (hz1 : z.oneCell' = true) (q n cap k : Nat) (cur : Array Value) (T : TypeId) (hq : w.heap[q]? = some (.cells cur T (0, 0))) (hcur : cur.size = cap) (h0 : 0 < k) (hfit : n + k ≤ cap) (h63 : k * i.bytes ≤ 281474976710656) (hk : k ≤ 1000) :
    ∃ w', (Builtin.append_ #[t, tn] ty #[.slice (some ⟨q, 0, none⟩) n cap, .int kq k]).run P w = .ok (.slice (some ⟨q, 0, none⟩) (n + k) cap) w' ∧ w'.heap[q]? = some (.cells (List.take n cur.toList ++ List.replicate k z ++ List.drop (n + k) cur.toList).toArray T (0, 0)) ∧ Ch [q] w w' := by
  have hkn : k ≠ 0 := by omega
  have hw : IntKind.i64.wrap (k : Int) = k := by rw [IntKind.wrap_i64]; omega
  have hneg : ¬ ((k : Int) < 0) := by omega
  have h48i : ¬ (281474976710656 < (k : Int) * (i.bytes : Int)) := by
    rw [← Int.natCast_mul]
    omega
  have hst := run_storeCells_at (P := P) q n T (List.replicate k z) 0 cur w hq (by simp; omega) (fun v hv => by rw [(List.mem_replicate.1 hv).2]; exact hz1)
  have hadd : (⟨q, 0, none⟩ : Addr).add n = ⟨q, n, none⟩ := by unfold Addr.add; split <;> simp_all
  rw [Nat.add_zero, List.length_replicate] at hst
  have hh := setRow_heap w q cur (List.take n cur.toList ++ List.replicate k z ++ List.drop (n + k) cur.toList).toArray T (0, 0) hq
  refine ⟨w.setRow q (List.take n cur.toList ++ List.replicate k z ++ List.drop (n + k) cur.toList).toArray, ?_, hh, ?_⟩
  · generalize w.setRow q (List.take n cur.toList ++ List.replicate k z ++ List.drop (n + k) cur.toList).toArray = w' at *
    have hst' : (storeCells ⟨q, n, none⟩ (List.replicate k z)).run P w = .ok () w' := hst
    simp [Builtin.append_, run_underlying ht, run_underlying htn, sizeOf, typeInfo, zeroValue, hi, hz, hs1, asInt, asIntOf, hw, hkn, hneg, h48i, hfit, hzc, zeroCells_one, hadd, hst']
  · refine ⟨rfl, rfl, rfl, by simp [World.setRow], fun j hj hn => ?_⟩
    simp only [World.setRow, Array.getElem?_modify]
    rw [if_neg (fun e => hn (by simp [e]))]
set_option maxRecDepth 100000 in
theorem padded38_row (base : Nat) (v : Value) (xs : List Value) (w : World) (hbw : base ≤ w.heap.size) (hown : w.ownsRow base 22 1 v 38 xs) :
    Calls Tryz.prog 118 #[v] w fun e w' => ∃ R c cur, e = .returned (.slice (some ⟨R, 0, none⟩) 40 c) ∧ base ≤ R ∧ w'.heap[R]? = some (.cells cur 22 (0, 0)) ∧ (∀ (j : Nat) (u : Value), (xs ++ [U 0#64, U 0#64])[j]? = some u → cur[j]? = some u) ∧ Ch v.ownBlock.toList w w' := by
  obtain ⟨hlen, h⟩ := hown
  rcases h with ⟨_, h⟩ | ⟨q, cap, cur, rfl, hq, hb, h38, hcm, hsz, hx⟩
  · cases h
  obtain ⟨i0, hi, hz0, hz1, hz2⟩ := info_parts infoU
  have hsz' : cur.size = cap := by omega
  have hx' : List.take 38 cur.toList = xs := hx
  rcases Nat.lt_or_ge cap 40 with hlt | hge
  · go_enter Tryz.func118, Tryz.ntmps118
    go_wp2_with (at_builtin; refine Lib.wpList_append_run _ rfl _ _ 53 3 rfl _ _ rfl rfl _ _ (Lib.run_append_grow_zeros _ 53 3 _ 22 i0 (U 0#64) .i64 .i64 Tryz.underlying53 Tryz.underlying3 hi hz0 (some ⟨q, 0, none⟩) 38 cap (cur.toList.take 38) ?hold 2 (by omega) (by omega) (by omega) (by omega) (by omega) ?hfit) ?_)
    case hold =>
      have := run_firstCells_some (P := Tryz.prog) w.drew i0.size 38 ⟨q, 0, none⟩ 38 cap (cur.toList.take 38) (by simp; omega) (fun j u hj => by
        rw [Addr.add_lit, cell_heap, heap_drew, hb, Option.bind_some, cellAt_cells, Nat.zero_add]
        rw [List.getElem?_take] at hj
        split at hj
        · simpa using hj
        · cases hj)
      exact this
    case hfit =>
      have : cap = 38 ∨ cap = 39 := by omega
      rw [hz2]
      rcases this with rfl | rfl <;> decide
    go_ret
    refine ⟨_, _, _, rfl, hbw, by rw [heap_drew, heap_alloc, if_pos rfl], fun j u hj => ?_, (((Ch.refl [] w).drew).alloc _).of_nil⟩
    rw [Array.getElem?_append]
    have hl : xs.length = 38 := hlen
    by_cases hj38 : j < 38
    · rw [List.getElem?_append_left (by omega)] at hj
      rw [if_pos (by simp; omega)]
      simpa using hj
    · rw [List.getElem?_append_right (by omega), hl] at hj
      rw [if_neg (by simp; omega)]
      have h2 : j - 38 < 2 := by have := (List.getElem?_eq_some_iff.1 hj).1; simpa using this
      rw [Array.getElem?_append, if_pos (by show j - xs.toArray.size < (Builtin.zeroCells #[U 0#64] 2).size; rw [zeroCells_one]; simp; omega)]
      show (Builtin.zeroCells #[U 0#64] 2)[j - xs.toArray.size]? = some u
      rw [zeroCells_one]
      rcases (show j = 38 ∨ j = 39 by omega) with rfl | rfl
      · simpa [hl] using hj
      · simpa [hl] using hj
  · obtain ⟨w2, hr2, hw2, hc2⟩ := run_append_fits_zeros2 (P := Tryz.prog) w 53 3 53 22 i0 (U 0#64) .i64 .i64 Tryz.underlying53 Tryz.underlying3 hi hz0 hz1 rfl rfl q 38 cap 2 cur 22 hb hsz' (by omega) (by omega) (by omega) (by omega)
    have HW2 := Lib.hid hw2
    clear hw2
    go_enter Tryz.func118, Tryz.ntmps118
    go_wp2_with (at_builtin; refine Lib.wpList_append_run _ rfl _ _ 53 3 rfl _ _ rfl rfl _ _ hr2 ?_)
    go_ret
    refine ⟨_, _, _, rfl, hq, HW2.out, fun j u hj => ?_, hc2⟩
    rw [hx', List.getElem?_toArray, List.getElem?_append_left (by
      have h1 := (List.getElem?_eq_some_iff.1 hj).1
      have hl : xs.length = 38 := hlen
      simp at h1 ⊢; omega)]
    exact hj
theorem twords_cells (t : Tab) : ((#[U t.count, U (wd1 t), U (BitVec.ofInt 64 t.can), U (BitVec.ofInt 64 t.live)] : Array Value).extract 0 (0 + 4)).toList ++ ((tcells t).extract 5 (5 + 2)).toList ++ ((tcells t).extract 7 (7 + 16)).toList ++ ((tcells t).extract 23 (23 + 16)).toList ++ [U 0#64, U 0#64] = (twords t).map fun x => U x := by kernel_rfl
set_option maxRecDepth 100000 in
theorem words_row (t : Tab) (hf : flatT t = true) (w : World) : Calls Tryz.prog 63 #[.agg (tcells t)] w fun e w' => ∃ R c cur, e = .returned (.tuple #[.slice (some ⟨R, 0, none⟩) 40 c, I 0]) ∧ w.heap.size ≤ R ∧ WordsAt cur (twords t) ∧ w'.heap[R]? = some (.cells cur 22 (0, 0)) ∧ Ch [] w w' := by
  have F1 := fun w => flat_any t w
  rw [hf] at F1
  clear hf
  have HT := Lib.hid (twords_cells t)
  go_enter Tryz.func63, Tryz.ntmps63
  go_wp2_with (go_at_call 116; refine (F1 _).mono ?_; rintro e w1 ⟨rfl, hc1⟩; have hb1 : w1.heap[w.heap.size]? = some (.cells (tcells t) 26 (0, 0)) := (hc1.block _ (by simp) (by simp)).trans (by simp [go_sem]))
  obtain ⟨x0, hx0⟩ : ∃ x, N (BitVec.ofInt 64 t.depth ||| t.pre * 256#64) = x := ⟨_, rfl⟩
  obtain ⟨x1, hx1⟩ : ∃ x, N (BitVec.ofInt 64 t.can) = x := ⟨_, rfl⟩
  obtain ⟨x2, hx2⟩ : ∃ x, N (BitVec.ofInt 64 t.live) = x := ⟨_, rfl⟩
  rw [hx0, hx1, hx2]
  have HT : Hid (((#[U t.count, .int .u64 x0, .int .u64 x1, .int .u64 x2] : Array Value).extract 0 (0 + 4)).toList ++ ((tcells t).extract 5 (5 + 2)).toList ++ ((tcells t).extract 7 (7 + 16)).toList ++ ((tcells t).extract 23 (23 + 16)).toList ++ [U 0#64, U 0#64] = (twords t).map fun x => U x) := by
    rw [← hx0, ← hx1, ← hx2]
    exact HT
  clear hx0 hx1 hx2
  obtain ⟨W0, hW0⟩ : ∃ W0, w1.alloc (.cells #[U t.count, .int .u64 x0, .int .u64 x1, .int .u64 x2] 22) = W0 := ⟨_, rfl⟩
  have hsz := hc1.size
  simp only [World.size_alloc] at hsz
  have hC0 : Ch [] w W0 := by rw [← hW0]; exact (((Ch.refl [] w).alloc _).trans hc1).alloc _
  have b0 : W0.heap[w.heap.size]? = some (.cells (tcells t) 26 (0, 0)) := by rw [← hW0, heap_alloc, if_neg (by omega)]; exact hb1
  have b1 : W0.heap[w1.heap.size]? = some (.cells #[U t.count, .int .u64 x0, .int .u64 x1, .int .u64 x2] 22 (0, 0)) := by rw [← hW0]; simp [go_sem]
  have hn : w.heap.size < W0.heap.size ∧ w1.heap.size < W0.heap.size := by rw [← hW0]; simp; omega
  rw [hW0]
  clear hW0 hb1 hc1
  refine wp_region_gar_tail 7 (by kernel_rfl) (by kernel_rfl) ?_
  simp only [List.take_succ_cons, List.take_zero, List.drop_succ_cons, List.drop_zero]
  repeat (go_big_quiet_step (fail))
  refine wpQuiet_nil ?_
  rintro w2 ⟨g1, hw1⟩
  have hc1 : Ch [] W0 w2 := by rw [hw1]; exact g1.2
  clear hw1 g1
  have hz2 := hc1.size
  have d0 := (hc1.block _ hn.1 (by simp)).trans b0
  have d1 := (hc1.block _ hn.2 (by simp)).trans b1
  clear b0 b1
  go_wp2_with fail
  refine (concat4 w2.heap.size 4 2 16 16 w1.heap.size w.heap.size w.heap.size w.heap.size 0 5 7 23 ((#[U t.count, .int .u64 x0, .int .u64 x1, .int .u64 x2] : Array Value).extract 0 (0 + 4)).toList ((tcells t).extract 5 (5 + 2)).toList ((tcells t).extract 7 (7 + 16)).toList ((tcells t).extract 23 (23 + 16)).toList _ (by rw [heap_alloc, if_pos rfl])
         (part_len _ _ _ (by simp)) (part_len _ _ _ (by rw [tcells_size]; omega)) (part_len _ _ _ (by rw [tcells_size]; omega)) (part_len _ _ _ (by rw [tcells_size]; omega))
         ((rowAt_part d1 (by simp [allOne, Value.oneCell'])).ch ((Ch.refl [] w2).alloc _)) ((rowAt_part d0 (tcells_one t)).ch ((Ch.refl [] w2).alloc _)) ((rowAt_part d0 (tcells_one t)).ch ((Ch.refl [] w2).alloc _)) ((rowAt_part d0 (tcells_one t)).ch ((Ch.refl [] w2).alloc _))).mono ?_
  rintro e w3 ⟨v, rfl, hown, hc3⟩
  have hob := own_block hown
  obtain ⟨xs, hxs⟩ : ∃ xs, ((#[U t.count, .int .u64 x0, .int .u64 x1, .int .u64 x2] : Array Value).extract 0 (0 + 4)).toList ++ ((tcells t).extract 5 (5 + 2)).toList ++ ((tcells t).extract 7 (7 + 16)).toList ++ ((tcells t).extract 23 (23 + 16)).toList = xs := ⟨_, rfl⟩
  rw [hxs] at hown
  have HT2 : xs ++ [U 0#64, U 0#64] = (twords t).map fun x => U x := by rw [← hxs]; exact HT.out
  have P1 := padded38_row _ v _ w3 hc3.size hown
  have HT3 := Lib.hid HT2
  clear hown HT HT2
  go_wp2_with (go_at_call 118; refine P1.mono ?_; rintro e w4 ⟨R, c, cur, rfl, hR, hW, hel, hc4⟩; have HE := Lib.hid hel; clear hel)
  go_ret2
  have hC3 : Ch [] w w3 := ((hC0.trans hc1).alloc _).trans hc3
  simp only [World.size_alloc] at hob hR
  refine ⟨R, c, cur, rfl, by omega, fun j x hj => HE.out j _ (by rw [HT3.out, List.getElem?_map, hj]; rfl), hW, ?_⟩
  exact hC3.trans2 hc4 (fun s hs => .inr (by have := hob s (by simpa using hs); omega))
end Go.Proofs.Hc
/- Law 19: cells that hold a table. -/
namespace Go.Proofs.Hc
open Go.RowKit
attribute [local go_sem] wrap_u64 wrap_u8 bits_xor64 bits_and64 bits_or64 bits_not64 bits_xor8 bits_and8 bits_or8 signed64 signed8 ofInt_N BitVec.ofInt_add BitVec.ofInt_mul ofInt_sub' ofInt8_N64 ofInt64_N8 wide8 eqN neN shr_pow shr1 shr7 shr56
attribute [local go_sem high] bits_com64 shl_wrap
attribute [local go_sem] cell_heap ice_heap cellAt_cells iceAt_cells setAt_cells rowAt_cells canLay_cells laidAt_cells size_onObj size_setCell rowRes_some layRes_true
attribute [local go_sem] load26 load73 load23 store26 build73
attribute [local go_sem ↓] lrow26 lrow73 lrow23 srow26 zero26 brow73 heap_alloc heap_drew heap_drewN heap_setCell heap_onObj
attribute [local go_sem] tcells_size hcells_size tcells_get hcells_get tcells_one hcells_one hcells_table tcells_table hcells_all hcells_ctrl tcells_ctrl
attribute [local go_sem] nn2 nm2 nn3 nm3 nn4 nm4 nn5 nm5 nn6 nm6 nn7 nm7 nn8 nm8
attribute [local go_sem] nn2 nm2 nn3 nm3 nn4 nm4 nn5 nm5 nn6 nm6 nn7 nm7 nn8 nm8
/-- A table by a seed, in a slab. -/
def workC (s : BitVec 64) (sl : Int) (t : Tab) : Array Value := #[U s, I sl] ++ tcells t
theorem workC_size (s : BitVec 64) (sl : Int) (t : Tab) : (workC s sl t).size = 41 := by unfold workC; rw [Array.size_append, tcells_size]; rfl
theorem workC_one (s : BitVec 64) (sl : Int) (t : Tab) : allOne (workC s sl t) = true := by
  have := tcells_one t
  unfold allOne at this ⊢
  unfold workC
  rw [Array.all_append, this]
  simp [Value.oneCell']
theorem workC_all (s : BitVec 64) (sl : Int) (t : Tab) : (workC s sl t).extract 0 41 = workC s sl t := by have := Array.extract_size (xs := workC s sl t); rwa [workC_size] at this
theorem workC_get (s : BitVec 64) (sl : Int) (t : Tab) (i : Nat) : (workC s sl t)[2 + i]? = (tcells t)[i]? := by
  unfold workC
  rw [Array.getElem?_append, if_neg (by simp)]
  congr 1
  simp
theorem workC_tab (s : BitVec 64) (sl : Int) (t : Tab) : (workC s sl t).extract 2 41 = tcells t := by
  apply Array.ext_getElem?
  intro i
  rw [Array.getElem?_extract, workC_size]
  by_cases h : i < 39
  · rw [if_pos (by omega), workC_get]
  · rw [if_neg (by omega), Array.getElem?_eq_none (by rw [tcells_size]; omega)]
theorem workC_g0 (s : BitVec 64) (sl : Int) (t : Tab) : (workC s sl t)[0]? = some (U s) := by unfold workC; rw [Array.getElem?_append, if_pos (by simp)]; rfl
theorem workC_g1 (s : BitVec 64) (sl : Int) (t : Tab) : (workC s sl t)[1]? = some (I sl) := by unfold workC; rw [Array.getElem?_append, if_pos (by simp)]; rfl
theorem workC_g2 (s : BitVec 64) (sl : Int) (t : Tab) : (workC s sl t)[2]? = some (U t.count) := (workC_get s sl t 0).trans (by rw [tcells_get, if_pos (by omega)]; rfl)
theorem workC_i0 (s : BitVec 64) (sl : Int) (t : Tab) (h : 0 < (workC s sl t).size) : (workC s sl t)[0] = U s := by have := workC_g0 s sl t; rw [Array.getElem?_eq_getElem h] at this; exact Option.some.inj this
theorem workC_i1 (s : BitVec 64) (sl : Int) (t : Tab) (h : 1 < (workC s sl t).size) : (workC s sl t)[1] = I sl := by have := workC_g1 s sl t; rw [Array.getElem?_eq_getElem h] at this; exact Option.some.inj this
theorem workC_i2 (s : BitVec 64) (sl : Int) (t : Tab) (h : 2 < (workC s sl t).size) : (workC s sl t)[2] = U t.count := by have := workC_g2 s sl t; rw [Array.getElem?_eq_getElem h] at this; exact Option.some.inj this
theorem boxWork (s : BitVec 64) (sl : Int) (t : Tab) (w : World) : (Instr.box 88 (.agg (workC s sl t))).run Tryz.prog w = .ok (.pointer (some ⟨w.heap.size, 0, none⟩)) (w.alloc (.cells (workC s sl t) 88)) := rfl
theorem loadWork (g o : Nat) (w : World) : (loadRow 88 ⟨g, o, none⟩).run Tryz.prog w = rowRes Tryz.prog 88 g o w ((w.heap[g]?).bind (rowAt o 41)) :=
  run_row Tryz.underlying88 rfl (by kernel_rfl) g o w
theorem lrowWork (a : Addr) : loadVar 88 a = loadRow 88 a := rfl
attribute [local go_sem] workC_size workC_one workC_all workC_tab workC_g0 workC_g1 workC_g2 workC_i0 workC_i1 workC_i2 boxWork loadWork
attribute [local go_sem ↓] lrowWork
attribute [local irreducible] workC tcells
/-- 0, 1, 2 .. -/
def idxL (n : Nat) : List (BitVec 64) := (List.range n).map fun (i : Nat) => BitVec.ofNat 64 i
/-- The first k of them, noughts behind. -/
def fillI (k : Nat) : Array Value := ((List.range 136).map fun (i : Nat) => if i < k then U (BitVec.ofNat 64 i) else U 0#64).toArray
theorem fillI_zero : fillI 0 = wcells (List.replicate 136 0#64) := by
  unfold fillI wcells
  congr 1
theorem fillI_set (k : Nat) (hk : k < 136) : (fillI k).setIfInBounds k (U (BitVec.ofNat 64 k)) = fillI (k + 1) := by
  unfold fillI
  rw [List.setIfInBounds_toArray]
  congr 1
  apply List.ext_getElem?
  intro i
  rw [List.getElem?_set, List.getElem?_map, List.getElem?_map, List.length_map, List.length_range]
  by_cases h : k = i
  · subst h; rw [if_pos rfl, if_pos hk, List.getElem?_range hk, Option.map_some, if_pos (by omega)]
  · rw [if_neg h]
    by_cases hi : i < 136
    · rw [List.getElem?_range hi, Option.map_some, Option.map_some]
      congr 1
      by_cases h2 : i < k
      · rw [if_pos h2, if_pos (by omega)]
      · rw [if_neg h2, if_neg (by omega)]
    · rw [List.getElem?_eq_none (by simp; omega)]; rfl
theorem fillI_at (k : Nat) (hk : k < 136) : (fillI k)[k]? = some (U 0#64) := by
  unfold fillI
  rw [List.getElem?_toArray, List.getElem?_map, List.getElem?_range hk, Option.map_some, if_neg (by omega)]
theorem fillI_all : fillI 136 = wcells (idxL 136) := by
  unfold fillI wcells idxL
  congr 1
theorem idxL_len (n : Nat) : (idxL n).length = n := by simp [idxL]
/-- May the cells be? -/
def workOk (s : BitVec 64) (sl : Int) (t : Tab) : Bool := mayT t s && !oddB t.count && (decide (0 ≤ sl) && decide (sl ≤ 2))
def workL (sl : Int) (t : Tab) : List (BitVec 64) := laidW (idxL 136) (16 + 40 * sl).toNat t
theorem copy_row (O o n : Nat) (l c : List (BitVec 64)) (g cap : Nat) (cur : Array Value) (w : World) (hO : w.heap[O]? = some (.cells (wcells c) 22 (0, 0))) (hg : w.heap[g]? = some (.cells cur 22 (0, 0))) (hcur : WordsAt cur l) (hl : l.length = 40) (ho : o + 40 ≤ c.length) (hn : 40 ≤ n) (cap2 : Nat) :
    (Builtin.copy_ #[53, 53] 3 #[.slice (some ⟨O, o, none⟩) n cap2, .slice (some ⟨g, 0, none⟩) 40 cap]).run Tryz.prog w = .ok (goInt 40) (w.setRow O (wcells (c.take o ++ (l ++ c.drop (o + 40))))) := by
  have hlm : (l.map fun x => U x).length = 40 := by rw [List.length_map, hl]
  have hcp := run_copy_row (P := Tryz.prog) w 53 53 3 22 O o n cap2 ⟨g, 0, none⟩ 40 cap (wcells c) 22 (l.map fun x => U x) Tryz.underlying53 (by kernel_rfl) hO (by rw [hlm]; show 40 = min 40 n; omega) (by
    intro j v hj
    rw [List.getElem?_map] at hj
    obtain ⟨x, hx, rfl⟩ := Option.map_eq_some_iff.1 hj
    rw [Addr.add_lit, cell_heap, hg, Option.bind_some, cellAt_cells, Nat.zero_add]
    exact hcur j x hx) (by rw [hlm, wcells_size]; exact ho) (words_one l)
  have hrow : ((wcells c).toList.take o ++ (l.map fun x => U x) ++ (wcells c).toList.drop (o + (l.map fun x => U x).length)).toArray = wcells (c.take o ++ (l ++ c.drop (o + 40))) := by
    rw [hlm, wcells_list]
    unfold wcells
    rw [List.map_append, List.map_append, List.map_take, List.map_drop, List.append_assoc]
  rw [hrow, hlm] at hcp
  exact hcp
theorem setRow_ch (w : World) (O : Nat) (c : Array Value) : Ch [O] w (w.setRow O c) := ⟨rfl, rfl, rfl, by simp [World.setRow], fun k _ hk => setRow_other _ _ _ _ (by simpa using hk)⟩
set_option maxHeartbeats 2000000 in
set_option maxRecDepth 100000 in
theorem cells_no (s : BitVec 64) (sl : Int) (t : Tab) (w : World) (h : workOk s sl t = false) : Calls Tryz.prog 53 #[.agg (workC s sl t)] w fun e w' => e = .returned (.tuple #[.slice none 0 0, .bool false]) ∧ Ch [] w w' := by
  have C0 : Ch [] w (w.alloc (.cells (workC s sl t) 88)) := (Ch.refl [] w).alloc _
  have b0 : (w.alloc (.cells (workC s sl t) 88)).heap[w.heap.size]? = some (.cells (workC s sl t) 88 (0, 0)) := by rw [heap_alloc, if_pos rfl]
  have M1 := fun w => check_any t s w
  cases hf : flatT t with
  | false =>
    have T1 := fun w => words_bad t hf w
    have L1 : ∀ w, Calls Tryz.prog 56 #[I sl, .int .i64 0] w fun e w' => ∃ x y, e = .returned (.tuple #[I x, I y]) ∧ w = w' := fun w => by
      by_cases h : 0 ≤ sl ∧ sl < 128
      · exact (cell_ok sl 0 h.1 h.2 (by omega) (by omega) w).mono fun e w' h => ⟨_, _, h⟩
      · exact (cell_bad sl 0 (by omega) w).mono fun e w' h => ⟨_, _, h⟩
    clear M1 h hf
    go_enter Tryz.func53, Tryz.ntmps53
    go_wp2_with fail
    obtain ⟨w0, hw0⟩ : ∃ W, w.alloc (.cells (workC s sl t) 88) = W := ⟨_, rfl⟩
    rw [hw0] at b0 C0 ⊢
    clear hw0
    refine (T1 _).mono ?_
    rintro e w1 ⟨rfl, hc1⟩
    have b1 := hkeep hc1 b0
    have C1 := C0.trans hc1
    clear b0 C0 hc1 T1
    go_wp2_with fail
    refine (L1 _).mono ?_
    rintro e w' ⟨x, y, rfl, rfl⟩
    go_wp2
    refine bodyPost_ret (v := .tuple #[.slice none 0 0, .bool false]) (by simp [results, Tryz.results53, go_sem]) rfl ⟨rfl, C1⟩
  | true =>
    have T1 := fun w => words_row t hf w
    by_cases hsl : 0 ≤ sl ∧ sl < 128
    · have L1 := fun w => cell_ok sl 0 hsl.1 hsl.2 (by omega) (by omega) w
      obtain ⟨z, hz⟩ : ∃ z, 16 + 40 * sl + 0 = z := ⟨_, rfl⟩
      rw [hz] at L1
      by_cases h2 : sl ≤ 2
      · cases hm : mayT t s with
        | false =>
          rw [hm, if_neg (by decide)] at M1
          have h2' : ¬ 2 < sl := by omega
          clear h hf hsl hz
          go_enter Tryz.func53, Tryz.ntmps53
          go_wp2_with fail
          obtain ⟨w0, hw0⟩ : ∃ W, w.alloc (.cells (workC s sl t) 88) = W := ⟨_, rfl⟩
          rw [hw0] at b0 C0 ⊢
          clear hw0
          refine (T1 _).mono ?_
          rintro e w1 ⟨R, c, cur, rfl, -, -, -, hc1⟩
          have b1 := hkeep hc1 b0
          have C1 := C0.trans hc1
          clear b0 C0 hc1 T1
          go_wp2_with fail
          refine (L1 _).mono ?_
          rintro e w' ⟨rfl, rfl⟩
          go_wp2_with fail
          refine (M1 _).mono ?_
          rintro e w2 ⟨rfl, hc2⟩
          have b2 := hkeep hc2 b1
          have C2 := C1.trans hc2
          clear b1 C1 hc2 M1
          go_wp2
          refine bodyPost_ret (v := .tuple #[.slice none 0 0, .bool false]) (by simp [results, Tryz.results53, go_sem]) rfl ⟨rfl, C2⟩
        | true =>
          rw [hm, if_pos rfl] at M1
          have hodd : oddB t.count = true := by
            unfold workOk at h
            rw [hm] at h
            simp at h
            cases ho : oddB t.count with
            | true => rfl
            | false => have := h ho hsl.1; omega
          have h2' : ¬ 2 < sl := by omega
          have hrem := tmod2_64w t.count
          have hbit := bit64w t.count
          rw [hodd] at hbit
          clear h hf hsl hz
          go_enter Tryz.func53, Tryz.ntmps53
          go_wp2_with fail
          obtain ⟨w0, hw0⟩ : ∃ W, w.alloc (.cells (workC s sl t) 88) = W := ⟨_, rfl⟩
          rw [hw0] at b0 C0 ⊢
          clear hw0
          refine (T1 _).mono ?_
          rintro e w1 ⟨R, c, cur, rfl, -, -, -, hc1⟩
          have b1 := hkeep hc1 b0
          have C1 := C0.trans hc1
          clear b0 C0 hc1 T1
          go_wp2_with fail
          refine (L1 _).mono ?_
          rintro e w' ⟨rfl, rfl⟩
          go_wp2_with fail
          refine (M1 _).mono ?_
          rintro e w2 ⟨rfl, hc2⟩
          have b2 := hkeep hc2 b1
          have C2 := C1.trans hc2
          clear b1 C1 hc2 M1
          go_wp2
          refine bodyPost_ret (v := .tuple #[.slice none 0 0, .bool false]) (by simp [results, Tryz.results53, go_sem]) rfl ⟨rfl, C2⟩
      · have h2' : 2 < sl := by omega
        clear h hf hsl hz M1 h2
        go_enter Tryz.func53, Tryz.ntmps53
        go_wp2_with fail
        obtain ⟨w0, hw0⟩ : ∃ W, w.alloc (.cells (workC s sl t) 88) = W := ⟨_, rfl⟩
        rw [hw0] at b0 C0 ⊢
        clear hw0
        refine (T1 _).mono ?_
        rintro e w1 ⟨R, c, cur, rfl, -, -, -, hc1⟩
        have b1 := hkeep hc1 b0
        have C1 := C0.trans hc1
        clear b0 C0 hc1 T1
        go_wp2_with fail
        refine (L1 _).mono ?_
        rintro e w' ⟨rfl, rfl⟩
        go_wp2
        refine bodyPost_ret (v := .tuple #[.slice none 0 0, .bool false]) (by simp [results, Tryz.results53, go_sem]) rfl ⟨rfl, C1⟩
    · have L1 := fun w => cell_bad sl 0 (by omega) w
      clear h hf hsl M1
      go_enter Tryz.func53, Tryz.ntmps53
      go_wp2_with fail
      obtain ⟨w0, hw0⟩ : ∃ W, w.alloc (.cells (workC s sl t) 88) = W := ⟨_, rfl⟩
      rw [hw0] at b0 C0 ⊢
      clear hw0
      refine (T1 _).mono ?_
      rintro e w1 ⟨R, c, cur, rfl, -, -, -, hc1⟩
      have b1 := hkeep hc1 b0
      have C1 := C0.trans hc1
      clear b0 C0 hc1 T1
      go_wp2_with fail
      refine (L1 _).mono ?_
      rintro e w' ⟨rfl, rfl⟩
      go_wp2
      refine bodyPost_ret (v := .tuple #[.slice none 0 0, .bool false]) (by simp [results, Tryz.results53, go_sem]) rfl ⟨rfl, C1⟩
end Go.Proofs.Hc
/- Law 19: cells that hold a table, made. -/
namespace Go.Proofs.Hc
open Go.RowKit
attribute [local go_sem] wrap_u64 wrap_u8 bits_xor64 bits_and64 bits_or64 bits_not64 bits_xor8 bits_and8 bits_or8 signed64 signed8 ofInt_N BitVec.ofInt_add BitVec.ofInt_mul ofInt_sub' ofInt8_N64 ofInt64_N8 wide8 eqN neN shr_pow shr1 shr7 shr56
attribute [local go_sem high] bits_com64 shl_wrap
attribute [local go_sem] cell_heap ice_heap cellAt_cells iceAt_cells setAt_cells rowAt_cells canLay_cells laidAt_cells size_onObj size_setCell rowRes_some layRes_true
attribute [local go_sem] load26 load73 load23 store26 build73
attribute [local go_sem ↓] lrow26 lrow73 lrow23 srow26 zero26 brow73 heap_alloc heap_drew heap_drewN heap_setCell heap_onObj
attribute [local go_sem] tcells_size hcells_size tcells_get hcells_get tcells_one hcells_one hcells_table tcells_table hcells_all hcells_ctrl tcells_ctrl
attribute [local go_sem] nn2 nm2 nn3 nm3 nn4 nm4 nn5 nm5 nn6 nm6 nn7 nm7 nn8 nm8
attribute [local go_sem] nn2 nm2 nn3 nm3 nn4 nm4 nn5 nm5 nn6 nm6 nn7 nm7 nn8 nm8
attribute [local go_sem] workC_size workC_one workC_all workC_tab workC_g0 workC_g1 workC_g2 workC_i0 workC_i1 workC_i2 boxWork loadWork
attribute [local go_sem ↓] lrowWork
attribute [local irreducible] workC tcells
theorem work_ok {s : BitVec 64} {sl : Int} {t : Tab} (h : workOk s sl t = true) : mayT t s = true ∧ oddB t.count = false ∧ 0 ≤ sl ∧ sl ≤ 2 := by
  unfold workOk at h
  simp at h
  exact ⟨h.1.1, h.1.2, h.2.1, h.2.2⟩
set_option maxHeartbeats 2000000 in
set_option maxRecDepth 100000 in
theorem cells_yes (s : BitVec 64) (sl : Int) (t : Tab) (w : World) (h : workOk s sl t = true) : Calls Tryz.prog 53 #[.agg (workC s sl t)] w fun e w' => ∃ R, e = .returned (.tuple #[.slice (some ⟨R, 0, none⟩) 136 136, .bool true]) ∧ w.heap.size ≤ R ∧ w'.heap[R]? = some (.cells (wcells (workL sl t)) 22 (0, 0)) ∧ Ch [] w w' := by
  obtain ⟨hm, hodd, h0, h2⟩ := work_ok h
  have hf : flatT t = true := ((may_iff t s).1 hm).flat
  have hmk := fun w => run_make_row' (P := Tryz.prog) 53 22 (.int .u64 0) 8 Tryz.underlying53 infoU rfl .i64 .i64 136 (by omega) (by omega) w
  simp only [show ((136 : Nat) : Int) = 136 from rfl, zeros_cells, ← fillI_zero] at hmk
  obtain ⟨Z, hZ⟩ : ∃ Z, fillI 0 = Z := ⟨_, rfl⟩
  rw [hZ] at hmk
  have C0 : Ch [] w (w.alloc (.cells (workC s sl t) 88)) := (Ch.refl [] w).alloc _
  have b0 : (w.alloc (.cells (workC s sl t) 88)).heap[w.heap.size]? = some (.cells (workC s sl t) 88 (0, 0)) := by rw [heap_alloc, if_pos rfl]
  have M1 := fun w => check_any t s w
  rw [hm, if_pos rfl] at M1
  have T1 := fun w => words_row t hf w
  have L1 := fun w => cell_ok sl 0 h0 (by omega) (by omega) (by omega) w
  obtain ⟨B, hB⟩ : ∃ B : Nat, (16 + 40 * sl).toNat = B := ⟨_, rfl⟩
  have hBI : 16 + 40 * sl + 0 = (B : Int) := by omega
  have hBn : B + 40 ≤ 136 := by omega
  have hBI2 : (B : Int) ≤ 136 := by omega
  have hB0 : (0 : Int) ≤ B := by omega
  rw [hBI] at L1
  have hd : decide ((2 : Int) < sl) = false := by simp; omega
  have hrem := tmod2_64w t.count
  have hbit := bit64w t.count
  rw [hodd] at hbit
  have HL : Hid (workL sl t = (idxL 136).take B ++ (twords t ++ (idxL 136).drop (B + 40))) := Lib.hid (by unfold workL laidW; rw [hB])
  have HT := Lib.hid (twords_len t)
  clear h hf hm hodd hB hBI h2
  go_enter Tryz.func53, Tryz.ntmps53
  go_wp2_with fail
  obtain ⟨w0, hw0⟩ : ∃ W, w.alloc (.cells (workC s sl t) 88) = W := ⟨_, rfl⟩
  rw [hw0] at b0 C0 ⊢
  clear hw0
  refine (T1 _).mono ?_
  rintro e w1 ⟨R, c, cur, rfl, -, hel, m1, hc1⟩
  have HE := Lib.hid hel
  have b1 := hkeep hc1 b0
  have C1 := C0.trans hc1
  clear b0 C0 hc1 T1 hel
  go_wp2_with fail
  refine (L1 _).mono ?_
  rintro e w' ⟨rfl, rfl⟩
  go_wp2_with fail
  refine (M1 _).mono ?_
  rintro e w2 ⟨rfl, hc2⟩
  have b2 := hkeep hc2 b1
  have m2 := hkeep hc2 m1
  have C2 := C1.trans hc2
  clear b1 C1 m1 hc2 M1 L1
  go_wp2
  have hcA : Ch [] w2 (w2.alloc (.cells Z 22)) := (Ch.refl [] w2).alloc _
  have o3 : (w2.alloc (.cells Z 22)).heap[w2.heap.size]? = some (.cells Z 22 (0, 0)) := by rw [heap_alloc, if_pos rfl]
  have m3 := hkeep hcA m2
  have C3 := C2.trans hcA
  have hRO := blk_lt19 m2
  have hOw := C2.size
  clear b2 m2 C2 hcA
  obtain ⟨w3, hw3⟩ : ∃ W, w2.alloc (.cells Z 22) = W := ⟨_, rfl⟩
  rw [hw3] at o3 m3 C3 ⊢
  clear hw3
  obtain ⟨O, hO⟩ : ∃ O, w2.heap.size = O := ⟨_, rfl⟩
  rw [hO] at o3 hRO hOw ⊢
  clear hO
  subst hZ
  have HM3 := Lib.hid m3
  have HC3 := Lib.hid C3
  clear m3 C3
  go_loopw [56] (fun i wr => ∃ k : Nat, i = .int .i64 k ∧ k ≤ 136 ∧ wr.heap[O]? = some (.cells (fillI k) 22 (0, 0)) ∧ Ch [O] w3 wr) (fun i _ => 136 - (intOf i).toNat)
  case atStart => exact ⟨0, rfl, by omega, o3, Ch.refl _ _⟩
  case round =>
    obtain ⟨k, hk, hk6, ok, cr⟩ := hrel
    subst hk
    clear o3
    by_cases hlt : k < 136
    · have hI : (k : Int) < 136 := by omega
      have HS := Lib.hid (fillI_set k hlt)
      have hFk := fillI_at k hlt
      obtain ⟨F, hF⟩ : ∃ F, fillI k = F := ⟨_, rfl⟩
      rw [hF] at ok HS hFk
      clear hF
      go_wp2
      go_roundw
      case rel => exact ⟨k + 1, by go_num, hlt, by rw [← HS.out]; simp [go_sem, ok], cr.setCell (p := ⟨O, k, none⟩) (.inl (by simp)) _⟩
      case measure => simp [intOf]; omega
    · have hk136 : k = 136 := by omega
      have hI : ¬ (k : Int) < 136 := by omega
      have ok2 : wr.heap[O]? = some (.cells (wcells (idxL 136)) 22 (0, 0)) := by rw [ok, hk136, fillI_all]
      have mr : wr.heap[R]? = some (.cells cur 22 (0, 0)) := (cr.block R (blk_lt19 HM3.out) (by simp; omega)).trans HM3.out
      have Cr := HC3.out.trans2 cr (by intro t ht; right; simp at ht; omega)
      have hcp := copy_row O B (136 - B) (twords t) (idxL 136) R c cur wr ok2 mr HE.out HT.out (by rw [idxL_len]; exact hBn) (by omega) (136 - B)
      rw [← HL.out] at hcp
      have hh := setRow_heap wr O _ (wcells (workL sl t)) 22 (0, 0) ok2
      have C9 : Ch [] w (wr.setRow O (wcells (workL sl t))) := Cr.trans2 (setRow_ch wr O _) (by intro t ht; right; simp at ht; omega)
      have HH := Lib.hid hh
      have HC := Lib.hid C9
      clear ok ok2 mr Cr hh C9 hk136
      obtain ⟨WL, hWL⟩ : ∃ W, wcells (workL sl t) = W := ⟨_, rfl⟩
      rw [hWL] at hcp HH HC
      obtain ⟨w9, hw9⟩ : ∃ W, wr.setRow O WL = W := ⟨_, rfl⟩
      rw [hw9] at hcp HH HC
      clear hw9
      go_wp2
      refine bodyPost_ret (v := .tuple #[.slice (some ⟨O, 0, none⟩) 136 136, .bool true]) (by simp [results, Tryz.results53, go_sem]) rfl ⟨O, rfl, hOw, HH.out, HC.out⟩
end Go.Proofs.Hc
