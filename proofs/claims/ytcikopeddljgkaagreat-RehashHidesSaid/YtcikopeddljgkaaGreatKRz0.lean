/- Package layout: TableWords, what the words are. -/
import Derived.Test.YtcikopeddljgkaaGreatKHdn
import Derived.Test.YtcikopeddljgkaaGreatKHut
import Derived.Test.YtcikopeddljgkaaGreatKHh
import Derived.Test.YtcikopeddljgkaaGreatKHma
import Derived.Test.YtcikopeddljgkaaGreatKHmet
import Derived.Test.YtcikopeddljgkaaGreatKHnw
import Derived.Test.YtcikopeddljgkaaGreatKHpa
import Derived.Test.YtcikopeddljgkaaGreatKHpb
import Derived.Test.YtcikopeddljgkaaGreatKHr
import Derived.Test.YtcikopeddljgkaaGreatKHs
import Derived.Test.YtcikopeddljgkaaGreatKHcz
import Derived.Test.YtcikopeddljgkaaGreatKHtc
import Derived.Test.YtcikopeddljgkaaGreatKHtd
import Derived.Test.YtcikopeddljgkaaGreatKRn
import Derived.Test.YtcikopeddljgkaaGreatKHtj
import Derived.Test.YtcikopeddljgkaaGreatKHtm
import Derived.Test.YtcikopeddljgkaaGreatKRc
import Derived.Test.YtcikopeddljgkaaGreatKHtv
import Derived.Test.YtcikopeddljgkaaGreatKHtw
import Derived.Test.YtcikopeddljgkaaGreatKHnac
import Derived.Test.YtcikopeddljgkaaGreatKRg
import Derived.Test.YtcikopeddljgkaaGreatKRh
import Derived.Test.YtcikopeddljgkaaGreatKRp
import Derived.Below
import Derived.BigQuiet
import Derived.Deep.Draws
import Derived.Deep.Light
import Derived.Deep.OwnRows
import Derived.Deep.QuietTactic
import Derived.Deep.RegionHeld
import Derived.IntWalk
import Derived.Laws.AppendOwn
import Derived.Laws.CopyOwn
import Derived.Laws.CopyRow
import Derived.Laws.StructEq
import Derived.Laws.Tables
import Derived.Lib.AppendZerosOnto
import Derived.Lib.Hide
import Derived.Lib.Tables
import Derived.Lib.Walk
import Derived.LoopIn
import Derived.LoopN
import Derived.LoopNIn
import Derived.Maps.AppendAt
import Derived.Maps.Views
import Derived.OwnWalkIn
import Derived.RangeFuncBox
import Derived.RangeFuncCalls
import Derived.RangeFuncRecord
import Derived.RangeFuncSeq
import Derived.Recover
import Derived.RegionTactic
import Derived.ScopeJumps
import Derived.Shelf.Slices.Clone
import Derived.StillTail
import Derived.StillTailTactics
import Derived.TacticsInMore
import Derived.Test.YtcikopeddljgkaaGreatProg
import Derived.WalkKit
import Derived.WalkLawsBesides
import Derived.WalkMore
import Derived.WalkSpells
import Derived.Laws.EntriesVeiled
import Derived.OpenShut
import Derived.ProofKit
set_option linter.unusedSimpArgs false
set_option linter.unusedVariables false
namespace Go.Proofs.Hc
open Go.RowKit
attribute [local go_sem] wrap_u64 wrap_u8 bits_xor64 bits_and64 bits_or64 bits_not64 bits_xor8 bits_and8 bits_or8 signed64 signed8 ofInt_N BitVec.ofInt_add BitVec.ofInt_mul ofInt_sub' ofInt8_N64 ofInt64_N8 wide8 eqN neN shr_pow shr1 shr7 shr56
attribute [local go_sem high] bits_com64 shl_wrap
attribute [local go_sem] cell_heap ice_heap cellAt_cells iceAt_cells setAt_cells rowAt_cells canLay_cells laidAt_cells size_onObj size_setCell rowRes_some layRes_true
attribute [local go_sem] load26 load73 load23 store26 build73
attribute [local go_sem ↓] lrow26 lrow73 lrow23 srow26 zero26 brow73 heap_alloc heap_drew heap_drewN heap_setCell heap_onObj
attribute [local go_sem] tcells_size hcells_size tcells_get hcells_get tcells_one hcells_one hcells_table tcells_table hcells_all hcells_ctrl tcells_ctrl
attribute [local go_sem] nn2 nm2 nn3 nm3 nn4 nm4 nn5 nm5 nn6 nm6 nn7 nm7 nn8 nm8
attribute [local go_sem] nn2 nm2 nn3 nm3 nn4 nm4 nn5 nm5 nn6 nm6 nn7 nm7 nn8 nm8
attribute [local go_sem] box26 tcells_idx cell0 cell1 cell2 cell3 cell4
attribute [local go_sem] Oper.semAt_some make_func1
theorem run_append_fits_zeros2 {P : Program} (w : World) (t tn ty e : TypeId) (i : TypeInfo) (z : Value) (kq kn : IntKind) (ht : P.underlying t = some (.slice e)) (htn : P.underlying tn = some (.int kn)) (hi : P.info? e = some i) (hz : i.zero = some z)
    (hs1 : i.size = 1) (hzc : z.cells = #[z]) (hz1 : z.oneCell' = true) (q n cap k : Nat) (cur : Array Value) (T : TypeId) (hq : w.heap[q]? = some (.cells cur T (0, 0))) (hcur : cur.size = cap) (h0 : 0 < k) (hfit : n + k ≤ cap) (h63 : k * i.bytes ≤ 281474976710656) (hk : k ≤ 1000) :
    ∃ w', (Builtin.append_ #[t, tn] ty #[.slice (some ⟨q, 0, none⟩) n cap, .int kq k]).run P w = .ok (.slice (some ⟨q, 0, none⟩) (n + k) cap) w' ∧ w'.heap[q]? = some (.cells (List.take n cur.toList ++ List.replicate k z ++ List.drop (n + k) cur.toList).toArray T (0, 0)) ∧ Ch [q] w w' := by
  have hkn : k ≠ 0 := by omega
  have hw : IntKind.i64.wrap (k : Int) = k := by rw [IntKind.wrap_i64]; omega
  have hneg : ¬ ((k : Int) < 0) := by omega
  have h48i : ¬ (281474976710656 < (k : Int) * (i.bytes : Int)) := by
    rw [← Int.natCast_mul]
    omega
  have hst := run_storeCells_at (P := P) q n T (List.replicate k z) 0 cur w hq (by simp; omega) (fun v hv => by rw [(List.mem_replicate.1 hv).2]; exact hz1)
  have hadd : (⟨q, 0, none⟩ : Addr).add n = ⟨q, n, none⟩ := by unfold Addr.add; split <;> simp_all
  rw [Nat.add_zero, List.length_replicate] at hst
  have hh := setRow_heap w q cur (List.take n cur.toList ++ List.replicate k z ++ List.drop (n + k) cur.toList).toArray T (0, 0) hq
  refine ⟨w.setRow q (List.take n cur.toList ++ List.replicate k z ++ List.drop (n + k) cur.toList).toArray, ?_, hh, ?_⟩
  · generalize w.setRow q (List.take n cur.toList ++ List.replicate k z ++ List.drop (n + k) cur.toList).toArray = w' at *
    have hst' : (storeCells ⟨q, n, none⟩ (List.replicate k z)).run P w = .ok () w' := hst
    simp [Builtin.append_, run_underlying ht, run_underlying htn, sizeOf, typeInfo, zeroValue, hi, hz, hs1, asInt, asIntOf, hw, hkn, hneg, h48i, hfit, hzc, zeroCells_one, hadd, hst']
  · refine ⟨rfl, rfl, rfl, by simp [World.setRow], fun j hj hn => ?_⟩
    simp only [World.setRow, Array.getElem?_modify]
    rw [if_neg (fun e => hn (by simp [e]))]
set_option maxRecDepth 100000 in
theorem padded38_row2 (base : Nat) (v : Value) (xs : List Value) (w : World) (hbw : base ≤ w.heap.size) (hown : w.ownsRow base 22 1 v 38 xs) :
    Calls Tryz.prog 140 #[v] w fun e w' => ∃ R c cur, e = .returned (.slice (some ⟨R, 0, none⟩) 40 c) ∧ base ≤ R ∧ w'.heap[R]? = some (.cells cur 22 (0, 0)) ∧ (∀ (j : Nat) (u : Value), (xs ++ [U 0#64, U 0#64])[j]? = some u → cur[j]? = some u) ∧ 40 ≤ c ∧ Ch v.ownBlock.toList w w' := by
  obtain ⟨hlen, h⟩ := hown
  rcases h with ⟨_, h⟩ | ⟨q, cap, cur, rfl, hq, hb, h38, hcm, hsz, hx⟩
  · cases h
  obtain ⟨i0, hi, hz0, hz1, hz2⟩ := info_parts infoU
  have hsz' : cur.size = cap := by omega
  have hx' : List.take 38 cur.toList = xs := hx
  rcases Nat.lt_or_ge cap 40 with hlt | hge
  · go_enter Tryz.func140, Tryz.ntmps140
    go_wp2_with (at_builtin; refine Lib.wpList_append_run _ rfl _ _ 44 3 rfl _ _ rfl rfl _ _ (Lib.run_append_grow_zeros _ 44 3 _ 22 i0 (U 0#64) .i64 .i64 Tryz.underlying44 Tryz.underlying3 hi hz0 (some ⟨q, 0, none⟩) 38 cap (cur.toList.take 38) ?hold 2 (by omega) (by omega) (by omega) (by omega) (by omega) ?hfit) ?_)
    case hold =>
      have := run_firstCells_some (P := Tryz.prog) w.drew i0.size 38 ⟨q, 0, none⟩ 38 cap (cur.toList.take 38) (by simp; omega) (fun j u hj => by
        rw [Addr.add_lit, cell_heap, heap_drew, hb, Option.bind_some, cellAt_cells, Nat.zero_add]
        rw [List.getElem?_take] at hj
        split at hj
        · simpa using hj
        · cases hj)
      exact this
    case hfit =>
      have : cap = 38 ∨ cap = 39 := by omega
      rw [hz2]
      rcases this with rfl | rfl <;> decide
    go_ret
    refine ⟨_, _, _, rfl, hbw, by rw [heap_drew, heap_alloc, if_pos rfl], fun j u hj => ?_, ?hcap, (((Ch.refl [] w).drew).alloc _).of_nil⟩
    case hcap => exact grownCap_ge _ _ _ _
    rw [Array.getElem?_append]
    have hl : xs.length = 38 := hlen
    by_cases hj38 : j < 38
    · rw [List.getElem?_append_left (by omega)] at hj
      rw [if_pos (by simp; omega)]
      simpa using hj
    · rw [List.getElem?_append_right (by omega), hl] at hj
      rw [if_neg (by simp; omega)]
      have h2 : j - 38 < 2 := by have := (List.getElem?_eq_some_iff.1 hj).1; simpa using this
      rw [Array.getElem?_append, if_pos (by show j - xs.toArray.size < (Builtin.zeroCells #[U 0#64] 2).size; rw [zeroCells_one]; simp; omega)]
      show (Builtin.zeroCells #[U 0#64] 2)[j - xs.toArray.size]? = some u
      rw [zeroCells_one]
      rcases (show j = 38 ∨ j = 39 by omega) with rfl | rfl
      · simpa [hl] using hj
      · simpa [hl] using hj
  · obtain ⟨w2, hr2, hw2, hc2⟩ := run_append_fits_zeros2 (P := Tryz.prog) w 44 3 44 22 i0 (U 0#64) .i64 .i64 Tryz.underlying44 Tryz.underlying3 hi hz0 hz1 rfl rfl q 38 cap 2 cur 22 hb hsz' (by omega) (by omega) (by omega) (by omega)
    have HW2 := Lib.hid hw2
    clear hw2
    go_enter Tryz.func140, Tryz.ntmps140
    go_wp2_with (at_builtin; refine Lib.wpList_append_run _ rfl _ _ 44 3 rfl _ _ rfl rfl _ _ hr2 ?_)
    go_ret
    refine ⟨_, _, _, rfl, hq, HW2.out, fun j u hj => ?_, hge, hc2⟩
    rw [hx', List.getElem?_toArray, List.getElem?_append_left (by
      have h1 := (List.getElem?_eq_some_iff.1 hj).1
      have hl : xs.length = 38 := hlen
      simp at h1 ⊢; omega)]
    exact hj
theorem twords_cells (t : Tab) : ((#[U t.count, U (wd1 t), U (BitVec.ofInt 64 t.can), U (BitVec.ofInt 64 t.live)] : Array Value).extract 0 (0 + 4)).toList ++ ((tcells t).extract 5 (5 + 2)).toList ++ ((tcells t).extract 7 (7 + 16)).toList ++ ((tcells t).extract 23 (23 + 16)).toList ++ [U 0#64, U 0#64] = (twords t).map fun x => U x := by kernel_rfl
set_option maxRecDepth 100000 in
theorem words_row2 (t : Tab) (hf : flatT t = true) (w : World) : Calls Tryz.prog 74 #[.agg (tcells t)] w fun e w' => ∃ R c cur, e = .returned (.tuple #[.slice (some ⟨R, 0, none⟩) 40 c, I 0]) ∧ w.heap.size ≤ R ∧ WordsAt cur (twords t) ∧ 40 ≤ c ∧ w'.heap[R]? = some (.cells cur 22 (0, 0)) ∧ Ch [] w w' := by
  have F1 := fun w => flat_any t w
  rw [hf] at F1
  clear hf
  have HT := Lib.hid (twords_cells t)
  go_enter Tryz.func74, Tryz.ntmps74
  go_wp2_with (go_at_call 109; refine (F1 _).mono ?_; rintro e w1 ⟨rfl, hc1⟩; have hb1 : w1.heap[w.heap.size]? = some (.cells (tcells t) 26 (0, 0)) := (hc1.block _ (by simp) (by simp)).trans (by simp [go_sem]))
  obtain ⟨x0, hx0⟩ : ∃ x, N (BitVec.ofInt 64 t.depth ||| t.pre * 256#64) = x := ⟨_, rfl⟩
  obtain ⟨x1, hx1⟩ : ∃ x, N (BitVec.ofInt 64 t.can) = x := ⟨_, rfl⟩
  obtain ⟨x2, hx2⟩ : ∃ x, N (BitVec.ofInt 64 t.live) = x := ⟨_, rfl⟩
  rw [hx0, hx1, hx2]
  have HT : Hid (((#[U t.count, .int .u64 x0, .int .u64 x1, .int .u64 x2] : Array Value).extract 0 (0 + 4)).toList ++ ((tcells t).extract 5 (5 + 2)).toList ++ ((tcells t).extract 7 (7 + 16)).toList ++ ((tcells t).extract 23 (23 + 16)).toList ++ [U 0#64, U 0#64] = (twords t).map fun x => U x) := by
    rw [← hx0, ← hx1, ← hx2]
    exact HT
  clear hx0 hx1 hx2
  obtain ⟨W0, hW0⟩ : ∃ W0, w1.alloc (.cells #[U t.count, .int .u64 x0, .int .u64 x1, .int .u64 x2] 22) = W0 := ⟨_, rfl⟩
  have hsz := hc1.size
  simp only [World.size_alloc] at hsz
  have hC0 : Ch [] w W0 := by rw [← hW0]; exact (((Ch.refl [] w).alloc _).trans hc1).alloc _
  have b0 : W0.heap[w.heap.size]? = some (.cells (tcells t) 26 (0, 0)) := by rw [← hW0, heap_alloc, if_neg (by omega)]; exact hb1
  have b1 : W0.heap[w1.heap.size]? = some (.cells #[U t.count, .int .u64 x0, .int .u64 x1, .int .u64 x2] 22 (0, 0)) := by rw [← hW0]; simp [go_sem]
  have hn : w.heap.size < W0.heap.size ∧ w1.heap.size < W0.heap.size := by rw [← hW0]; simp; omega
  rw [hW0]
  clear hW0 hb1 hc1
  refine wp_region_gar_tail 7 (by kernel_rfl) (by kernel_rfl) ?_
  simp only [List.take_succ_cons, List.take_zero, List.drop_succ_cons, List.drop_zero]
  repeat (go_big_quiet_step (fail))
  refine wpQuiet_nil ?_
  rintro w2 ⟨g1, hw1⟩
  have hc1 : Ch [] W0 w2 := by rw [hw1]; exact g1.2
  clear hw1 g1
  have hz2 := hc1.size
  have d0 := (hc1.block _ hn.1 (by simp)).trans b0
  have d1 := (hc1.block _ hn.2 (by simp)).trans b1
  clear b0 b1
  go_wp2_with fail
  refine (concat4 w2.heap.size 4 2 16 16 w1.heap.size w.heap.size w.heap.size w.heap.size 0 5 7 23 ((#[U t.count, .int .u64 x0, .int .u64 x1, .int .u64 x2] : Array Value).extract 0 (0 + 4)).toList ((tcells t).extract 5 (5 + 2)).toList ((tcells t).extract 7 (7 + 16)).toList ((tcells t).extract 23 (23 + 16)).toList _ (by rw [heap_alloc, if_pos rfl])
         (part_len _ _ _ (by simp)) (part_len _ _ _ (by rw [tcells_size]; omega)) (part_len _ _ _ (by rw [tcells_size]; omega)) (part_len _ _ _ (by rw [tcells_size]; omega))
         ((rowAt_part d1 (by simp [allOne, Value.oneCell'])).ch ((Ch.refl [] w2).alloc _)) ((rowAt_part d0 (tcells_one t)).ch ((Ch.refl [] w2).alloc _)) ((rowAt_part d0 (tcells_one t)).ch ((Ch.refl [] w2).alloc _)) ((rowAt_part d0 (tcells_one t)).ch ((Ch.refl [] w2).alloc _))).mono ?_
  rintro e w3 ⟨v, rfl, hown, hc3⟩
  have hob := own_block hown
  obtain ⟨xs, hxs⟩ : ∃ xs, ((#[U t.count, .int .u64 x0, .int .u64 x1, .int .u64 x2] : Array Value).extract 0 (0 + 4)).toList ++ ((tcells t).extract 5 (5 + 2)).toList ++ ((tcells t).extract 7 (7 + 16)).toList ++ ((tcells t).extract 23 (23 + 16)).toList = xs := ⟨_, rfl⟩
  rw [hxs] at hown
  have HT2 : xs ++ [U 0#64, U 0#64] = (twords t).map fun x => U x := by rw [← hxs]; exact HT.out
  have P1 := padded38_row2 _ v _ w3 hc3.size hown
  have HT3 := Lib.hid HT2
  clear hown HT HT2
  go_wp2_with (go_at_call 140; refine P1.mono ?_; rintro e w4 ⟨R, c, cur, rfl, hR, hW, hel, hcap, hc4⟩; have HP := Lib.hid hcap; clear hcap; have HE := Lib.hid hel; clear hel)
  go_ret2
  have hC3 : Ch [] w w3 := ((hC0.trans hc1).alloc _).trans hc3
  simp only [World.size_alloc] at hob hR
  refine ⟨R, c, cur, rfl, by omega, fun j x hj => HE.out j _ (by rw [HT3.out, List.getElem?_map, hj]; rfl), HP.out, hW, ?_⟩
  exact hC3.trans2 hc4 (fun s hs => .inr (by have := hob s (by simpa using hs); omega))
end Go.Proofs.Hc
/- Law 20: cells. -/
namespace Go.Proofs.Hc
open Go.RowKit
set_option linter.unusedVariables false
attribute [local go_sem] wrap_u64 wrap_u8 bits_xor64 bits_and64 bits_or64 bits_not64 bits_xor8 bits_and8 bits_or8 signed64 signed8 ofInt_N BitVec.ofInt_add BitVec.ofInt_mul ofInt_sub' ofInt8_N64 ofInt64_N8 wide8 eqN neN shr_pow shr1 shr7 shr56
attribute [local go_sem high] bits_com64 shl_wrap
attribute [local go_sem] cell_heap ice_heap cellAt_cells iceAt_cells setAt_cells rowAt_cells canLay_cells laidAt_cells size_onObj size_setCell rowRes_some layRes_true
attribute [local go_sem] load26 load73 load23 store26 build73
attribute [local go_sem ↓] lrow26 lrow73 lrow23 srow26 zero26 brow73 heap_alloc heap_drew heap_drewN heap_setCell heap_onObj
attribute [local go_sem] tcells_size hcells_size tcells_get hcells_get tcells_one hcells_one hcells_table tcells_table hcells_all hcells_ctrl tcells_ctrl
attribute [local go_sem] nn2 nm2 nn3 nm3 nn4 nm4 nn5 nm5 nn6 nm6 nn7 nm7 nn8 nm8
attribute [local go_sem] nn2 nm2 nn3 nm3 nn4 nm4 nn5 nm5 nn6 nm6 nn7 nm7 nn8 nm8
attribute [local go_sem] box26 tcells_idx cell0 cell1 cell2 cell3 cell4 hcells_idx hcells_pop
/-- Cells that have a table's words in slab 0. -/
def cells20 (t : Tab) : List (BitVec 64) := List.replicate 16 0#64 ++ twords t
theorem cells20_len (t : Tab) : (cells20 t).length = 56 := by unfold cells20; rw [List.length_append, List.length_replicate, twords_len]
theorem cells20_get (t : Tab) (i : Nat) (h : i < 40) : (cells20 t)[16 + i]? = some (tword t i) := by
  unfold cells20
  rw [List.getElem?_append_right (by rw [List.length_replicate]; omega), List.length_replicate, show 16 + i - 16 = i by omega, twords_get t i h]
theorem made16 : (madeCells #[.int .u64 0] 16).toList.take (16 * 1) = List.replicate 16 (U 0#64) := by
  rw [zeros_cells, wcells_list, List.take_of_length_le (by simp), List.map_replicate]
attribute [local irreducible] tcells
theorem cells20_bad (t : Tab) (hf : flatT t = false) (w : World) : Calls Tryz.prog 33 #[.agg (tcells t)] w fun e w' => e = .returned (.slice none 0 0) ∧ Ch [] w w' := by
  have W1 := fun w => words_bad t hf w
  have C0 : Ch [] w (w.alloc (.cells (tcells t) 26)) := (Ch.refl [] w).alloc _
  clear hf
  go_enter Tryz.func33, Tryz.ntmps33
  go_wp2_with fail
  refine (W1 _).mono ?_
  rintro e w1 ⟨rfl, hc1⟩
  go_wp2
  go_ret
  exact ⟨rfl, C0.trans hc1⟩
set_option maxHeartbeats 1000000 in
set_option maxRecDepth 100000 in
theorem cells20_ok (t : Tab) (hf : flatT t = true) (w : World) : Calls Tryz.prog 33 #[.agg (tcells t)] w fun e w' => ∃ v, e = .returned v ∧ w'.ownsRow w.heap.size 22 1 v 56 ((cells20 t).map fun x => U x) ∧ Ch [] w w' := by
  obtain ⟨i0, hi, hz0, hz1, hz2⟩ := info_parts infoU
  have W1 := fun w => words_row2 t hf w
  have hm : ∀ w, (Instr.makeSlice 44 (.int .i64 16) (.int .i64 16)).run Tryz.prog w = .ok (.slice (some ⟨w.heap.size, 0, none⟩) 16 16) (w.alloc (.cells (madeCells #[.int .u64 0] 16) 22)) := fun w => run_make_row' (P := Tryz.prog) 44 22 (.int .u64 0) 8 Tryz.underlying44 infoU rfl .i64 .i64 16 (by omega) (by omega) w
  have HL := Lib.hid (show (cells20 t).map (fun x => U x) = (List.replicate 16 (U 0#64)) ++ (twords t).map (fun x => U x) by unfold cells20; rw [List.map_append, List.map_replicate])
  have htl : ((twords t).map (fun x => U x)).length = 40 := by rw [List.length_map, twords_len]
  have C0 : Ch [] w (w.alloc (.cells (tcells t) 26)) := (Ch.refl [] w).alloc _
  obtain ⟨xs, hxs⟩ : ∃ xs, twords t = xs := ⟨_, rfl⟩
  rw [hxs] at W1 HL htl
  obtain ⟨ys, hys⟩ : ∃ ys, (cells20 t).map (fun x => U x) = ys := ⟨_, rfl⟩
  rw [hys] at HL ⊢
  clear hf hxs hys
  go_enter Tryz.func33, Tryz.ntmps33
  go_wp2_with fail
  refine (W1 _).mono ?_
  rintro e w1 ⟨R, c, cur, rfl, hRw, hcur, hc40, hR, hc1⟩
  have C1 := C0.trans hc1
  have HC := Lib.hid hcur
  have hRn : ¬ R = w1.heap.size := by have := blk_lt19 hR; omega
  clear hc1 C0 W1 hcur
  have h0 : (w1.alloc (.cells (madeCells #[.int .u64 0] 16) 22)).ownsRow w.heap.size 22 1 (.slice (some ⟨w1.heap.size, 0, none⟩) 16 16) 16 (List.replicate 16 (U 0#64)) :=
    ⟨by simp, .inr ⟨w1.heap.size, 16, _, rfl, C1.size, by rw [heap_alloc, if_pos rfl], by omega, by unfold maxLen; omega, by rw [size_madeCells], made16⟩⟩
  have hR1 : (w1.alloc (.cells (madeCells #[.int .u64 0] 16) 22)).heap[R]? = some (.cells cur 22 (0, 0)) := by rw [heap_alloc, if_neg hRn]; exact hR
  have C2 : Ch [] w (w1.alloc (.cells (madeCells #[.int .u64 0] 16) 22)) := C1.alloc _
  have hce : ∀ j u, (xs.map fun x => U x)[j]? = some u → (w1.alloc (.cells (madeCells #[.int .u64 0] 16) 22)).cell? ((⟨R, 0, none⟩ : Addr).add j) = some u := fun j u hj => by
    rw [List.getElem?_map] at hj
    obtain ⟨y, hy, rfl⟩ := Option.map_eq_some_iff.1 hj
    rw [Addr.add_lit, cell_heap, hR1, Option.bind_some, cellAt_cells, Nat.zero_add]
    exact HC.out j y hy
  have C3 : Ch [] w1 (w1.alloc (.cells (madeCells #[.int .u64 0] 16) 22)) := (Ch.refl [] w1).alloc _
  have hsz1 : w.heap.size ≤ w1.heap.size := C1.size
  obtain ⟨W2, hW2⟩ : ∃ W, w1.alloc (.cells (madeCells #[.int .u64 0] 16) 22) = W := ⟨_, rfl⟩
  rw [hW2] at h0 hR1 C2 hce
  have hsW := C2.size
  have hm1 := hm w1
  rw [hW2] at hm1
  clear hm C3
  obtain ⟨v', w2, hrun, hown, hgr, _⟩ := run_append_own (P := Tryz.prog) W2 w.heap.size 44 44 22 i0 (U 0#64) 1 8 Tryz.underlying44 hi hz0 hz1 hz2 rfl (by decide) _ 16 _ h0 ⟨R, 0, none⟩ 40 c (xs.map fun x => U x) (by rw [htl]) hce (words_one xs) (by unfold maxLen; omega) (by omega) (by omega)
  have hc2 : Ch [] w w2 := C2.trans2 (Ch.of_grown (S := [w1.heap.size]) hgr (fun k hk => by simp [Value.ownBlock] at hk; simp [hk])) (by simp; omega)
  have HO := Lib.hid hown
  have HC2 := Lib.hid hc2
  clear hown hgr hc2 h0 hce hR1 C2 C1 HC hR hRn
  go_wp2_with (at_builtin; refine Lib.wpList_append_run _ rfl _ _ 44 44 rfl _ _ rfl rfl _ _ hrun ?_)
  go_ret
  exact ⟨v', rfl, by rw [HL.out]; exact HO.out, HC2.out⟩
end Go.Proofs.Hc
/- Law 20: the tables that the first look makes. Plain. -/
namespace Go.Proofs.Hc
open Go.RowKit
def ra0 : Tab := bareT 0#64 0 0#64
def ra1 : Tab := fillT ra0 0#64 1#64 10#64 0
def ra2 : Tab := fillT ra1 0#64 2#64 20#64 8
def ra3 : Tab := dropT ra2 0
def ra6 : Tab := normT { ra3 with count := 6#64 }
def ra7 : Tab := normT { ra3 with count := 7#64 }
theorem ra_new : newE 0 0#64 = .ok ra0 := by rw [newE, if_neg (by decide)]; rfl
theorem ra_may0 : mayT ra0 0#64 = true := by decide +kernel
theorem ra_place1 : placeT ra0 0#64 1#64 = .ok 0 := by kernel_rfl
theorem ra_place2 : placeT ra1 0#64 2#64 = .ok 8 := by kernel_rfl
theorem ra_puts : laidT 0#64 ra0 [(1#64, 10#64), (2#64, 20#64)] = .ok ra2 := by
  have e1 : fillT ra0 0#64 1#64 10#64 0 = ra1 := by rw [ra1]
  have e2 : fillT ra1 0#64 2#64 20#64 8 = ra2 := by rw [ra2]
  rw [laidT_ok (p := (1#64, 10#64)) ra_place1, e1, laidT_ok (p := (2#64, 20#64)) ra_place2, e2, laidT_nil]
theorem ra_may2 : mayT ra2 0#64 = true := by decide +kernel
theorem ra_found : (foundE ra2 0#64 1#64).map (fun y => y.1) = .ok 0 := by kernel_rfl
theorem ra_drop : dropE ra2 0#64 1#64 = .ok ⟨ra3, 0, 0⟩ := by
  have h := ra_found
  unfold dropE
  cases hf : foundE ra2 0#64 1#64 with
  | error e => rw [hf] at h; cases h
  | ok y =>
    rw [hf] at h
    obtain ⟨a, b⟩ := y
    have h : a = 0 := by injection h
    subst h
    have e : dropT ra2 0 = ra3 := by rw [ra3]
    show Except.ok (At.mk (dropT ra2 0) ((0 : Nat) : Int) 0) = _
    rw [e]
    rfl
theorem ra_flat6 : flatT ra6 = true := by decide +kernel
theorem ra_flat7 : flatT ra7 = true := by decide +kernel
theorem ra_may6 : mayT ra6 0#64 = true := by decide +kernel
theorem ra_zero : mayT zeroT 0#64 = false := by decide +kernel
def ra8 : Tab := okOr (anewT ra6 0#64)
theorem ra_anew : anewT ra6 0#64 = .ok ra8 := by
  obtain ⟨x, hx⟩ := anew_ok ((may_iff _ _).1 ra_may6)
  have hx' : anewT ra6 0#64 = .ok x := by unfold anewT; exact hx.eq
  unfold ra8
  rw [hx', okOr_ok]
def ra9 : Tab := normT { ra8 with count := 8#64 }
theorem ra_may9 : mayT ra9 0#64 = true := by decide +kernel
theorem ra_pairs9 : pairsT ra9 = [(2#64, 20#64)] := by decide +kernel
theorem ra_flat8 : flatT { ra8 with count := 8#64 } = true := by decide +kernel
theorem ra_run6 : RunsL (cells20 ra6) (firstL 0 0 0#64) 81 (laidW (cells20 ra6) 16 { ra8 with count := 8#64 }) ⟨5, 0, 0, 0#64, 6#64, 40, tword ra8, false⟩ :=
  rehash_good (t := ra6) (by decide) (by decide) (by rw [cells20_len]; omega) ra_flat6 (normT_norm _) (fun i h => cells20_get ra6 i h) (by decide +kernel) ra_may6 ra_anew
theorem ra_run7 : RunsL (cells20 ra7) (firstL 0 0 0#64) 1 (cells20 ra7) ⟨6, 0, 0, 0#64, 0#64, 0, fun _ => 0#64, false⟩ :=
  rehash_odd (t := ra7) (by decide) (by decide) (cells20_get ra7 0 (by omega)) (by decide +kernel)
theorem ra_cellsz : cells20 zeroT = List.replicate 56 0#64 := by decide +kernel
theorem ra_normz : NormT zeroT := ⟨fun _ _ => rfl, fun _ _ => rfl, fun _ _ => rfl⟩
theorem ra_runz : RunsL (List.replicate 56 0#64) (firstL 0 0 0#64) 42 ((List.replicate 56 0#64).set 16 2#64) ⟨5, 0, 0, 0#64, 0#64, 40, tword zeroT, true⟩ := by
  rw [← ra_cellsz]
  exact rehash_bad (t := zeroT) (by decide) (by decide) (by rw [cells20_len]; omega) (by decide +kernel) ra_normz (fun i h => cells20_get zeroT i h) (by decide +kernel) ra_zero
end Go.Proofs.Hc
