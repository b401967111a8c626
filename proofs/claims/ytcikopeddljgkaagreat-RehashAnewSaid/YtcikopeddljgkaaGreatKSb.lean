/- One who writes, in cells that hold a table: how the key is looked for. Plain law, no program in sight. -/
import Derived.Test.YtcikopeddljgkaaGreatKHcb
import Derived.Test.YtcikopeddljgkaaGreatKHdb
import Derived.Test.YtcikopeddljgkaaGreatKHdv
import Derived.Test.YtcikopeddljgkaaGreatKHdn
import Derived.Test.YtcikopeddljgkaaGreatKHmet
import Derived.Test.YtcikopeddljgkaaGreatKHpb
import Derived.Test.YtcikopeddljgkaaGreatKHr
import Derived.Test.YtcikopeddljgkaaGreatKHs
import Derived.Test.YtcikopeddljgkaaGreatKHtr2
import Derived.Test.YtcikopeddljgkaaGreatKRb
import Derived.Below
import Derived.BigQuiet
import Derived.Deep.Draws
import Derived.Deep.Light
import Derived.Deep.OwnRows
import Derived.Deep.QuietTactic
import Derived.Deep.RegionHeld
import Derived.IntWalk
import Derived.Laws.CopyOwn
import Derived.Laws.CopyRow
import Derived.Laws.StructEq
import Derived.Laws.Tables
import Derived.Lib.AppendZerosOnto
import Derived.Lib.Hide
import Derived.Lib.Tables
import Derived.Lib.Walk
import Derived.LoopIn
import Derived.LoopN
import Derived.LoopNIn
import Derived.Maps.AppendAt
import Derived.Maps.Views
import Derived.OwnWalkIn
import Derived.RangeFuncBox
import Derived.RangeFuncCalls
import Derived.RangeFuncRecord
import Derived.RangeFuncSeq
import Derived.Recover
import Derived.RegionTactic
import Derived.ScopeJumps
import Derived.Shelf.Slices.Clone
import Derived.StillTail
import Derived.StillTailTactics
import Derived.TacticsInMore
import Derived.Test.YtcikopeddljgkaaGreatProg
import Derived.WalkKit
import Derived.WalkLawsBesides
import Derived.WalkMore
import Derived.WalkSpells
import Derived.Laws.AppendOwn
import Derived.ChangeKeysEq
import Derived.Deep.Slices
import Derived.Laws.EntriesVeiled
import Derived.OpenShut
import Derived.ProofKit
set_option linter.unusedSimpArgs false
set_option linter.unusedVariables false
namespace Go.Proofs.Hc
open Go.RowKit
/-- The same call, by the same hash, in the same slab. -/
structure Alike (p q : PenT) : Prop where
  sl : p.sl = q.sl
  op : p.op = q.op
  key : p.key = q.key
  a : p.a = q.a
  b : p.b = q.b
  hash : p.hash = q.hash
  count : p.count = q.count
theorem Alike.refl (p : PenT) : Alike p p := ⟨rfl, rfl, rfl, rfl, rfl, rfl, rfl⟩
theorem Alike.trans {p q r : PenT} (h : Alike p q) (g : Alike q r) : Alike p r := ⟨h.sl.trans g.sl, h.op.trans g.op, h.key.trans g.key, h.a.trans g.a, h.b.trans g.b, h.hash.trans g.hash, h.count.trans g.count⟩
section
variable {l l' : List (BitVec 64)} {p p' : PenT} {k : Nat}
theorem RunsTo.load (h : RunsTo l p k l' p') (h0 : 0 ≤ p.ph) (h5 : p.ph ≤ 5) {w : BitVec 64} (hw : l[(16 + 40 * p.sl + wordP p).toNat]? = some w) : ∃ k1, k = k1 + 1 ∧ RunsTo l (takeP p w) k1 l' p' := by
  rcases h.inv with ⟨h13, _⟩ | ⟨a, y, k1, _, hk, ha, hy, hr⟩
  · omega
  · have e : a = ⟨1, 16 + 40 * p.sl + wordP p, 0#64⟩ := by
      have hp := needP_some ha
      unfold needP at ha
      rw [if_pos (by simp [hp.1, hp.2]), if_neg (by omega)] at ha
      have ha := (Option.some.inj ha).symm
      simpa only [show ¬ 5 < p.ph by omega, if_false] using ha
    subst e
    have e2 : doP l ⟨1, 16 + 40 * p.sl + wordP p, 0#64⟩ = some (l, w) := by
      unfold doP; dsimp only; rw [hw]; rfl
    rw [e2] at hy
    have hy := Option.some.inj hy
    subst hy
    exact ⟨k1, hk, hr⟩
theorem takeP_store {p : PenT} (h6 : 6 ≤ p.ph) (w : BitVec 64) : takeP p w = { p with ph := nextP (wantsP p) p.ph } := by
  unfold takeP
  rw [if_neg (by omega), if_neg (by omega), if_neg (by omega), if_neg (by omega), if_neg (by omega), if_neg (by omega)]
theorem RunsTo.store (h : RunsTo l p k l' p') (h6 : 6 ≤ p.ph) (h13 : p.ph ≤ 13) (h12 : p.ph ≠ 12) : ∃ k1, k = k1 + 1 ∧ RunsTo (l.set (16 + 40 * p.sl + wordP p).toNat (whatP p)) { p with ph := nextP (wantsP p) p.ph } k1 l' p' := by
  rcases h.inv with ⟨h13, _⟩ | ⟨a, y, k1, _, hk, ha, hy, hr⟩
  · omega
  · have e : a = ⟨2, 16 + 40 * p.sl + wordP p, whatP p⟩ := by
      have hp := needP_some ha
      unfold needP at ha
      rw [if_pos (by simp [hp.1, hp.2]), if_neg (by omega)] at ha
      have ha := (Option.some.inj ha).symm
      simpa only [show 5 < p.ph by omega, if_true] using ha
    subst e
    unfold doP at hy
    dsimp only at hy
    split at hy
    · cases hy
    · have hy := Option.some.inj hy
      rw [if_neg (by decide), if_pos rfl] at hy
      subst hy
      rw [takeP_store h6] at hr
      exact ⟨k1, hk, hr⟩
theorem RunsTo.add (h : RunsTo l p k l' p') (h12 : p.ph = 12) {x : BitVec 64} (hx : l[1]? = some x) : ∃ k1, k = k1 + 1 ∧ RunsTo (l.set 1 (x + byP (wantsP p))) { p with ph := nextP (wantsP p) p.ph } k1 l' p' := by
  rcases h.inv with ⟨h13, _⟩ | ⟨a, y, k1, _, hk, ha, hy, hr⟩
  · omega
  · have e : a = ⟨4, 1, byP (wantsP p)⟩ := by
      have hp := needP_some ha
      unfold needP at ha
      rw [if_pos (by simp [hp.1, hp.2]), if_pos h12] at ha
      exact (Option.some.inj ha).symm
    subst e
    have e2 : doP l ⟨4, 1, byP (wantsP p)⟩ = some (l.set 1 (x + byP (wantsP p)), x) := by
      unfold doP
      dsimp only
      rw [show (1 : Int).toNat = 1 by rfl, hx]
      dsimp only
      rw [if_neg (by decide), if_neg (by decide)]
    rw [e2] at hy
    have hy := Option.some.inj hy
    subst hy
    rw [takeP_store (by omega)] at hr
    exact ⟨k1, hk, hr⟩
end
end Go.Proofs.Hc
/- Package layout: TableWords, what the words are. -/
namespace Go.Proofs.Hc
open Go.RowKit
attribute [local go_sem] wrap_u64 wrap_u8 bits_xor64 bits_and64 bits_or64 bits_not64 bits_xor8 bits_and8 bits_or8 signed64 signed8 ofInt_N BitVec.ofInt_add BitVec.ofInt_mul ofInt_sub' ofInt8_N64 ofInt64_N8 wide8 eqN neN shr_pow shr1 shr7 shr56
attribute [local go_sem high] bits_com64 shl_wrap
attribute [local go_sem] cell_heap ice_heap cellAt_cells iceAt_cells setAt_cells rowAt_cells canLay_cells laidAt_cells size_onObj size_setCell rowRes_some layRes_true
attribute [local go_sem] load26 load73 load23 store26 build73
attribute [local go_sem ↓] lrow26 lrow73 lrow23 srow26 zero26 brow73 heap_alloc heap_drew heap_drewN heap_setCell heap_onObj
attribute [local go_sem] tcells_size hcells_size tcells_get hcells_get tcells_one hcells_one hcells_table tcells_table hcells_all hcells_ctrl tcells_ctrl
attribute [local go_sem] nn2 nm2 nn3 nm3 nn4 nm4 nn5 nm5 nn6 nm6 nn7 nm7 nn8 nm8
attribute [local go_sem] nn2 nm2 nn3 nm3 nn4 nm4 nn5 nm5 nn6 nm6 nn7 nm7 nn8 nm8
attribute [local go_sem] box26 tcells_idx cell0 cell1 cell2 cell3 cell4
attribute [local go_sem] Oper.semAt_some make_func1
theorem run_append_fits_zeros2 {P : Program} (w : World) (t tn ty e : TypeId) (i : TypeInfo) (z : Value) (kq kn : IntKind) (ht : P.underlying t = some (.slice e)) (htn : P.underlying tn = some (.int kn)) (hi : P.info? e = some i) (hz : i.zero = some z)
    (hs1 : i.size = 1) (hzc : z.cells = #[z]) (hz1 : z.oneCell' = true) (q n cap k : Nat) (cur : Array Value) (T : TypeId) (hq : w.heap[q]? = some (.cells cur T (0, 0))) (hcur : cur.size = cap) (h0 : 0 < k) (hfit : n + k ≤ cap) (h63 : k * i.bytes ≤ 281474976710656) (hk : k ≤ 1000) :
    ∃ w', (Builtin.append_ #[t, tn] ty #[.slice (some ⟨q, 0, none⟩) n cap, .int kq k]).run P w = .ok (.slice (some ⟨q, 0, none⟩) (n + k) cap) w' ∧ w'.heap[q]? = some (.cells (List.take n cur.toList ++ List.replicate k z ++ List.drop (n + k) cur.toList).toArray T (0, 0)) ∧ Ch [q] w w' := by
  have hkn : k ≠ 0 := by omega
  have hw : IntKind.i64.wrap (k : Int) = k := by rw [IntKind.wrap_i64]; omega
  have hneg : ¬ ((k : Int) < 0) := by omega
  have h48i : ¬ (281474976710656 < (k : Int) * (i.bytes : Int)) := by
    rw [← Int.natCast_mul]
    omega
  have hst := run_storeCells_at (P := P) q n T (List.replicate k z) 0 cur w hq (by simp; omega) (fun v hv => by rw [(List.mem_replicate.1 hv).2]; exact hz1)
  have hadd : (⟨q, 0, none⟩ : Addr).add n = ⟨q, n, none⟩ := by unfold Addr.add; split <;> simp_all
  rw [Nat.add_zero, List.length_replicate] at hst
  have hh := setRow_heap w q cur (List.take n cur.toList ++ List.replicate k z ++ List.drop (n + k) cur.toList).toArray T (0, 0) hq
  refine ⟨w.setRow q (List.take n cur.toList ++ List.replicate k z ++ List.drop (n + k) cur.toList).toArray, ?_, hh, ?_⟩
  · generalize w.setRow q (List.take n cur.toList ++ List.replicate k z ++ List.drop (n + k) cur.toList).toArray = w' at *
    have hst' : (storeCells ⟨q, n, none⟩ (List.replicate k z)).run P w = .ok () w' := hst
    simp [Builtin.append_, run_underlying ht, run_underlying htn, sizeOf, typeInfo, zeroValue, hi, hz, hs1, asInt, asIntOf, hw, hkn, hneg, h48i, hfit, hzc, zeroCells_one, hadd, hst']
  · refine ⟨rfl, rfl, rfl, by simp [World.setRow], fun j hj hn => ?_⟩
    simp only [World.setRow, Array.getElem?_modify]
    rw [if_neg (fun e => hn (by simp [e]))]
set_option maxRecDepth 100000 in
theorem padded38_row2 (base : Nat) (v : Value) (xs : List Value) (w : World) (hbw : base ≤ w.heap.size) (hown : w.ownsRow base 22 1 v 38 xs) :
    Calls Tryz.prog 140 #[v] w fun e w' => ∃ R c cur, e = .returned (.slice (some ⟨R, 0, none⟩) 40 c) ∧ base ≤ R ∧ w'.heap[R]? = some (.cells cur 22 (0, 0)) ∧ (∀ (j : Nat) (u : Value), (xs ++ [U 0#64, U 0#64])[j]? = some u → cur[j]? = some u) ∧ 40 ≤ c ∧ Ch v.ownBlock.toList w w' := by
  obtain ⟨hlen, h⟩ := hown
  rcases h with ⟨_, h⟩ | ⟨q, cap, cur, rfl, hq, hb, h38, hcm, hsz, hx⟩
  · cases h
  obtain ⟨i0, hi, hz0, hz1, hz2⟩ := info_parts infoU
  have hsz' : cur.size = cap := by omega
  have hx' : List.take 38 cur.toList = xs := hx
  rcases Nat.lt_or_ge cap 40 with hlt | hge
  · go_enter Tryz.func140, Tryz.ntmps140
    go_wp2_with (at_builtin; refine Lib.wpList_append_run _ rfl _ _ 44 3 rfl _ _ rfl rfl _ _ (Lib.run_append_grow_zeros _ 44 3 _ 22 i0 (U 0#64) .i64 .i64 Tryz.underlying44 Tryz.underlying3 hi hz0 (some ⟨q, 0, none⟩) 38 cap (cur.toList.take 38) ?hold 2 (by omega) (by omega) (by omega) (by omega) (by omega) ?hfit) ?_)
    case hold =>
      have := run_firstCells_some (P := Tryz.prog) w.drew i0.size 38 ⟨q, 0, none⟩ 38 cap (cur.toList.take 38) (by simp; omega) (fun j u hj => by
        rw [Addr.add_lit, cell_heap, heap_drew, hb, Option.bind_some, cellAt_cells, Nat.zero_add]
        rw [List.getElem?_take] at hj
        split at hj
        · simpa using hj
        · cases hj)
      exact this
    case hfit =>
      have : cap = 38 ∨ cap = 39 := by omega
      rw [hz2]
      rcases this with rfl | rfl <;> decide
    go_ret
    refine ⟨_, _, _, rfl, hbw, by rw [heap_drew, heap_alloc, if_pos rfl], fun j u hj => ?_, ?hcap, (((Ch.refl [] w).drew).alloc _).of_nil⟩
    case hcap => exact grownCap_ge _ _ _ _
    rw [Array.getElem?_append]
    have hl : xs.length = 38 := hlen
    by_cases hj38 : j < 38
    · rw [List.getElem?_append_left (by omega)] at hj
      rw [if_pos (by simp; omega)]
      simpa using hj
    · rw [List.getElem?_append_right (by omega), hl] at hj
      rw [if_neg (by simp; omega)]
      have h2 : j - 38 < 2 := by have := (List.getElem?_eq_some_iff.1 hj).1; simpa using this
      rw [Array.getElem?_append, if_pos (by show j - xs.toArray.size < (Builtin.zeroCells #[U 0#64] 2).size; rw [zeroCells_one]; simp; omega)]
      show (Builtin.zeroCells #[U 0#64] 2)[j - xs.toArray.size]? = some u
      rw [zeroCells_one]
      rcases (show j = 38 ∨ j = 39 by omega) with rfl | rfl
      · simpa [hl] using hj
      · simpa [hl] using hj
  · obtain ⟨w2, hr2, hw2, hc2⟩ := run_append_fits_zeros2 (P := Tryz.prog) w 44 3 44 22 i0 (U 0#64) .i64 .i64 Tryz.underlying44 Tryz.underlying3 hi hz0 hz1 rfl rfl q 38 cap 2 cur 22 hb hsz' (by omega) (by omega) (by omega) (by omega)
    have HW2 := Lib.hid hw2
    clear hw2
    go_enter Tryz.func140, Tryz.ntmps140
    go_wp2_with (at_builtin; refine Lib.wpList_append_run _ rfl _ _ 44 3 rfl _ _ rfl rfl _ _ hr2 ?_)
    go_ret
    refine ⟨_, _, _, rfl, hq, HW2.out, fun j u hj => ?_, hge, hc2⟩
    rw [hx', List.getElem?_toArray, List.getElem?_append_left (by
      have h1 := (List.getElem?_eq_some_iff.1 hj).1
      have hl : xs.length = 38 := hlen
      simp at h1 ⊢; omega)]
    exact hj
theorem twords_cells (t : Tab) : ((#[U t.count, U (wd1 t), U (BitVec.ofInt 64 t.can), U (BitVec.ofInt 64 t.live)] : Array Value).extract 0 (0 + 4)).toList ++ ((tcells t).extract 5 (5 + 2)).toList ++ ((tcells t).extract 7 (7 + 16)).toList ++ ((tcells t).extract 23 (23 + 16)).toList ++ [U 0#64, U 0#64] = (twords t).map fun x => U x := by kernel_rfl
set_option maxRecDepth 100000 in
theorem words_row2 (t : Tab) (hf : flatT t = true) (w : World) : Calls Tryz.prog 74 #[.agg (tcells t)] w fun e w' => ∃ R c cur, e = .returned (.tuple #[.slice (some ⟨R, 0, none⟩) 40 c, I 0]) ∧ w.heap.size ≤ R ∧ WordsAt cur (twords t) ∧ 40 ≤ c ∧ w'.heap[R]? = some (.cells cur 22 (0, 0)) ∧ Ch [] w w' := by
  have F1 := fun w => flat_any t w
  rw [hf] at F1
  clear hf
  have HT := Lib.hid (twords_cells t)
  go_enter Tryz.func74, Tryz.ntmps74
  go_wp2_with (go_at_call 109; refine (F1 _).mono ?_; rintro e w1 ⟨rfl, hc1⟩; have hb1 : w1.heap[w.heap.size]? = some (.cells (tcells t) 26 (0, 0)) := (hc1.block _ (by simp) (by simp)).trans (by simp [go_sem]))
  obtain ⟨x0, hx0⟩ : ∃ x, N (BitVec.ofInt 64 t.depth ||| t.pre * 256#64) = x := ⟨_, rfl⟩
  obtain ⟨x1, hx1⟩ : ∃ x, N (BitVec.ofInt 64 t.can) = x := ⟨_, rfl⟩
  obtain ⟨x2, hx2⟩ : ∃ x, N (BitVec.ofInt 64 t.live) = x := ⟨_, rfl⟩
  rw [hx0, hx1, hx2]
  have HT : Hid (((#[U t.count, .int .u64 x0, .int .u64 x1, .int .u64 x2] : Array Value).extract 0 (0 + 4)).toList ++ ((tcells t).extract 5 (5 + 2)).toList ++ ((tcells t).extract 7 (7 + 16)).toList ++ ((tcells t).extract 23 (23 + 16)).toList ++ [U 0#64, U 0#64] = (twords t).map fun x => U x) := by
    rw [← hx0, ← hx1, ← hx2]
    exact HT
  clear hx0 hx1 hx2
  obtain ⟨W0, hW0⟩ : ∃ W0, w1.alloc (.cells #[U t.count, .int .u64 x0, .int .u64 x1, .int .u64 x2] 22) = W0 := ⟨_, rfl⟩
  have hsz := hc1.size
  simp only [World.size_alloc] at hsz
  have hC0 : Ch [] w W0 := by rw [← hW0]; exact (((Ch.refl [] w).alloc _).trans hc1).alloc _
  have b0 : W0.heap[w.heap.size]? = some (.cells (tcells t) 26 (0, 0)) := by rw [← hW0, heap_alloc, if_neg (by omega)]; exact hb1
  have b1 : W0.heap[w1.heap.size]? = some (.cells #[U t.count, .int .u64 x0, .int .u64 x1, .int .u64 x2] 22 (0, 0)) := by rw [← hW0]; simp [go_sem]
  have hn : w.heap.size < W0.heap.size ∧ w1.heap.size < W0.heap.size := by rw [← hW0]; simp; omega
  rw [hW0]
  clear hW0 hb1 hc1
  refine wp_region_gar_tail 7 (by kernel_rfl) (by kernel_rfl) ?_
  simp only [List.take_succ_cons, List.take_zero, List.drop_succ_cons, List.drop_zero]
  repeat (go_big_quiet_step (fail))
  refine wpQuiet_nil ?_
  rintro w2 ⟨g1, hw1⟩
  have hc1 : Ch [] W0 w2 := by rw [hw1]; exact g1.2
  clear hw1 g1
  have hz2 := hc1.size
  have d0 := (hc1.block _ hn.1 (by simp)).trans b0
  have d1 := (hc1.block _ hn.2 (by simp)).trans b1
  clear b0 b1
  go_wp2_with fail
  refine (concat4 w2.heap.size 4 2 16 16 w1.heap.size w.heap.size w.heap.size w.heap.size 0 5 7 23 ((#[U t.count, .int .u64 x0, .int .u64 x1, .int .u64 x2] : Array Value).extract 0 (0 + 4)).toList ((tcells t).extract 5 (5 + 2)).toList ((tcells t).extract 7 (7 + 16)).toList ((tcells t).extract 23 (23 + 16)).toList _ (by rw [heap_alloc, if_pos rfl])
         (part_len _ _ _ (by simp)) (part_len _ _ _ (by rw [tcells_size]; omega)) (part_len _ _ _ (by rw [tcells_size]; omega)) (part_len _ _ _ (by rw [tcells_size]; omega))
         ((rowAt_part d1 (by simp [allOne, Value.oneCell'])).ch ((Ch.refl [] w2).alloc _)) ((rowAt_part d0 (tcells_one t)).ch ((Ch.refl [] w2).alloc _)) ((rowAt_part d0 (tcells_one t)).ch ((Ch.refl [] w2).alloc _)) ((rowAt_part d0 (tcells_one t)).ch ((Ch.refl [] w2).alloc _))).mono ?_
  rintro e w3 ⟨v, rfl, hown, hc3⟩
  have hob := own_block hown
  obtain ⟨xs, hxs⟩ : ∃ xs, ((#[U t.count, .int .u64 x0, .int .u64 x1, .int .u64 x2] : Array Value).extract 0 (0 + 4)).toList ++ ((tcells t).extract 5 (5 + 2)).toList ++ ((tcells t).extract 7 (7 + 16)).toList ++ ((tcells t).extract 23 (23 + 16)).toList = xs := ⟨_, rfl⟩
  rw [hxs] at hown
  have HT2 : xs ++ [U 0#64, U 0#64] = (twords t).map fun x => U x := by rw [← hxs]; exact HT.out
  have P1 := padded38_row2 _ v _ w3 hc3.size hown
  have HT3 := Lib.hid HT2
  clear hown HT HT2
  go_wp2_with (go_at_call 140; refine P1.mono ?_; rintro e w4 ⟨R, c, cur, rfl, hR, hW, hel, hcap, hc4⟩; have HP := Lib.hid hcap; clear hcap; have HE := Lib.hid hel; clear hel)
  go_ret2
  have hC3 : Ch [] w w3 := ((hC0.trans hc1).alloc _).trans hc3
  simp only [World.size_alloc] at hob hR
  refine ⟨R, c, cur, rfl, by omega, fun j x hj => HE.out j _ (by rw [HT3.out, List.getElem?_map, hj]; rfl), HP.out, hW, ?_⟩
  exact hC3.trans2 hc4 (fun s hs => .inr (by have := hob s (by simpa using hs); omega))
end Go.Proofs.Hc
/- Law 20: cells with more behind them. -/
namespace Go.Proofs.Hc
open Go.RowKit
attribute [local go_sem] wrap_u64 wrap_u8 bits_xor64 bits_and64 bits_or64 bits_not64 bits_xor8 bits_and8 bits_or8 signed64 signed8 ofInt_N BitVec.ofInt_add BitVec.ofInt_mul ofInt_sub' ofInt8_N64 ofInt64_N8 wide8 eqN neN shr_pow shr1 shr7 shr56
attribute [local go_sem high] bits_com64 shl_wrap
attribute [local go_sem] cell_heap ice_heap cellAt_cells iceAt_cells setAt_cells rowAt_cells canLay_cells laidAt_cells size_onObj size_setCell rowRes_some layRes_true
attribute [local go_sem] load26 load73 load23 store26 build73
attribute [local go_sem ↓] lrow26 lrow73 lrow23 srow26 zero26 brow73 heap_alloc heap_drew heap_drewN heap_setCell heap_onObj
attribute [local go_sem] tcells_size hcells_size tcells_get hcells_get tcells_one hcells_one hcells_table tcells_table hcells_all hcells_ctrl tcells_ctrl
attribute [local go_sem] nn2 nm2 nn3 nm3 nn4 nm4 nn5 nm5 nn6 nm6 nn7 nm7 nn8 nm8
attribute [local go_sem] nn2 nm2 nn3 nm3 nn4 nm4 nn5 nm5 nn6 nm6 nn7 nm7 nn8 nm8
theorem row_out {w : World} {base : Nat} {v : Value} {L : List (BitVec 64)} {n : Nat} (hn : L.length = n) (h1 : 1 ≤ n) (ho : w.ownsRow base 22 1 v n (L.map fun x => U x)) :
    ∃ R c cur, v = .slice (some ⟨R, 0, none⟩) n c ∧ base ≤ R ∧ n ≤ c ∧ WordsAt cur L ∧ w.heap[R]? = some (.cells cur 22 (0, 0)) := by
  obtain ⟨hlen, ⟨_, h0⟩ | ⟨r, c, cur, rfl, hb, hW, h56, hcm, hsz, hel⟩⟩ := ho
  · omega
  · refine ⟨r, c, cur, rfl, hb, h56, fun j x hj => ?_, hW⟩
    have hjn : j < n := by have := (List.getElem?_eq_some_iff.1 hj).1; omega
    have h1 : (L.map fun x => U x)[j]? = some (U x) := by rw [List.getElem?_map, hj]; rfl
    rw [← hel, List.getElem?_take, if_pos (by omega), Array.getElem?_toList] at h1
    exact h1
theorem more_some (x : Addr) (n c : Nat) (M l : List (BitVec 64)) (v : Value) (w0 w : World) (hl : l.length = 56) (hM : M.length = n) (hn : n ≤ 50) (ho : w.ownsRow w0.heap.size 22 1 v 56 (l.map fun x => U x)) (hC : Ch [] w0 w) (h : ∀ j u, (M.map fun x => U x)[j]? = some u → w.cell? (x.add j) = some u) :
    ∃ R c' cur w1, (Builtin.append_ #[44, 44] 44 #[v, .slice (some x) n c]).run Tryz.prog w = .ok (.slice (some ⟨R, 0, none⟩) (56 + n) c') w1 ∧ w0.heap.size ≤ R ∧ 56 + n ≤ c' ∧ WordsAt cur (l ++ M) ∧ w1.heap[R]? = some (.cells cur 22 (0, 0)) ∧ Ch [] w0 w1 := by
  obtain ⟨i0, hi, hz0, hz1, hz2⟩ := info_parts infoU
  have hsW := hC.size
  obtain ⟨v', w2, hrun, hown, hgr, _⟩ := run_append_own (P := Tryz.prog) w w0.heap.size 44 44 22 i0 (U 0#64) 1 8 Tryz.underlying44 hi hz0 hz1 hz2 rfl (by decide) v 56 _ ho x n c (M.map fun x => U x) (by rw [List.length_map, hM, Nat.mul_one]) h (words_one M) (by unfold maxLen; omega) (by omega) (by omega)
  rw [← List.map_append] at hown
  obtain ⟨R, c', cur, rfl, hR, hc', hcur, hW⟩ := row_out (by rw [List.length_append]; omega) (by omega) hown
  have hlt := ho.lt
  have hc2 : Ch [] w0 w2 := by
    cases hb : v.ownBlock with
    | none => exact hC.trans (Ch.of_grown (S := []) hgr (fun k hk => by rw [hb] at hk; cases hk))
    | some r =>
      refine hC.trans2 (Ch.of_grown (S := [r]) hgr (fun k hk => by rw [hb] at hk; cases hk; simp)) ?_
      have := (hlt r hb).1
      simp; omega
  exact ⟨R, c', cur, w2, hrun, hR, hc', hcur, hW, hc2⟩
theorem more_none (l : List (BitVec 64)) (v : Value) (w0 w : World) (hl : l.length = 56) (ho : w.ownsRow w0.heap.size 22 1 v 56 (l.map fun x => U x)) (hC : Ch [] w0 w) :
    ∃ R c' cur, (Builtin.append_ #[44, 44] 44 #[v, .slice none 0 0]).run Tryz.prog w = .ok (.slice (some ⟨R, 0, none⟩) (56 + 0) c') w ∧ w0.heap.size ≤ R ∧ 56 + 0 ≤ c' ∧ WordsAt cur (l ++ []) ∧ w.heap[R]? = some (.cells cur 22 (0, 0)) ∧ Ch [] w0 w := by
  obtain ⟨i0, hi, hz0, hz1, hz2⟩ := info_parts infoU
  rw [List.append_nil]
  obtain ⟨R, c', cur, rfl, hR, hc', hcur, hW⟩ := row_out (by rw [hl]) (by omega) ho
  refine ⟨R, c', cur, ?_, hR, hc', hcur, hW, hC⟩
  simp [Builtin.append_, run_underlying Tryz.underlying44, sizeOf, typeInfo, hi, Builtin.lenOf, Builtin.firstCells, loadCells, loadCellsFrom]
  rw [if_pos hc']
  simp [storeCells]
theorem more_app (a : Option Addr) (n0 c0 : Nat) (ks : Nat → BitVec 64) (l : List (BitVec 64)) (v : Value) (w0 w : World) (hl : l.length = 56) (hn : n0 ≤ c0) (ha : a = none → n0 = 0 ∧ c0 = 0) (hk : KeysIn w0 a n0 ks) (ho : w.ownsRow w0.heap.size 22 1 v 56 (l.map fun x => U x)) (hC : Ch [] w0 w) :
    ∃ R c' cur w1, (Builtin.append_ #[44, 44] 44 #[v, .slice a (min n0 50) c0]).run Tryz.prog w = .ok (.slice (some ⟨R, 0, none⟩) (56 + min n0 50) c') w1 ∧ w0.heap.size ≤ R ∧ 56 + min n0 50 ≤ c' ∧ WordsAt cur (l ++ frontW ks (min n0 50)) ∧ w1.heap[R]? = some (.cells cur 22 (0, 0)) ∧ Ch [] w0 w1 := by
  cases a with
  | none =>
    obtain ⟨rfl, rfl⟩ := ha rfl
    obtain ⟨R, c', cur, h⟩ := more_none l v w0 w hl ho hC
    exact ⟨R, c', cur, w, h⟩
  | some x =>
    refine more_some x (min n0 50) c0 (frontW ks (min n0 50)) l v w0 w hl (by rw [frontW_len]) (by omega) ho hC (fun j u hj => ?_)
    have hlt := (List.getElem?_eq_some_iff.1 hj).1
    rw [List.length_map, frontW_len] at hlt
    obtain ⟨kb, ko, hka, hkb, hrow⟩ := hk j (by omega)
    obtain rfl : x = ⟨kb, ko, none⟩ := by simpa using hka
    rw [List.getElem?_map] at hj
    unfold frontW at hj
    rw [List.getElem?_map, List.getElem?_range hlt] at hj
    have hj : U (ks j) = u := by simpa using hj
    subst hj
    have hadd : (⟨kb, ko, none⟩ : Addr).add j = ⟨kb, ko + j, none⟩ := by unfold Addr.add; split <;> simp_all
    rw [hadd, cell_heap, hC.block kb hkb (by simp)]
    exact hrow
end Go.Proofs.Hc
