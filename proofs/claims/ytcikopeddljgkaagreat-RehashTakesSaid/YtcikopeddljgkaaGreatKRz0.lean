/- Accesses as values: their cells. -/
import Derived.Test.YtcikopeddljgkaaGreatKHxu
import Derived.Test.YtcikopeddljgkaaGreatK0
set_option linter.unusedSimpArgs false
set_option linter.unusedVariables false
set_option maxHeartbeats 1000000
set_option maxRecDepth 100000
namespace Go.Proofs.Hc
open Go.RowKit
def accC (a b c d : Int) : Array Value := #[I a, I b, I c, .int .u64 0, .int .u64 d]
theorem zcv (a b c d : Int) : (accC a b c d).size = 5 := rfl
theorem accC_one (a b c d : Int) : allOne (accC a b c d) = true := by unfold allOne accC; simp [Value.oneCell']
theorem accC_all (a b c d : Int) : (accC a b c d).extract 0 5 = accC a b c d := by have := Array.extract_size (xs := accC a b c d); rwa [zcv] at this
theorem acc_g0 (a b c d : Int) : (accC a b c d)[0]? = some (I a) := rfl
theorem acc_g1 (a b c d : Int) : (accC a b c d)[1]? = some (I b) := rfl
theorem acc_g2 (a b c d : Int) : (accC a b c d)[2]? = some (I c) := rfl
theorem acc_g4 (a b c d : Int) : (accC a b c d)[4]? = some (.int .u64 d) := rfl
theorem acc_s0 (a b c d x : Int) : (accC a b c d).setIfInBounds 0 (I x) = accC x b c d := rfl
theorem acc_s1 (a b c d x : Int) : (accC a b c d).setIfInBounds 1 (I x) = accC a x c d := rfl
theorem acc_s2 (a b c d x : Int) : (accC a b c d).setIfInBounds 2 (I x) = accC a b x d := rfl
theorem acc_s4 (a b c d x : Int) : (accC a b c d).setIfInBounds 4 (.int .u64 x) = accC a b c x := rfl
theorem loadAcc (g o : Nat) (w : World) : (loadRow 87 ⟨g, o, none⟩).run Tryz.prog w = rowRes Tryz.prog 87 g o w ((w.heap[g]?).bind (rowAt o 5)) :=
  run_row Tryz.underlying87 rfl (by kernel_rfl) g o w
theorem storeAcc (g o : Nat) (vs : Array Value) (w : World) : (storeRow 87 ⟨g, o, none⟩ (.agg vs)).run Tryz.prog w = layRes Tryz.prog 87 g o vs w (((w.heap[g]?).map (canLay o 5 vs)).getD false) :=
  run_lay (by kernel_rfl) g o vs w
theorem lrowAcc (a : Addr) : loadVar 87 a = loadRow 87 a := rfl
theorem srowAcc (a : Addr) (v : Value) : storeVar 87 a v = storeRow 87 a v := rfl
theorem browAcc (ps : Array (Nat × Value)) : Instr.build 87 ps = buildRow 87 ps := rfl
theorem zcn (w : World) : (zeroValue 87).run Tryz.prog w = .ok (.agg (accC 0 0 0 0)) w := by kernel_rfl
theorem bacc0 (w : World) : (buildRow 87 #[]).run Tryz.prog w = .ok (.agg (accC 0 0 0 0)) w := by kernel_rfl
theorem bacc2 (b c : Int) (w : World) : (buildRow 87 #[(1, I b), (2, I c)]).run Tryz.prog w = .ok (.agg (accC 0 b c 0)) w := by kernel_rfl
theorem bacc3 (a b c : Int) (w : World) : (buildRow 87 #[(0, I a), (1, I b), (2, I c)]).run Tryz.prog w = .ok (.agg (accC a b c 0)) w := by kernel_rfl
theorem bacc3u (b c d : Int) (w : World) : (buildRow 87 #[(1, I b), (2, I c), (4, .int .u64 d)]).run Tryz.prog w = .ok (.agg (accC 0 b c d)) w := by kernel_rfl
theorem bacc4 (a b c d : Int) (w : World) : (buildRow 87 #[(0, I a), (1, I b), (2, I c), (4, .int .u64 d)]).run Tryz.prog w = .ok (.agg (accC a b c d)) w := by kernel_rfl
theorem zak (a b c d a' b' c' d' : Int) (T : TypeId) (fr : Nat × Nat) : laidAt 0 (accC a b c d) (.cells (accC a' b' c' d') T fr) = .cells (accC a b c d) T fr := by
  rw [zal, laid_whole _ _ (by rw [zcv, zcv])]
theorem need_results {fn : Func} {p q : Tmp} (h : fn.results = #[.cell p 87, .tmp q]) (tmps : Array Value) (b : Nat) (w : World) (x y z u : Int) (v : Value) (hp : tmps.getD p undef = .pointer (some ⟨b, 0, none⟩)) (hq : tmps.getD q undef = v)
    (hb : w.heap[b]? = some (.cells (accC x y z u) 87 (0, 0))) : (results fn tmps).run Tryz.prog w = .ok (.tuple #[.agg (accC x y z u), v]) w := by
  have hl := run_loadVar_row (P := Tryz.prog) w b 87 87 (accC x y z u) (0, 0) _ hb Tryz.underlying87 rfl (by rw [zcv]; kernel_rfl)
  have hp' : tmps[p]?.getD undef = .pointer (some ⟨b, 0, none⟩) := by simpa using hp
  have hq' : tmps[q]?.getD undef = v := by simpa using hq
  simp [results, h, hp', hq', asAddr, hl]
theorem acc_result {fn : Func} {p : Tmp} (h : fn.results = #[.cell p 87]) (tmps : Array Value) (b : Nat) (w : World) (x y z u : Int) (hp : tmps.getD p undef = .pointer (some ⟨b, 0, none⟩))
    (hb : w.heap[b]? = some (.cells (accC x y z u) 87 (0, 0))) : (results fn tmps).run Tryz.prog w = .ok (.agg (accC x y z u)) w := by
  have hl := run_loadVar_row (P := Tryz.prog) w b 87 87 (accC x y z u) (0, 0) _ hb Tryz.underlying87 rfl (by rw [zcv]; kernel_rfl)
  have hp' : tmps[p]?.getD undef = .pointer (some ⟨b, 0, none⟩) := by simpa using hp
  simp [results, h, hp', asAddr, hl]
end Go.Proofs.Hc
namespace Go.Proofs.Hc
open Go.RowKit
attribute [local go_sem] zbs zca zax zbc zbn zba zbm zbo zbu signed64 signed8 zar BitVec.ofInt_add BitVec.ofInt_mul ofInt_sub' zay zaz wide8 eqN neN zbz shr1 shr7 shr56
attribute [local go_sem high] zbb zbt
attribute [local go_sem] zag zbw zah zas zad zbe zaq zal zbl zan zbd zbf
attribute [local go_sem] load26 load73 load23 store26 build73
attribute [local go_sem ↓] lrow26 lrow73 lrow23 srow26 zero26 brow73 zac zaw zbg zaa zab
attribute [local go_sem] zai zav zat zbj zbk zbp zao zau zbq zbi zbh
attribute [local go_sem] nn2 nm2 nn3 nm3 nn4 nm4 nn5 nm5 nn6 nm6 nn7 nm7 nn8 nm8
section
attribute [local go_sem] acc_g0 acc_g1 acc_g2 acc_g4 acc_s0 acc_s1 acc_s2 acc_s4 zcv accC_one accC_all loadAcc storeAcc bacc0 bacc2 bacc3 bacc3u bacc4
attribute [local go_sem ↓] lrowAcc srowAcc browAcc zcn
attribute [local go_sem high] zak
attribute [local irreducible] accC
theorem words_one (l : List (BitVec 64)) : ∀ v ∈ l.map (fun x => U x), v.oneCell' = true := by
  intro v hv
  obtain ⟨x, _, rfl⟩ := List.mem_map.1 hv
  rfl
theorem cOwn_any (l : List (BitVec 64)) (g c : Nat) (cur : Array Value) (w : World) (hl : l.length ≤ 9000) (hb : w.heap[g]? = some (.cells cur 22 (0, 0))) (hw : WordsAt cur l) :
    Calls Tryz.prog 184 #[.slice (some ⟨g, 0, none⟩) l.length c] w fun e w' => e = .returned (.slice (some ⟨w.heap.size, 0, none⟩) l.length l.length) ∧ w'.heap[w.heap.size]? = some (.cells (wcells l) 22 (0, 0)) ∧ Ch [] w w' := by
  have hm := fun w => run_make_row' (P := Tryz.prog) 44 22 (.int .u64 0) 8 Tryz.underlying44 infoU rfl .i64 .i64 l.length (by omega) (by omega) w
  have hgn : ¬ g = w.heap.size := by have := (Array.getElem?_eq_some_iff.1 hb).1; omega
  have hn : (w.alloc (.cells (madeCells #[.int .u64 0] l.length) 22)).heap[w.heap.size]? = some (.cells (madeCells #[.int .u64 0] l.length) 22 (0, 0)) := by rw [zac, if_pos rfl]
  have hlen : (l.map fun x => U x).length = l.length := List.length_map ..
  have hcp := run_copy_row (P := Tryz.prog) (w.alloc (.cells (madeCells #[.int .u64 0] l.length) 22)) 44 44 3 22 w.heap.size 0 l.length l.length ⟨g, 0, none⟩ l.length c (madeCells #[.int .u64 0] l.length) 22 (l.map fun x => U x) Tryz.underlying44 (by kernel_rfl) hn (by rw [hlen]; exact (Nat.min_self _).symm) (by
    intro j v hj
    rw [List.getElem?_map] at hj
    obtain ⟨x, hx, rfl⟩ := Option.map_eq_some_iff.1 hj
    rw [Addr.add_lit, zag, zac, if_neg hgn, hb, Option.bind_some, zah, Nat.zero_add]
    exact hw j x hx) (by rw [hlen, size_madeCells]; omega) (words_one l)
  have hrow : ((madeCells #[.int .u64 0] l.length).toList.take 0 ++ (l.map fun x => U x) ++ (madeCells #[.int .u64 0] l.length).toList.drop (0 + (l.map fun x => U x).length)).toArray = wcells l := by
    rw [List.take_zero, List.nil_append, List.drop_eq_nil_of_le (by rw [hlen, Array.length_toList, size_madeCells]; omega), List.append_nil]; rfl
  rw [hrow, hlen] at hcp
  have hh := setRow_heap (w.alloc (.cells (madeCells #[.int .u64 0] l.length) 22)) w.heap.size _ (wcells l) 22 (0, 0) hn
  have hC : Ch [] w ((w.alloc (.cells (madeCells #[.int .u64 0] l.length) 22)).setRow w.heap.size (wcells l)) := by
    refine ((Ch.refl [] w).alloc (.cells (madeCells #[.int .u64 0] l.length) 22)).trans2 (T := [w.heap.size]) ⟨rfl, rfl, rfl, by simp [World.setRow], fun k _ hk => setRow_other _ _ _ _ (by simpa using hk)⟩ (by simp)
  generalize (w.alloc (.cells (madeCells #[.int .u64 0] l.length) 22)).setRow w.heap.size (wcells l) = W2 at *
  clear hrow hn hb hw hgn
  go_enter Tryz.func184, Tryz.ntmps184
  go_wp2
  go_ret
  exact ⟨rfl, hh, hC⟩
end
section
attribute [local go_sem] box26 zbx cell0 cell1 cell2 cell3 cell4
attribute [local go_sem] Oper.semAt_some zap
theorem run_append_fits_zeros2 {P : Program} (w : World) (t tn ty e : TypeId) (i : TypeInfo) (z : Value) (kq kn : IntKind) (ht : P.underlying t = some (.slice e)) (htn : P.underlying tn = some (.int kn)) (hi : P.info? e = some i) (hz : i.zero = some z)
    (hs1 : i.size = 1) (hzc : z.cells = #[z]) (hz1 : z.oneCell' = true) (q n cap k : Nat) (cur : Array Value) (T : TypeId) (hq : w.heap[q]? = some (.cells cur T (0, 0))) (hcur : cur.size = cap) (h0 : 0 < k) (hfit : n + k ≤ cap) (h63 : k * i.bytes ≤ 281474976710656) (hk : k ≤ 1000) :
    ∃ w', (Builtin.append_ #[t, tn] ty #[.slice (some ⟨q, 0, none⟩) n cap, .int kq k]).run P w = .ok (.slice (some ⟨q, 0, none⟩) (n + k) cap) w' ∧ w'.heap[q]? = some (.cells (List.take n cur.toList ++ List.replicate k z ++ List.drop (n + k) cur.toList).toArray T (0, 0)) ∧ Ch [q] w w' := by
  have hkn : k ≠ 0 := by omega
  have hw : IntKind.i64.wrap (k : Int) = k := by rw [IntKind.wrap_i64]; omega
  have hneg : ¬ ((k : Int) < 0) := by omega
  have h48i : ¬ (281474976710656 < (k : Int) * (i.bytes : Int)) := by
    rw [← Int.natCast_mul]
    omega
  have hst := run_storeCells_at (P := P) q n T (List.replicate k z) 0 cur w hq (by simp; omega) (fun v hv => by rw [(List.mem_replicate.1 hv).2]; exact hz1)
  have hadd : (⟨q, 0, none⟩ : Addr).add n = ⟨q, n, none⟩ := by unfold Addr.add; split <;> simp_all
  rw [Nat.add_zero, List.length_replicate] at hst
  have hh := setRow_heap w q cur (List.take n cur.toList ++ List.replicate k z ++ List.drop (n + k) cur.toList).toArray T (0, 0) hq
  refine ⟨w.setRow q (List.take n cur.toList ++ List.replicate k z ++ List.drop (n + k) cur.toList).toArray, ?_, hh, ?_⟩
  · generalize w.setRow q (List.take n cur.toList ++ List.replicate k z ++ List.drop (n + k) cur.toList).toArray = w' at *
    have hst' : (storeCells ⟨q, n, none⟩ (List.replicate k z)).run P w = .ok () w' := hst
    simp [Builtin.append_, run_underlying ht, run_underlying htn, sizeOf, typeInfo, zeroValue, hi, hz, hs1, asInt, asIntOf, hw, hkn, hneg, h48i, hfit, hzc, zeroCells_one, hadd, hst']
  · refine ⟨rfl, rfl, rfl, by simp [World.setRow], fun j hj hn => ?_⟩
    simp only [World.setRow, Array.getElem?_modify]
    rw [if_neg (fun e => hn (by simp [e]))]
theorem padded38_row2 (base : Nat) (v : Value) (xs : List Value) (w : World) (hbw : base ≤ w.heap.size) (hown : w.ownsRow base 22 1 v 38 xs) :
    Calls Tryz.prog 140 #[v] w fun e w' => ∃ R c cur, e = .returned (.slice (some ⟨R, 0, none⟩) 40 c) ∧ base ≤ R ∧ w'.heap[R]? = some (.cells cur 22 (0, 0)) ∧ (∀ (j : Nat) (u : Value), (xs ++ [U 0#64, U 0#64])[j]? = some u → cur[j]? = some u) ∧ 40 ≤ c ∧ Ch v.ownBlock.toList w w' := by
  obtain ⟨hlen, h⟩ := hown
  rcases h with ⟨_, h⟩ | ⟨q, cap, cur, rfl, hq, hb, h38, hcm, hsz, hx⟩
  · cases h
  obtain ⟨i0, hi, hz0, hz1, hz2⟩ := info_parts infoU
  have hsz' : cur.size = cap := by omega
  have hx' : List.take 38 cur.toList = xs := hx
  rcases Nat.lt_or_ge cap 40 with hlt | hge
  · go_enter Tryz.func140, Tryz.ntmps140
    go_wp2_with (at_builtin; refine Lib.wpList_append_run _ rfl _ _ 44 3 rfl _ _ rfl rfl _ _ (Lib.run_append_grow_zeros _ 44 3 _ 22 i0 (U 0#64) .i64 .i64 Tryz.underlying44 Tryz.underlying3 hi hz0 (some ⟨q, 0, none⟩) 38 cap (cur.toList.take 38) ?hold 2 (by omega) (by omega) (by omega) (by omega) (by omega) ?hfit) ?_)
    case hold =>
      have := run_firstCells_some (P := Tryz.prog) w.drew i0.size 38 ⟨q, 0, none⟩ 38 cap (cur.toList.take 38) (by simp; omega) (fun j u hj => by
        rw [Addr.add_lit, zag, zaw, hb, Option.bind_some, zah, Nat.zero_add]
        rw [List.getElem?_take] at hj
        split at hj
        · simpa using hj
        · cases hj)
      exact this
    case hfit =>
      have : cap = 38 ∨ cap = 39 := by omega
      rw [hz2]
      rcases this with rfl | rfl <;> decide
    go_ret
    refine ⟨_, _, _, rfl, hbw, by rw [zaw, zac, if_pos rfl], fun j u hj => ?_, ?hcap, (((Ch.refl [] w).drew).alloc _).of_nil⟩
    case hcap => exact grownCap_ge _ _ _ _
    rw [Array.getElem?_append]
    have hl : xs.length = 38 := hlen
    by_cases hj38 : j < 38
    · rw [List.getElem?_append_left (by omega)] at hj
      rw [if_pos (by simp; omega)]
      simpa using hj
    · rw [List.getElem?_append_right (by omega), hl] at hj
      rw [if_neg (by simp; omega)]
      have h2 : j - 38 < 2 := by have := (List.getElem?_eq_some_iff.1 hj).1; simpa using this
      rw [Array.getElem?_append, if_pos (by show j - xs.toArray.size < (Builtin.zeroCells #[U 0#64] 2).size; rw [zeroCells_one]; simp; omega)]
      show (Builtin.zeroCells #[U 0#64] 2)[j - xs.toArray.size]? = some u
      rw [zeroCells_one]
      rcases (show j = 38 ∨ j = 39 by omega) with rfl | rfl
      · simpa [hl] using hj
      · simpa [hl] using hj
  · obtain ⟨w2, hr2, hw2, hc2⟩ := run_append_fits_zeros2 (P := Tryz.prog) w 44 3 44 22 i0 (U 0#64) .i64 .i64 Tryz.underlying44 Tryz.underlying3 hi hz0 hz1 rfl rfl q 38 cap 2 cur 22 hb hsz' (by omega) (by omega) (by omega) (by omega)
    have HW2 := Lib.hid hw2
    clear hw2
    go_enter Tryz.func140, Tryz.ntmps140
    go_wp2_with (at_builtin; refine Lib.wpList_append_run _ rfl _ _ 44 3 rfl _ _ rfl rfl _ _ hr2 ?_)
    go_ret
    refine ⟨_, _, _, rfl, hq, HW2.out, fun j u hj => ?_, hge, hc2⟩
    rw [hx', List.getElem?_toArray, List.getElem?_append_left (by
      have h1 := (List.getElem?_eq_some_iff.1 hj).1
      have hl : xs.length = 38 := hlen
      simp at h1 ⊢; omega)]
    exact hj
theorem twords_cells (t : Tab) : ((#[U t.count, U (wd1 t), U (BitVec.ofInt 64 t.can), U (BitVec.ofInt 64 t.live)] : Array Value).extract 0 (0 + 4)).toList ++ ((tcells t).extract 5 (5 + 2)).toList ++ ((tcells t).extract 7 (7 + 16)).toList ++ ((tcells t).extract 23 (23 + 16)).toList ++ [U 0#64, U 0#64] = (twords t).map fun x => U x := by kernel_rfl
theorem words_row2 (t : Tab) (hf : flatT t = true) (w : World) : Calls Tryz.prog 74 #[.agg (tcells t)] w fun e w' => ∃ R c cur, e = .returned (.tuple #[.slice (some ⟨R, 0, none⟩) 40 c, I 0]) ∧ w.heap.size ≤ R ∧ WordsAt cur (twords t) ∧ 40 ≤ c ∧ w'.heap[R]? = some (.cells cur 22 (0, 0)) ∧ Ch [] w w' := by
  have F1 := fun w => flat_any t w
  rw [hf] at F1
  clear hf
  have HT := Lib.hid (twords_cells t)
  go_enter Tryz.func74, Tryz.ntmps74
  go_wp2_with (go_at_call 109; refine (F1 _).mono ?_; rintro e w1 ⟨rfl, hc1⟩; have hb1 : w1.heap[w.heap.size]? = some (.cells (tcells t) 26 (0, 0)) := (hc1.block _ (by simp) (by simp)).trans (by simp [go_sem]))
  obtain ⟨x0, hx0⟩ : ∃ x, N (BitVec.ofInt 64 t.depth ||| t.pre * 256#64) = x := ⟨_, rfl⟩
  obtain ⟨x1, hx1⟩ : ∃ x, N (BitVec.ofInt 64 t.can) = x := ⟨_, rfl⟩
  obtain ⟨x2, hx2⟩ : ∃ x, N (BitVec.ofInt 64 t.live) = x := ⟨_, rfl⟩
  rw [hx0, hx1, hx2]
  have HT : Hid (((#[U t.count, .int .u64 x0, .int .u64 x1, .int .u64 x2] : Array Value).extract 0 (0 + 4)).toList ++ ((tcells t).extract 5 (5 + 2)).toList ++ ((tcells t).extract 7 (7 + 16)).toList ++ ((tcells t).extract 23 (23 + 16)).toList ++ [U 0#64, U 0#64] = (twords t).map fun x => U x) := by
    rw [← hx0, ← hx1, ← hx2]
    exact HT
  clear hx0 hx1 hx2
  obtain ⟨W0, hW0⟩ : ∃ W0, w1.alloc (.cells #[U t.count, .int .u64 x0, .int .u64 x1, .int .u64 x2] 22) = W0 := ⟨_, rfl⟩
  have hsz := hc1.size
  simp only [World.size_alloc] at hsz
  have hC0 : Ch [] w W0 := by rw [← hW0]; exact (((Ch.refl [] w).alloc _).trans hc1).alloc _
  have b0 : W0.heap[w.heap.size]? = some (.cells (tcells t) 26 (0, 0)) := by rw [← hW0, zac, if_neg (by omega)]; exact hb1
  have b1 : W0.heap[w1.heap.size]? = some (.cells #[U t.count, .int .u64 x0, .int .u64 x1, .int .u64 x2] 22 (0, 0)) := by rw [← hW0]; simp [go_sem]
  have hn : w.heap.size < W0.heap.size ∧ w1.heap.size < W0.heap.size := by rw [← hW0]; simp; omega
  rw [hW0]
  clear hW0 hb1 hc1
  refine zcw 7 (by kernel_rfl) (by kernel_rfl) ?_
  simp only [List.take_succ_cons, List.take_zero, List.drop_succ_cons, List.drop_zero]
  repeat (go_big_quiet_step (fail))
  refine wpQuiet_nil ?_
  rintro w2 ⟨g1, hw1⟩
  have hc1 : Ch [] W0 w2 := by rw [hw1]; exact g1.2
  clear hw1 g1
  have hz2 := hc1.size
  have d0 := (hc1.block _ hn.1 (by simp)).trans b0
  have d1 := (hc1.block _ hn.2 (by simp)).trans b1
  clear b0 b1
  go_wp2_with fail
  refine (concat4 w2.heap.size 4 2 16 16 w1.heap.size w.heap.size w.heap.size w.heap.size 0 5 7 23 ((#[U t.count, .int .u64 x0, .int .u64 x1, .int .u64 x2] : Array Value).extract 0 (0 + 4)).toList ((tcells t).extract 5 (5 + 2)).toList ((tcells t).extract 7 (7 + 16)).toList ((tcells t).extract 23 (23 + 16)).toList _ (by rw [zac, if_pos rfl])
         (part_len _ _ _ (by simp)) (part_len _ _ _ (by rw [zai]; omega)) (part_len _ _ _ (by rw [zai]; omega)) (part_len _ _ _ (by rw [zai]; omega))
         ((rowAt_part d1 (by simp [allOne, Value.oneCell'])).ch ((Ch.refl [] w2).alloc _)) ((rowAt_part d0 (zbk t)).ch ((Ch.refl [] w2).alloc _)) ((rowAt_part d0 (zbk t)).ch ((Ch.refl [] w2).alloc _)) ((rowAt_part d0 (zbk t)).ch ((Ch.refl [] w2).alloc _))).mono ?_
  rintro e w3 ⟨v, rfl, hown, hc3⟩
  have hob := own_block hown
  obtain ⟨xs, hxs⟩ : ∃ xs, ((#[U t.count, .int .u64 x0, .int .u64 x1, .int .u64 x2] : Array Value).extract 0 (0 + 4)).toList ++ ((tcells t).extract 5 (5 + 2)).toList ++ ((tcells t).extract 7 (7 + 16)).toList ++ ((tcells t).extract 23 (23 + 16)).toList = xs := ⟨_, rfl⟩
  rw [hxs] at hown
  have HT2 : xs ++ [U 0#64, U 0#64] = (twords t).map fun x => U x := by rw [← hxs]; exact HT.out
  have P1 := padded38_row2 _ v _ w3 hc3.size hown
  have HT3 := Lib.hid HT2
  clear hown HT HT2
  go_wp2_with (go_at_call 140; refine P1.mono ?_; rintro e w4 ⟨R, c, cur, rfl, hR, hW, hel, hcap, hc4⟩; have HP := Lib.hid hcap; clear hcap; have HE := Lib.hid hel; clear hel)
  go_ret2
  have hC3 : Ch [] w w3 := ((hC0.trans hc1).alloc _).trans hc3
  simp only [World.size_alloc] at hob hR
  refine ⟨R, c, cur, rfl, by omega, fun j x hj => HE.out j _ (by rw [HT3.out, List.getElem?_map, hj]; rfl), HP.out, hW, ?_⟩
  exact hC3.trans2 hc4 (fun s hs => .inr (by have := hob s (by simpa using hs); omega))
end
section
attribute [local go_sem] box26 zbx cell0 cell1 cell2 cell3 cell4 zci zch
def cells20 (t : Tab) : List (BitVec 64) := List.replicate 16 0#64 ++ twords t
theorem cells20_len (t : Tab) : (cells20 t).length = 56 := by unfold cells20; rw [List.length_append, List.length_replicate, twords_len]
theorem cells20_get (t : Tab) (i : Nat) (h : i < 40) : (cells20 t)[16 + i]? = some (tword t i) := by
  unfold cells20
  rw [List.getElem?_append_right (by rw [List.length_replicate]; omega), List.length_replicate, show 16 + i - 16 = i by omega, twords_get t i h]
theorem made16 : (madeCells #[.int .u64 0] 16).toList.take (16 * 1) = List.replicate 16 (U 0#64) := by
  rw [zeros_cells, wcells_list, List.take_of_length_le (by simp), List.map_replicate]
attribute [local irreducible] tcells
theorem cells20_ok (t : Tab) (hf : flatT t = true) (w : World) : Calls Tryz.prog 33 #[.agg (tcells t)] w fun e w' => ∃ v, e = .returned v ∧ w'.ownsRow w.heap.size 22 1 v 56 ((cells20 t).map fun x => U x) ∧ Ch [] w w' := by
  obtain ⟨i0, hi, hz0, hz1, hz2⟩ := info_parts infoU
  have W1 := fun w => words_row2 t hf w
  have hm : ∀ w, (Instr.makeSlice 44 (.int .i64 16) (.int .i64 16)).run Tryz.prog w = .ok (.slice (some ⟨w.heap.size, 0, none⟩) 16 16) (w.alloc (.cells (madeCells #[.int .u64 0] 16) 22)) := fun w => run_make_row' (P := Tryz.prog) 44 22 (.int .u64 0) 8 Tryz.underlying44 infoU rfl .i64 .i64 16 (by omega) (by omega) w
  have HL := Lib.hid (show (cells20 t).map (fun x => U x) = (List.replicate 16 (U 0#64)) ++ (twords t).map (fun x => U x) by unfold cells20; rw [List.map_append, List.map_replicate])
  have htl : ((twords t).map (fun x => U x)).length = 40 := by rw [List.length_map, twords_len]
  have C0 : Ch [] w (w.alloc (.cells (tcells t) 26)) := (Ch.refl [] w).alloc _
  obtain ⟨xs, hxs⟩ : ∃ xs, twords t = xs := ⟨_, rfl⟩
  rw [hxs] at W1 HL htl
  obtain ⟨ys, hys⟩ : ∃ ys, (cells20 t).map (fun x => U x) = ys := ⟨_, rfl⟩
  rw [hys] at HL ⊢
  clear hf hxs hys
  go_enter Tryz.func33, Tryz.ntmps33
  go_wp2_with fail
  refine (W1 _).mono ?_
  rintro e w1 ⟨R, c, cur, rfl, hRw, hcur, hc40, hR, hc1⟩
  have C1 := C0.trans hc1
  have HC := Lib.hid hcur
  have hRn := ns hR
  clear hc1 C0 W1 hcur
  have h0 : (w1.alloc (.cells (madeCells #[.int .u64 0] 16) 22)).ownsRow w.heap.size 22 1 (.slice (some ⟨w1.heap.size, 0, none⟩) 16 16) 16 (List.replicate 16 (U 0#64)) :=
    ⟨by simp, .inr ⟨w1.heap.size, 16, _, rfl, C1.size, by rw [zac, if_pos rfl], by omega, by unfold maxLen; omega, by rw [size_madeCells], made16⟩⟩
  have hR1 : (w1.alloc (.cells (madeCells #[.int .u64 0] 16) 22)).heap[R]? = some (.cells cur 22 (0, 0)) := by rw [zac, if_neg hRn]; exact hR
  have C2 : Ch [] w (w1.alloc (.cells (madeCells #[.int .u64 0] 16) 22)) := C1.alloc _
  have hce : ∀ j u, (xs.map fun x => U x)[j]? = some u → (w1.alloc (.cells (madeCells #[.int .u64 0] 16) 22)).cell? ((⟨R, 0, none⟩ : Addr).add j) = some u := fun j u hj => by
    rw [List.getElem?_map] at hj
    obtain ⟨y, hy, rfl⟩ := Option.map_eq_some_iff.1 hj
    rw [Addr.add_lit, zag, hR1, Option.bind_some, zah, Nat.zero_add]
    exact HC.out j y hy
  have C3 : Ch [] w1 (w1.alloc (.cells (madeCells #[.int .u64 0] 16) 22)) := (Ch.refl [] w1).alloc _
  have hsz1 : w.heap.size ≤ w1.heap.size := C1.size
  obtain ⟨W2, hW2⟩ : ∃ W, w1.alloc (.cells (madeCells #[.int .u64 0] 16) 22) = W := ⟨_, rfl⟩
  rw [hW2] at h0 hR1 C2 hce
  have hsW := C2.size
  have hm1 := hm w1
  rw [hW2] at hm1
  clear hm C3
  obtain ⟨v', w2, hrun, hown, hgr, _⟩ := run_append_own (P := Tryz.prog) W2 w.heap.size 44 44 22 i0 (U 0#64) 1 8 Tryz.underlying44 hi hz0 hz1 hz2 rfl (by decide) _ 16 _ h0 ⟨R, 0, none⟩ 40 c (xs.map fun x => U x) (by rw [htl]) hce (words_one xs) (by unfold maxLen; omega) (by omega) (by omega)
  have hc2 : Ch [] w w2 := C2.trans2 (Ch.of_grown (S := [w1.heap.size]) hgr (fun k hk => by simp [Value.ownBlock] at hk; simp [hk])) (by simp; omega)
  have HO := Lib.hid hown
  have HC2 := Lib.hid hc2
  clear hown hgr hc2 h0 hce hR1 C2 C1 HC hR hRn
  go_wp2_with (at_builtin; refine Lib.wpList_append_run _ rfl _ _ 44 44 rfl _ _ rfl rfl _ _ hrun ?_)
  go_ret
  exact ⟨v', rfl, by rw [HL.out]; exact HO.out, HC2.out⟩
end
end Go.Proofs.Hc
namespace Go.Proofs.Hc
open Go.RowKit
def ra0 : Tab := bareT 0#64 0 0#64
def ra1 : Tab := fillT ra0 0#64 1#64 10#64 0
def ra2 : Tab := fillT ra1 0#64 2#64 20#64 8
def ra3 : Tab := dropT ra2 0
def ra6 : Tab := normT { ra3 with count := 6#64 }
def ra7 : Tab := normT { ra3 with count := 7#64 }
theorem ra_new : newE 0 0#64 = .ok ra0 := by rw [newE, if_neg (by decide)]; rfl
theorem ra_may0 : mayT ra0 0#64 = true := by decide +kernel
theorem ra_place1 : placeT ra0 0#64 1#64 = .ok 0 := by kernel_rfl
theorem ra_place2 : placeT ra1 0#64 2#64 = .ok 8 := by kernel_rfl
theorem ra_puts : laidT 0#64 ra0 [(1#64, 10#64), (2#64, 20#64)] = .ok ra2 := by
  have e1 : fillT ra0 0#64 1#64 10#64 0 = ra1 := by rw [ra1]
  have e2 : fillT ra1 0#64 2#64 20#64 8 = ra2 := by rw [ra2]
  rw [laidT_ok (p := (1#64, 10#64)) ra_place1, e1, laidT_ok (p := (2#64, 20#64)) ra_place2, e2, laidT_nil]
theorem ra_may2 : mayT ra2 0#64 = true := by decide +kernel
theorem ra_found : (foundE ra2 0#64 1#64).map (fun y => y.1) = .ok 0 := by kernel_rfl
theorem ra_drop : dropE ra2 0#64 1#64 = .ok ⟨ra3, 0, 0⟩ := by
  have h := ra_found
  unfold dropE
  cases hf : foundE ra2 0#64 1#64 with
  | error e => rw [hf] at h; cases h
  | ok y =>
    rw [hf] at h
    obtain ⟨a, b⟩ := y
    have h : a = 0 := by injection h
    subst h
    have e : dropT ra2 0 = ra3 := by rw [ra3]
    show Except.ok (At.mk (dropT ra2 0) ((0 : Nat) : Int) 0) = _
    rw [e]
    rfl
theorem ra_flat6 : flatT ra6 = true := by decide +kernel
theorem ra_flat7 : flatT ra7 = true := by decide +kernel
theorem ra_may6 : mayT ra6 0#64 = true := by decide +kernel
theorem ra_zero : mayT zeroT 0#64 = false := by decide +kernel
def ra8 : Tab := okOr (anewT ra6 0#64)
theorem ra_anew : anewT ra6 0#64 = .ok ra8 := by
  obtain ⟨x, hx⟩ := anew_ok ((may_iff _ _).1 ra_may6)
  have hx' : anewT ra6 0#64 = .ok x := by unfold anewT; exact hx.eq
  unfold ra8
  rw [hx', okOr_ok]
def ra9 : Tab := normT { ra8 with count := 8#64 }
theorem ra_may9 : mayT ra9 0#64 = true := by decide +kernel
theorem ra_pairs9 : pairsT ra9 = [(2#64, 20#64)] := by decide +kernel
theorem ra_flat8 : flatT { ra8 with count := 8#64 } = true := by decide +kernel
theorem ra_run6 : RunsL (cells20 ra6) (firstL 0 0 0#64) 81 (laidW (cells20 ra6) 16 { ra8 with count := 8#64 }) ⟨5, 0, 0, 0#64, 6#64, 40, tword ra8, false⟩ :=
  rehash_good (t := ra6) (by decide) (by decide) (by rw [cells20_len]; omega) ra_flat6 (normT_norm _) (fun i h => cells20_get ra6 i h) (by decide +kernel) ra_may6 ra_anew
theorem ra_run7 : RunsL (cells20 ra7) (firstL 0 0 0#64) 1 (cells20 ra7) ⟨6, 0, 0, 0#64, 0#64, 0, fun _ => 0#64, false⟩ :=
  rehash_odd (t := ra7) (by decide) (by decide) (cells20_get ra7 0 (by omega)) (by decide +kernel)
theorem ra_cellsz : cells20 zeroT = List.replicate 56 0#64 := by decide +kernel
theorem ra_normz : NormT zeroT := ⟨fun _ _ => rfl, fun _ _ => rfl, fun _ _ => rfl⟩
theorem ra_runz : RunsL (List.replicate 56 0#64) (firstL 0 0 0#64) 42 ((List.replicate 56 0#64).set 16 2#64) ⟨5, 0, 0, 0#64, 0#64, 40, tword zeroT, true⟩ := by
  rw [← ra_cellsz]
  exact rehash_bad (t := zeroT) (by decide) (by decide) (by rw [cells20_len]; omega) (by decide +kernel) ra_normz (fun i h => cells20_get zeroT i h) (by decide +kernel) ra_zero
end Go.Proofs.Hc
