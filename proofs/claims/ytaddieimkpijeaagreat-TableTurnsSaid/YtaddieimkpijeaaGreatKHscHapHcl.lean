/- slices.Index, slices.Contains at rows of pairs. -/
import Derived.Test.YtaddieimkpijeaaGreatKHtiHtj
import Derived.Deep.QuietTactic
import Derived.Laws.StructEq
import Derived.BigQuiet
import Derived.Lib.AppendZerosOnto
set_option linter.unusedSimpArgs false
set_option linter.unusedVariables false
namespace Go.Proofs.Hc
open Go.RowKit
attribute [local go_sem] wrap_u64 wrap_u8 bits_xor64 bits_and64 bits_or64 bits_not64 bits_xor8 bits_and8 bits_or8 signed64 signed8 ofInt_N BitVec.ofInt_add BitVec.ofInt_mul ofInt_sub' ofInt8_N64 ofInt64_N8 wide8 eqN neN shr_pow shr1 shr7 shr56
attribute [local go_sem high] bits_com64 shl_wrap
attribute [local go_sem] cell_heap ice_heap cellAt_cells iceAt_cells setAt_cells rowAt_cells canLay_cells laidAt_cells size_onObj size_setCell rowRes_some layRes_true
attribute [local go_sem] load26 load73 load23 store26 build73
attribute [local go_sem ↓] lrow26 lrow73 lrow23 srow26 zero26 brow73 heap_alloc heap_drew heap_drewN heap_setCell heap_onObj
attribute [local go_sem] tcells_size hcells_size tcells_get hcells_get tcells_one hcells_one hcells_table tcells_table hcells_all hcells_ctrl tcells_ctrl
attribute [local go_sem] nn2 nm2 nn3 nm3 nn4 nm4 nn5 nm5 nn6 nm6 nn7 nm7 nn8 nm8
attribute [local go_sem] nn2 nm2 nn3 nm3 nn4 nm4 nn5 nm5 nn6 nm6 nn7 nm7 nn8 nm8
attribute [local go_sem] Oper.semAt_some make_func1
attribute [local go_sem] loadP storeP allOne_pair
attribute [local go_sem high] laidAt_p
attribute [local go_sem ↓] lrowP srowP zeroP
theorem fieldsP : (Tryz.prog.fieldsOf 31).toList.map (fun f => (f.name == "_", f.type, f.offset)) = [(false, 22, 0), (false, 22, 1)] := by kernel_rfl
theorem eqU (d : Nat) (x y : BitVec 64) (w : World) : (Op.equalIn (d + 1) 22 (U x) (U y)).run Tryz.prog w = .ok (x == y) w := by
  rw [run_equalIn_int w d 22 .u64 .u64 (N x) (N y) Tryz.underlying22]
  rw [eqN]
theorem eql_pair (x y z v : BitVec 64) (w : World) : (binOp .eql 31 (.agg #[U x, U y]) (.agg #[U z, U v])).run Tryz.prog w = .ok (.bool (x == z && y == v)) w := by
  rw [run_eql_struct, run_equalIn_agg w 9999 31 _ _ (by kernel_rfl) (by kernel_rfl)]
  have h := fieldsP
  generalize (Tryz.prog.fieldsOf 31).toList = fs at *
  have p0 : ∀ (x y : BitVec 64) (w : World), (part 22 #[U x, U y] 0).run Tryz.prog w = .ok (U x) w := fun x y w => by kernel_rfl
  have p1 : ∀ (x y : BitVec 64) (w : World), (part 22 #[U x, U y] 1).run Tryz.prog w = .ok (U y) w := fun x y w => by kernel_rfl
  cases fs with
  | nil => simp at h
  | cons f fs =>
    cases fs with
    | nil => simp at h
    | cons g fs =>
      cases fs with
      | cons e fs => simp at h
      | nil =>
        simp only [List.map_cons, List.map_nil, List.cons.injEq, Prod.mk.injEq, and_true, beq_eq_false_iff_ne] at h
        obtain ⟨⟨n1, t1, o1⟩, n2, t2, o2⟩ := h
        simp only [Op.eqFields]
        rw [if_pos n1, if_pos n2, t1, t2, o1, o2]
        simp only [Sem.run_bind, p0, p1, Result.andThen_ok, eqU, Sem.run_ite, Sem.run_pure]
        cases h1 : (x == z) <;> cases h2 : (y == v) <;> simp
theorem guardP (x y : Operand) (xs ys : Array Value) (w : World) : (eqGuard .eql 31 x y (.agg xs) (.agg ys)).run Tryz.prog w = .ok () w := run_eqGuard_agg w .eql 31 x y xs ys (by kernel_rfl)
attribute [local go_sem high] eql_pair guardP
/-- The place of a pair in a row, or a number below nought. -/
def IdxPost (w : World) (l : List (BitVec 64 × BitVec 64)) (p : BitVec 64 × BitVec 64) (e : Ending) (w' : World) : Prop := ∃ n : Int, e = .returned (I n) ∧ (0 ≤ n ↔ p ∈ l) ∧ -1 ≤ n ∧ Ch [] w w'
theorem take_nextG {α : Type} {P : α → Prop} {l : List α} {m : Nat} {x : α} (h : ∀ y ∈ l.take m, P y) (hx : l[m]? = some x) (hp : P x) : ∀ y ∈ l.take (m + 1), P y := by
  intro y hy
  rw [List.take_add_one, hx] at hy
  rcases List.mem_append.1 hy with h1 | h1
  · exact h y h1
  · have : y = x := by simpa using h1
    rw [this]; exact hp
set_option maxHeartbeats 1000000 in
set_option maxRecDepth 100000 in
theorem index_any (l : List (BitVec 64 × BitVec 64)) (p : BitVec 64 × BitVec 64) (a : Option Addr) (c : Nat) (cur : Array Value) (w : World) (hl : l.length ≤ 900000)
    (hpa : PairsAt cur l) (ha : 0 < l.length → ∃ r, a = some ⟨r, 0, none⟩) (hr : ∀ r, a = some ⟨r, 0, none⟩ → w.heap[r]? = some (.cells cur 31 (0, 0))) :
    Calls Tryz.prog 75 #[.slice a l.length c, .agg #[U p.1, U p.2]] w (IdxPost w l p) := by
  have HP := Lib.hid hpa
  have HA := Lib.hid ha
  have HR := Lib.hid hr
  clear hpa ha hr
  go_enter Tryz.func75, Tryz.ntmps75
  go_wp2
  obtain ⟨W0, hW0⟩ : ∃ W0, w.alloc (.cells #[U p.1, U p.2] 31) = W0 := ⟨_, rfl⟩
  have hC0 : Ch [] w W0 := by rw [← hW0]; exact (Ch.refl [] w).alloc _
  have b0 : W0.heap[w.heap.size]? = some (.cells #[U p.1, U p.2] 31 (0, 0)) := by rw [← hW0]; simp [go_sem]
  rw [hW0]
  clear hW0
  go_loopw [8] (fun i wr => ∃ j : Nat, i = .int .i64 j ∧ j ≤ l.length ∧ (∀ q ∈ l.take j, q ≠ p) ∧ Ch [] W0 wr) (fun i _ => l.length - (intOf i).toNat)
  case atStart => exact ⟨0, rfl, Nat.zero_le _, by simp, Ch.refl _ _⟩
  case round =>
    obtain ⟨j, hj, hjl, hno, hcr⟩ := hrel
    subst hj
    have c0 := hkeep hcr b0
    rcases Nat.lt_or_ge j l.length with hlt | hge
    · obtain ⟨r, hra⟩ := HA.out (by omega)
      obtain ⟨q, hqm, -⟩ := drop_one hlt
      have hrow' : rowAt (j * 2) 2 (.cells cur 31 (0, 0)) = some #[U q.1, U q.2] := by rw [Nat.mul_comm]; exact HP.out j q hqm
      subst hra
      have hrr : wr.heap[r]? = some (.cells cur 31 (0, 0)) := hkeep (hC0.trans hcr) (HR.out r rfl)
      have hdec : decide (j < l.length) = true := by simpa using hlt
      have hg0 : ∀ g : Gar wr, (g.1).heap[w.heap.size]? = some (.cells #[U p.1, U p.2] 31 (0, 0)) := fun g => hkeep g.2 c0
      have hg1 : ∀ g : Gar wr, (g.1).heap[r]? = some (.cells cur 31 (0, 0)) := fun g => hkeep g.2 hrr
      have HNO := Lib.hid hno
      have HQ := Lib.hid hqm
      clear hno hqm
      cases hq : (p.1 == q.1 && p.2 == q.2)
      all_goals
        have HE := Lib.hid hq
        go_wp2
        refine wp_region_gar (by kernel_rfl) (by kernel_rfl) ?_
        repeat (go_big_quiet_step (fail))
        refine wpQuiet_nil ?_
        rintro W6 ⟨g6, hw6⟩
        have hc6 : Ch [] wr W6 := by rw [hw6]; exact g6.2
        clear hw6 g6 hg0 hg1
        go_wp2
      · have hne : q ≠ p := by
          rintro rfl
          have := HE.out
          simp at this
        go_roundw
        case rel => exact ⟨j + 1, by go_num, hlt, take_nextG (P := fun q => q ≠ p) HNO.out HQ.out hne, hcr.trans hc6⟩
        case measure => simp [intOf]; omega
      · have heq : q = p := by
          have := HE.out
          simp only [Bool.and_eq_true, beq_iff_eq] at this
          exact Prod.ext this.1.symm this.2.symm
        go_ret
        exact ⟨j, rfl, ⟨fun _ => by rw [← heq]; exact List.mem_of_getElem? HQ.out, fun _ => by omega⟩, by omega, (hC0.trans hcr).trans hc6⟩
    · have hme : j = l.length := Nat.le_antisymm hjl hge
      have hdec : decide (j < l.length) = false := by simpa using hge
      have hno' : p ∉ l := by
        intro hp
        rw [hme, List.take_length] at hno
        exact hno p hp rfl
      have HN := Lib.hid hno'
      clear hno hme hge hno'
      go_wp2
      go_ret
      exact ⟨-1, rfl, ⟨fun h => by omega, fun h => absurd h HN.out⟩, by omega, hC0.trans hcr⟩
set_option maxHeartbeats 1000000 in
set_option maxRecDepth 100000 in
theorem contains_any (l : List (BitVec 64 × BitVec 64)) (p : BitVec 64 × BitVec 64) (a : Option Addr) (c : Nat) (cur : Array Value) (w : World) (hl : l.length ≤ 900000)
    (hpa : PairsAt cur l) (ha : 0 < l.length → ∃ r, a = some ⟨r, 0, none⟩) (hr : ∀ r, a = some ⟨r, 0, none⟩ → w.heap[r]? = some (.cells cur 31 (0, 0))) :
    Calls Tryz.prog 35 #[.slice a l.length c, .agg #[U p.1, U p.2]] w fun e w' => e = .returned (.bool (decide (p ∈ l))) ∧ Ch [] w w' := by
  have I1 := fun (W : World) (h : Ch [] w W) => index_any l p a c cur W hl hpa ha (fun r h1 => hkeep h (hr r h1))
  have hC : Ch [] w (w.alloc (.cells #[U p.1, U p.2] 31)) := (Ch.refl [] w).alloc _
  clear hl hpa ha hr
  go_enter Tryz.func35, Tryz.ntmps35
  go_wp2_with fail
  refine (I1 _ hC).mono ?_
  rintro e w1 ⟨n, rfl, hn, hn1, hc1⟩
  have HN := Lib.hid hn
  clear hn
  go_wp2
  go_ret
  refine ⟨?_, hC.trans hc1⟩
  show Ending.returned (.bool (decide (0 ≤ n))) = _
  rw [show decide (0 ≤ n) = decide (p ∈ l) from decide_eq_decide.2 HN.out]
end Go.Proofs.Hc
/- append of a row of pairs to a row of the call's own. -/
namespace Go.Proofs.Hc
open Go.RowKit
theorem pcells_append (l m : List (BitVec 64 × BitVec 64)) : pcells (l ++ m) = pcells l ++ pcells m := by unfold pcells; rw [List.flatMap_append]
theorem pcells_one (l : List (BitVec 64 × BitVec 64)) : ∀ u ∈ pcells l, u.oneCell' = true := by
  intro u hu
  unfold pcells at hu
  obtain ⟨p, _, hp⟩ := List.mem_flatMap.1 hu
  simp at hp
  rcases hp with rfl | rfl <;> rfl
theorem own_form {W : World} {base n size : Nat} {e : TypeId} {v : Value} {xs : List Value} (h : W.ownsRow base e size v n xs) : ∃ a c, v = .slice a n c := by
  obtain ⟨_, ⟨rfl, h0⟩ | ⟨g, cap, cur, hv, _⟩⟩ := h
  · exact ⟨none, 0, by rw [h0]⟩
  · exact ⟨_, _, hv⟩
theorem run_append_none {P : Program} (w : World) (t ty e : TypeId) (i : TypeInfo) (ht : P.underlying t = some (.slice e)) (hi : P.info? e = some i) (a : Option Addr) (n cap c : Nat) (hn : n ≤ cap) :
    (Builtin.append_ #[t, t] ty #[.slice a n cap, .slice none 0 c]).run P w = .ok (.slice a n cap) w := by
  cases a with
  | none => simp [Builtin.append_, run_underlying ht, sizeOf, typeInfo, hi, Builtin.lenOf, Builtin.firstCells, hn, loadCells, loadCellsFrom]
  | some x => simp [Builtin.append_, run_underlying ht, sizeOf, typeInfo, hi, Builtin.lenOf, Builtin.firstCells, hn, loadCells, loadCellsFrom, storeCells]
theorem append_pairs (W : World) (ty : TypeId) (base base2 : Nat) (v : Value) (n : Nat) (xs : List Value) (hown : W.ownsRow base 31 2 v n xs) (a : Option Addr) (m c : Nat) (news : List Value) (hx : W.ownsRow base2 31 2 (.slice a m c) m news)
    (h1 : ∀ u ∈ news, u.oneCell' = true) (hnm : n + m ≤ 900000) (hbase : base ≤ W.heap.size) :
    ∃ v' w', (Builtin.append_ #[27, 27] ty #[v, .slice a m c]).run Tryz.prog W = .ok v' w' ∧ w'.ownsRow base 31 2 v' (n + m) (xs ++ news) ∧ W.grownBy w' v.ownBlock := by
  obtain ⟨i0, hi, hz0, hz1, hz2⟩ := info_parts infoP
  cases a with
  | none =>
    obtain ⟨hl, ⟨hv, h0⟩ | ⟨g, cap, cur, hv, _⟩⟩ := hx
    · subst h0
      have hnews : news = [] := List.eq_nil_of_length_eq_zero (by rw [hl])
      subst hnews
      rw [List.append_nil, Nat.add_zero]
      have hcap : ∃ b cap, v = .slice b n cap ∧ n ≤ cap := by
        obtain ⟨k1, ⟨rfl, k0⟩ | ⟨g, cap, cur, rfl, _, _, hle, _⟩⟩ := id hown
        · exact ⟨none, 0, by rw [k0], by omega⟩
        · exact ⟨_, cap, rfl, hle⟩
      obtain ⟨b, cap, rfl, hle⟩ := hcap
      exact ⟨_, W, run_append_none W _ ty _ i0 Tryz.underlying27 hi b n cap c hle, hown, ⟨rfl, rfl, rfl, Nat.le_refl _, fun _ _ _ => rfl⟩⟩
    · cases hv
  | some x =>
    obtain ⟨hl, ⟨hv, h0⟩ | ⟨g, cap, cur, hv, hr⟩⟩ := id hx
    · cases hv
    · have hgx : x = ⟨g, 0, none⟩ := by simp only [Value.slice.injEq] at hv; simpa using hv.1
      subst hgx
      obtain ⟨v', w', hrun, ho, hg, _⟩ := run_append_own (P := Tryz.prog) W base 27 ty 31 i0 (.agg #[.int .u64 0, .int .u64 0]) 2 16 Tryz.underlying27 hi hz0 hz1 hz2 rfl (by decide) v n xs hown ⟨g, 0, none⟩ m c news hl
        (hx.cells (g := g) rfl) h1 (by unfold maxLen; omega) (by omega) hbase
      exact ⟨v', w', hrun, ho, hg⟩
end Go.Proofs.Hc
/- slices.Clone at rows of pairs. -/
namespace Go.Proofs.Hc
open Go.RowKit
attribute [local go_sem] wrap_u64 wrap_u8 bits_xor64 bits_and64 bits_or64 bits_not64 bits_xor8 bits_and8 bits_or8 signed64 signed8 ofInt_N BitVec.ofInt_add BitVec.ofInt_mul ofInt_sub' ofInt8_N64 ofInt64_N8 wide8 eqN neN shr_pow shr1 shr7 shr56
attribute [local go_sem high] bits_com64 shl_wrap
attribute [local go_sem] cell_heap ice_heap cellAt_cells iceAt_cells setAt_cells rowAt_cells canLay_cells laidAt_cells size_onObj size_setCell rowRes_some layRes_true
attribute [local go_sem] load26 load73 load23 store26 build73
attribute [local go_sem ↓] lrow26 lrow73 lrow23 srow26 zero26 brow73 heap_alloc heap_drew heap_drewN heap_setCell heap_onObj
attribute [local go_sem] tcells_size hcells_size tcells_get hcells_get tcells_one hcells_one hcells_table tcells_table hcells_all hcells_ctrl tcells_ctrl
attribute [local go_sem] nn2 nm2 nn3 nm3 nn4 nm4 nn5 nm5 nn6 nm6 nn7 nm7 nn8 nm8
attribute [local go_sem] nn2 nm2 nn3 nm3 nn4 nm4 nn5 nm5 nn6 nm6 nn7 nm7 nn8 nm8
attribute [local go_sem] Oper.semAt_some make_func1
set_option maxHeartbeats 1000000 in
set_option maxRecDepth 100000 in
theorem clone_pairs (a : Option Addr) (n c base2 : Nat) (news : List Value) (w : World) (hx : w.ownsRow base2 31 2 (.slice a n c) n news) (h1 : ∀ u ∈ news, u.oneCell' = true) (hn : n ≤ 900000) :
    Calls Tryz.prog 10 #[.slice a n c] w fun e w' => ∃ a' c', e = .returned (.slice a' n c') ∧ w'.ownsRow w.heap.size 31 2 (.slice a' n c') n news ∧ Ch [] w w' := by
  have q22 : ∀ (w : World) (a : Option Addr) (n c n' c' : Nat), (binOp .eql 27 (.slice a n c) (.slice none n' c')).run Tryz.prog w = .ok (.bool a.isNone) w := fun w a n c n' c' => Lib.run_eql_slice_nil w _ _ a n c n' c' Tryz.underlying27
  cases a with
  | none =>
    have hn0 : n = 0 ∧ news = [] := by
      obtain ⟨hl, ⟨hv, h0⟩ | ⟨g, cap, cur, hv, _⟩⟩ := hx
      · subst h0; exact ⟨rfl, List.eq_nil_of_length_eq_zero (by rw [hl])⟩
      · cases hv
    obtain ⟨rfl, rfl⟩ := hn0
    clear hx
    go_enter Tryz.func10, Tryz.ntmps10
    go_wp2
    go_ret
    exact ⟨none, 0, rfl, World.ownsRow_nil _ _ _ _, Ch.refl _ _⟩
  | some x =>
    have hmade : (w.alloc (.cells #[] 31)).ownsRow w.heap.size 31 2 (.slice (some ⟨w.heap.size, 0, none⟩) 0 0) 0 [] := World.ownsRow_made w #[] 0 (Nat.le_refl _) (Nat.zero_le _) (by simp)
    have hcA : Ch [] w (w.alloc (.cells #[] 31)) := (Ch.refl [] w).alloc _
    obtain ⟨v', w1, hrun, hown, hgr⟩ := append_pairs (w.alloc (.cells #[] 31)) 27 w.heap.size base2 _ 0 [] hmade (some x) n c news (own_ch hx hcA (by simp)) h1 (by omega) (by simp)
    rw [Nat.zero_add, List.nil_append] at hown
    have hc1 : Ch [] w w1 := hcA.trans2 (Ch.of_grown (S := [w.heap.size]) hgr (fun k hk => by simp [Value.ownBlock] at hk; simp [hk])) (by simp)
    have bs : ∀ w : World, (Instr.buildSlice 27 0 #[]).run Tryz.prog w = .ok (.slice (some ⟨w.heap.size, 0, none⟩) 0 0) (w.alloc (.cells #[] 31)) := fun w => by kernel_rfl
    have HO := Lib.hid hown
    have HC := Lib.hid hc1
    clear hx hmade hcA hgr hown hc1
    go_enter Tryz.func10, Tryz.ntmps10
    go_wp2_with (at_builtin; refine Lib.wpList_append_run _ rfl _ _ 27 27 rfl _ _ rfl rfl _ _ hrun ?_)
    go_ret
    obtain ⟨a', c', rfl⟩ := own_form HO.out
    exact ⟨a', c', rfl, HO.out, HC.out⟩
end Go.Proofs.Hc
