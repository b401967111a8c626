/- slices.IndexFunc, slices.DeleteFunc at rows of pairs, by the statement's own test. -/
import Derived.Test.YtaddieimkpijeaaGreatKHscHapHcl
set_option linter.unusedSimpArgs false
set_option linter.unusedVariables false
namespace Go.Proofs.Hc
open Go.RowKit
attribute [local go_sem] wrap_u64 wrap_u8 bits_xor64 bits_and64 bits_or64 bits_not64 bits_xor8 bits_and8 bits_or8 signed64 signed8 ofInt_N BitVec.ofInt_add BitVec.ofInt_mul ofInt_sub' ofInt8_N64 ofInt64_N8 wide8 eqN neN shr_pow shr1 shr7 shr56
attribute [local go_sem high] bits_com64 shl_wrap
attribute [local go_sem] cell_heap ice_heap cellAt_cells iceAt_cells setAt_cells rowAt_cells canLay_cells laidAt_cells size_onObj size_setCell rowRes_some layRes_true
attribute [local go_sem] load26 load73 load23 store26 build73
attribute [local go_sem ↓] lrow26 lrow73 lrow23 srow26 zero26 brow73 heap_alloc heap_drew heap_drewN heap_setCell heap_onObj
attribute [local go_sem] tcells_size hcells_size tcells_get hcells_get tcells_one hcells_one hcells_table tcells_table hcells_all hcells_ctrl tcells_ctrl
attribute [local go_sem] nn2 nm2 nn3 nm3 nn4 nm4 nn5 nm5 nn6 nm6 nn7 nm7 nn8 nm8
attribute [local go_sem] nn2 nm2 nn3 nm3 nn4 nm4 nn5 nm5 nn6 nm6 nn7 nm7 nn8 nm8
attribute [local go_sem] Oper.semAt_some make_func1
attribute [local go_sem] loadP storeP allOne_pair
attribute [local go_sem high] laidAt_p
attribute [local go_sem ↓] lrowP srowP zeroP
theorem box_pair (x y : BitVec 64) (w : World) : (Instr.box 31 (.agg #[U x, U y])).run Tryz.prog w = .ok (.pointer (some ⟨w.heap.size, 0, none⟩)) (w.alloc (.cells #[U x, U y] 31)) := rfl
attribute [local go_sem] box_pair
set_option maxRecDepth 100000 in
theorem keeps1_any (x p : BitVec 64 × BitVec 64) (pb : Nat) (w : World) (hp : w.heap[pb]? = some (.cells #[U p.1, U p.2] 31 (0, 0))) :
    Calls Tryz.prog 37 #[.agg #[U x.1, U x.2], .pointer (some ⟨pb, 0, none⟩)] w fun e w' => e = .returned (.bool (x.1 == p.1)) ∧ Ch [] w w' := by
  have hne : ¬ pb = w.heap.size := by have := (Array.getElem?_eq_some_iff.1 hp).1; omega
  go_enter Tryz.func37, Tryz.ntmps37
  go_wp2
  go_ret
  exact ⟨rfl, (Ch.refl [] w).alloc _⟩
/-- The place of the first pair of a row that has a key, or minus one. -/
def IdxF (w : World) (l : List (BitVec 64 × BitVec 64)) (k : BitVec 64) (e : Ending) (w' : World) : Prop :=
  ∃ n : Int, e = .returned (I n) ∧ Ch [] w w' ∧ (n = -1 ∧ (∀ q ∈ l, q.1 ≠ k) ∨ ∃ (j : Nat) (q : BitVec 64 × BitVec 64), n = j ∧ l[j]? = some q ∧ q.1 = k ∧ ∀ q ∈ l.take j, q.1 ≠ k)
set_option maxHeartbeats 1000000 in
set_option maxRecDepth 100000 in
theorem indexF_any (l : List (BitVec 64 × BitVec 64)) (p : BitVec 64 × BitVec 64) (pb : Nat) (a : Option Addr) (c : Nat) (cur : Array Value) (w : World) (hl : l.length ≤ 900000)
    (hpa : PairsAt cur l) (ha : 0 < l.length → ∃ r, a = some ⟨r, 0, none⟩) (hr : ∀ r, a = some ⟨r, 0, none⟩ → w.heap[r]? = some (.cells cur 31 (0, 0))) (hp : w.heap[pb]? = some (.cells #[U p.1, U p.2] 31 (0, 0))) :
    Calls Tryz.prog 76 #[.slice a l.length c, .func (.func 37) #[] #[.pointer (some ⟨pb, 0, none⟩)]] w (IdxF w l p.1) := by
  have HP := Lib.hid hpa
  have HA := Lib.hid ha
  have HR := Lib.hid hr
  have F1 := fun (q : BitVec 64 × BitVec 64) (W : World) (h : Ch [] w W) => keeps1_any q p pb W (hkeep h hp)
  clear hpa ha hr hp
  go_enter Tryz.func76, Tryz.ntmps76
  go_wp2
  go_loopw [8] (fun i wr => ∃ j : Nat, i = .int .i64 j ∧ j ≤ l.length ∧ (∀ q ∈ l.take j, q.1 ≠ p.1) ∧ Ch [] w wr) (fun i _ => l.length - (intOf i).toNat)
  case atStart => exact ⟨0, rfl, Nat.zero_le _, by simp, Ch.refl _ _⟩
  case round =>
    obtain ⟨j, hj, hjl, hno, hcr⟩ := hrel
    subst hj
    rcases Nat.lt_or_ge j l.length with hlt | hge
    · obtain ⟨r, hra⟩ := HA.out (by omega)
      obtain ⟨q, hqm, -⟩ := drop_one hlt
      have hrow' : rowAt (j * 2) 2 (.cells cur 31 (0, 0)) = some #[U q.1, U q.2] := by rw [Nat.mul_comm]; exact HP.out j q hqm
      subst hra
      have hrr : wr.heap[r]? = some (.cells cur 31 (0, 0)) := hkeep hcr (HR.out r rfl)
      have hdec : decide (j < l.length) = true := by simpa using hlt
      have F2 := F1 q wr hcr
      have HNO := Lib.hid hno
      have HQ := Lib.hid hqm
      clear hno hqm F1
      cases hq : (q.1 == p.1)
      all_goals
        have HE := Lib.hid hq
        rw [hq] at F2
        clear hq
        go_wp2_with (go_at_call 37; refine F2.mono ?_; rintro e wg ⟨rfl, hcg⟩)
      · have hne : q.1 ≠ p.1 := by have := HE.out; simpa using this
        go_roundw
        case rel => exact ⟨j + 1, by go_num, hlt, take_nextG (P := fun q => q.1 ≠ p.1) HNO.out HQ.out hne, hcr.trans hcg⟩
        case measure => simp [intOf]; omega
      · have heq : q.1 = p.1 := by have := HE.out; simpa using this
        go_ret
        exact ⟨j, rfl, hcr.trans hcg, .inr ⟨j, q, rfl, HQ.out, heq, HNO.out⟩⟩
    · have hme : j = l.length := Nat.le_antisymm hjl hge
      have hdec : decide (j < l.length) = false := by simpa using hge
      have hno' : ∀ q ∈ l, q.1 ≠ p.1 := by rw [hme, List.take_length] at hno; exact hno
      have HN := Lib.hid hno'
      clear hno hme hge hno'
      go_wp2
      go_ret
      exact ⟨-1, rfl, hcr, .inl ⟨rfl, HN.out⟩⟩
end Go.Proofs.Hc
/- slices.DeleteFunc at rows of pairs: what the walk needs. -/
namespace Go.Proofs.Hc
open Go.RowKit
theorem pcells_set : ∀ (L : List (BitVec 64 × BitVec 64)) (i : Nat) (p : BitVec 64 × BitVec 64), i < L.length → (pcells L).take (2 * i) ++ [U p.1, U p.2] ++ (pcells L).drop (2 * i + 2) = pcells (L.set i p)
  | [], i, p, h => by simp at h
  | q :: L, 0, p, _ => rfl
  | q :: L, i + 1, p, h => by
    have ih := pcells_set L i p (by simpa using h)
    have e : pcells (q :: L) = U q.1 :: U q.2 :: pcells L := rfl
    have e2 : pcells ((q :: L).set (i + 1) p) = U q.1 :: U q.2 :: pcells (L.set i p) := rfl
    rw [e, e2, ← ih, show 2 * (i + 1) = 2 * i + 1 + 1 by omega, show 2 * i + 1 + 1 + 2 = (2 * i + 2) + 1 + 1 by omega]
    simp
theorem pcells_take (L : List (BitVec 64 × BitVec 64)) (i : Nat) : (pcells L).take (2 * i) = pcells (L.take i) := by
  induction L generalizing i with
  | nil => simp [pcells]
  | cons q L ih =>
    cases i with
    | zero => simp [pcells]
    | succ i =>
      have e : pcells (q :: L) = U q.1 :: U q.2 :: pcells L := rfl
      have e2 : pcells ((q :: L).take (i + 1)) = U q.1 :: U q.2 :: pcells (L.take i) := rfl
      rw [e, e2, ← ih i, show 2 * (i + 1) = 2 * i + 1 + 1 by omega]
      simp
/-- An own row, block and all. -/
structure RowOf (W : World) (base g n cap : Nat) (L : List (BitVec 64 × BitVec 64)) (cur : Array Value) : Prop where
  heap : W.heap[g]? = some (.cells cur 31 (0, 0))
  size : cur.size = cap * 2
  len : L.length = n
  le : n ≤ cap
  max : cap ≤ maxLen
  base : base ≤ g
  cells : cur.toList.take (2 * n) = pcells L
theorem RowOf.own {W : World} {base g n cap : Nat} {L : List (BitVec 64 × BitVec 64)} {cur : Array Value} (h : RowOf W base g n cap L cur) : W.ownsRow base 31 2 (.slice (some ⟨g, 0, none⟩) n cap) n (pcells L) :=
  ⟨by rw [pcells_len, h.len], .inr ⟨g, cap, cur, rfl, h.base, h.heap, h.le, h.max, h.size, by rw [Nat.mul_comm]; exact h.cells⟩⟩
theorem RowOf.of {W : World} {base n c : Nat} {L : List (BitVec 64 × BitVec 64)} {r : Nat} (hn : L.length = n) (h : W.ownsRow base 31 2 (.slice (some ⟨r, 0, none⟩) n c) n (pcells L)) : ∃ cur, RowOf W base r n c L cur := by
  obtain ⟨_, ⟨hv, _⟩ | ⟨g, cap, cur, hv, hb, hW, hle, hmx, hsz, hx⟩⟩ := h
  · cases hv
  · simp only [Value.slice.injEq, Option.some.injEq, Addr.mk.injEq, and_true, true_and] at hv
    obtain ⟨rfl, rfl⟩ := hv
    exact ⟨cur, hW, hsz, hn, hle, hmx, hb, by rw [Nat.mul_comm]; exact hx⟩
theorem RowOf.row {W : World} {base g n cap : Nat} {L : List (BitVec 64 × BitVec 64)} {cur : Array Value} (h : RowOf W base g n cap L cur) {i : Nat} {p : BitVec 64 × BitVec 64} (hp : L[i]? = some p) : rowAt (i * 2) 2 (.cells cur 31 (0, 0)) = some #[U p.1, U p.2] := by
  obtain ⟨cur', h1, h2, h3⟩ := pairs_at h.len.symm h.own
  have h4 := (h3 g rfl).2
  rw [h.heap] at h4
  have : cur = cur' := by simpa using h4
  subst this
  rw [Nat.mul_comm]
  exact h1 i p hp
/-- A pair that is stored. -/
theorem RowOf.put {W : World} {base g n cap : Nat} {L : List (BitVec 64 × BitVec 64)} {cur : Array Value} (h : RowOf W base g n cap L cur) {i : Nat} (hi : i < n) (p : BitVec 64 × BitVec 64) :
    ∃ cur', RowOf (World.onObj W g (laidAt (i * 2) #[U p.1, U p.2])) base g n cap (L.set i p) cur' := by
  have hsz := h.size
  have hle := h.le
  have hlen := h.len
  refine ⟨cur.extract 0 (i * 2) ++ #[U p.1, U p.2] ++ cur.extract (i * 2 + 2) cur.size, ?_, ?_, by rw [List.length_set]; exact hlen, hle, h.max, h.base, ?_⟩
  · rw [heap_onObj, if_pos rfl, h.heap]; rfl
  · simp only [Array.size_append, Array.size_extract, List.size_toArray, List.length_cons, List.length_nil]
    omega
  · rw [← pcells_set L i p (by omega), ← h.cells]
    have hcl : cur.toList.length = cap * 2 := by simpa using hsz
    have h1 : (cur.extract 0 (i * 2) ++ #[U p.1, U p.2] ++ cur.extract (i * 2 + 2) cur.size).toList = cur.toList.take (2 * i) ++ [U p.1, U p.2] ++ cur.toList.drop (2 * i + 2) := by
      simp only [Array.toList_append, Array.toList_extract, List.extract_eq_take_drop, Nat.sub_zero, List.drop_zero, Nat.mul_comm i 2]
      rw [List.take_of_length_le (l := List.drop (2 * i + 2) cur.toList) (by rw [List.length_drop, Array.length_toList]; omega)]
    rw [h1]
    generalize cur.toList = cl at *
    rw [show (cl.take (2 * n)).take (2 * i) = cl.take (2 * i) by rw [List.take_take, Nat.min_eq_left (by omega)]]
    have e : (cl.take (2 * i) ++ [U p.1, U p.2]).length = 2 * i + 2 := by simp; omega
    rw [List.take_append, e, List.take_of_length_le (by rw [e]; omega), List.drop_take]
theorem zeroPairs (n : Nat) : ∀ v ∈ (Builtin.zeroCells (#[.int .u64 0, .int .u64 0] : Array Value) n).toList, v.oneCell' = true := by
  intro v hv
  unfold Builtin.zeroCells at hv
  simp only [Array.toList_map, List.mem_map] at hv
  obtain ⟨i, _, rfl⟩ := hv
  have : i % (#[.int .u64 0, .int .u64 0] : Array Value).size = 0 ∨ i % (#[.int .u64 0, .int .u64 0] : Array Value).size = 1 := by show i % 2 = 0 ∨ i % 2 = 1; omega
  rcases this with h | h <;> rw [h] <;> rfl
theorem zeroP_run (w : World) : (zeroValue 31).run Tryz.prog w = .ok (.agg #[.int .u64 0, .int .u64 0]) w := by kernel_rfl
/-- The rest of a row is cleared. -/
theorem RowOf.clear {W : World} {base g n cap : Nat} {L : List (BitVec 64 × BitVec 64)} {cur : Array Value} (h : RowOf W base g n cap L cur) {i : Nat} (hi : i < n) (ty : TypeId) (c : Nat) :
    ∃ W', (Builtin.clear_ #[27] ty #[.slice (some ⟨g, i * 2, none⟩) (n - i) c]).run Tryz.prog W = .ok (.tuple #[]) W' ∧ Ch [g] W W' ∧ ∃ cur', RowOf W' base g i cap (L.take i) cur' := by
  have hsz := h.size
  have hle := h.le
  have hlen := h.len
  obtain ⟨zs, hzs⟩ : ∃ zs, (Builtin.zeroCells (#[.int .u64 0, .int .u64 0] : Array Value) (n - i)).toList = zs := ⟨_, rfl⟩
  have hzl : zs.length = (n - i) * 2 := by rw [← hzs]; simp [Builtin.zeroCells]
  have hst := run_storeCells_at (P := Tryz.prog) g (i * 2) 31 zs 0 cur W h.heap (by rw [hzl]; omega) (by rw [← hzs]; exact zeroPairs _)
  have hne : n - i ≠ 0 := by omega
  refine ⟨W.setRow g (cur.toList.take (i * 2 + 0) ++ zs ++ cur.toList.drop (i * 2 + 0 + zs.length)).toArray, ?_, ?_, ?_⟩
  · simp only [Nat.add_zero] at hst ⊢
    have hz := zeroP_run W
    cases hm : n - i with
    | zero => omega
    | succ k =>
      rw [hm] at hzs
      simp [Builtin.clear_, run_underlying Tryz.underlying27, hz, Value.cells, hzs, hst]
  · exact ⟨rfl, rfl, rfl, by simp, fun k _ hk => setRow_other W g k _ (by simpa using hk)⟩
  · refine ⟨_, setRow_heap W g cur _ 31 _ h.heap, ?_, by rw [List.length_take]; omega, by omega, h.max, h.base, ?_⟩
    · simp only [List.size_toArray, List.length_append, List.length_take, List.length_drop, Array.length_toList, hzl]
      omega
    · rw [← pcells_take, ← h.cells, List.take_take, Nat.min_eq_left (by omega)]
      simp only [Nat.add_zero]
      rw [List.append_assoc, List.take_append, List.length_take, Array.length_toList, Nat.min_eq_left (by omega), show 2 * i - i * 2 = 0 by omega, List.take_zero, List.append_nil, List.take_take, Nat.min_eq_left (by omega)]
end Go.Proofs.Hc
/- slices.DeleteFunc at rows of pairs, by the statement's own test. -/
namespace Go.Proofs.Hc
open Go.RowKit
attribute [local go_sem] wrap_u64 wrap_u8 bits_xor64 bits_and64 bits_or64 bits_not64 bits_xor8 bits_and8 bits_or8 signed64 signed8 ofInt_N BitVec.ofInt_add BitVec.ofInt_mul ofInt_sub' ofInt8_N64 ofInt64_N8 wide8 eqN neN shr_pow shr1 shr7 shr56
attribute [local go_sem high] bits_com64 shl_wrap
attribute [local go_sem] cell_heap ice_heap cellAt_cells iceAt_cells setAt_cells rowAt_cells canLay_cells laidAt_cells size_onObj size_setCell rowRes_some layRes_true
attribute [local go_sem] load26 load73 load23 store26 build73
attribute [local go_sem ↓] lrow26 lrow73 lrow23 srow26 zero26 brow73 heap_alloc heap_drew heap_drewN heap_setCell heap_onObj
attribute [local go_sem] tcells_size hcells_size tcells_get hcells_get tcells_one hcells_one hcells_table tcells_table hcells_all hcells_ctrl tcells_ctrl
attribute [local go_sem] nn2 nm2 nn3 nm3 nn4 nm4 nn5 nm5 nn6 nm6 nn7 nm7 nn8 nm8
attribute [local go_sem] nn2 nm2 nn3 nm3 nn4 nm4 nn5 nm5 nn6 nm6 nn7 nm7 nn8 nm8
attribute [local go_sem] Oper.semAt_some make_func1
attribute [local go_sem] loadP storeP allOne_pair
attribute [local go_sem high] laidAt_p
attribute [local go_sem ↓] lrowP srowP zeroP
/-- The pairs of a row whose key is another one. -/
def delK (k : BitVec 64) (l : List (BitVec 64 × BitVec 64)) : List (BitVec 64 × BitVec 64) := l.filter fun q => !(q.1 == k)
theorem delK_none {k : BitVec 64} {l : List (BitVec 64 × BitVec 64)} (h : ∀ q ∈ l, q.1 ≠ k) : delK k l = l := by
  unfold delK
  rw [List.filter_eq_self]
  intro q hq
  simpa using h q hq
theorem take_filt {α : Type} (f : α → Bool) {l : List α} {j : Nat} {q : α} (h : l[j]? = some q) : (l.take (j + 1)).filter f = (l.take j).filter f ++ if f q then [q] else [] := by
  rw [List.take_add_one, h, List.filter_append]
  simp only [Option.toList_some, List.filter_cons, List.filter_nil]
theorem delK_snoc {k : BitVec 64} {l : List (BitVec 64 × BitVec 64)} {j : Nat} {q : BitVec 64 × BitVec 64} (h : l[j]? = some q) : delK k (l.take (j + 1)) = delK k (l.take j) ++ if q.1 == k then [] else [q] := by
  unfold delK
  rw [take_filt _ h]
  cases (q.1 == k) <;> rfl
theorem RowOf.ch {W W' : World} {S : List Nat} {base g n cap : Nat} {L : List (BitVec 64 × BitVec 64)} {cur : Array Value} (h : RowOf W base g n cap L cur) (c : Ch S W W') (hg : g ∉ S) : RowOf W' base g n cap L cur := ⟨hkeepS c hg h.heap, h.size, h.len, h.le, h.max, h.base, h.cells⟩
theorem take_set_succ {α : Type} {L : List α} {i : Nat} {q : α} (h : i < L.length) : (L.set i q).take (i + 1) = L.take i ++ [q] := by
  rw [List.take_add_one, List.getElem?_set_self h, List.take_set_of_le (Nat.le_refl _)]
  rfl
theorem drop_get {α : Type} {L l : List α} {j : Nat} {q : α} (h : L.drop j = l.drop j) (hq : l[j]? = some q) : L[j]? = some q := by
  have := congrArg (fun x => x[0]?) h
  simp only [List.getElem?_drop, Nat.add_zero] at this
  rw [this]; exact hq
theorem drop_more {α : Type} {L l : List α} {j : Nat} (h : L.drop j = l.drop j) : L.drop (j + 1) = l.drop (j + 1) := by
  rw [← List.drop_drop, ← List.drop_drop, h]
/-- What a row that loses a key comes to. -/
def DelPost (w : World) (base : Nat) (l : List (BitVec 64 × BitVec 64)) (e : Ending) (w' : World) : Prop :=
  ∃ a c S, e = .returned (.slice a l.length c) ∧ w'.ownsRow base 31 2 (.slice a l.length c) l.length (pcells l) ∧ Ch S w w' ∧ ∀ s ∈ S, base ≤ s
set_option maxHeartbeats 2000000 in
set_option maxRecDepth 100000 in
theorem delete_any (l : List (BitVec 64 × BitVec 64)) (p : BitVec 64 × BitVec 64) (pb base : Nat) (a : Option Addr) (c : Nat) (w : World) (hl : l.length ≤ 900000)
    (hown : w.ownsRow base 31 2 (.slice a l.length c) l.length (pcells l)) (hp : w.heap[pb]? = some (.cells #[U p.1, U p.2] 31 (0, 0))) (hpb : pb < base) :
    Calls Tryz.prog 36 #[.slice a l.length c, .func (.func 37) #[] #[.pointer (some ⟨pb, 0, none⟩)]] w (DelPost w base (delK p.1 l)) := by
  obtain ⟨cur0, h1, h2, h3⟩ := pairs_at rfl hown
  have I1 := indexF_any l p pb a c cur0 w hl h1 h2 (fun r hr => (h3 r hr).2) hp
  have HO := Lib.hid hown
  have HA := Lib.hid h2
  clear hown h1 h2 h3
  go_enter Tryz.func36, Tryz.ntmps36
  go_wp2_with fail
  refine I1.mono ?_
  rintro e w1 ⟨n, rfl, hc1, hn⟩
  have HO1 := Lib.hid (own_ch HO.out hc1 (by simp))
  rcases hn with ⟨rfl, hno⟩ | ⟨j0, q0, rfl, hq0, hk0, hbef⟩
  · have HD := Lib.hid (delK_none hno)
    clear hno I1
    go_wp2
    go_ret
    exact ⟨a, c, [], by rw [HD.out]; rfl, by rw [HD.out]; exact HO1.out, hc1, by simp⟩
  · have hj0 : j0 < l.length := (List.getElem?_eq_some_iff.1 hq0).1
    obtain ⟨r, hra⟩ := HA.out (by omega)
    subst hra
    obtain ⟨cur, hrow⟩ := RowOf.of rfl HO1.out
    have hm1 : ((j0 : Int) == -1) = false := by first | (simp; done) | (simp; omega)
    have HB := Lib.hid (show delK p.1 (l.take j0) = l.take j0 from delK_none hbef)
    have HQ0 := Lib.hid hq0
    have HK0 := Lib.hid hk0
    have hrb := hrow.base
    have hle := hrow.le
    have HROW := Lib.hid hrow
    have F1 := fun (q : BitVec 64 × BitVec 64) (W : World) (h : W.heap[pb]? = _) => keeps1_any q p pb W h
    have hp1 := hkeep hc1 hp
    clear hrow hbef hq0 hk0 I1 hp
    go_wp2
    go_loopw [5, 6] (fun x y wr => ∃ (i j : Nat) (L : List (BitVec 64 × BitVec 64)) (cu : Array Value), x = .int .i64 i ∧ y = .int .i64 j ∧ i < j ∧ j ≤ l.length ∧ L.take i = delK p.1 (l.take j) ∧ L.drop j = l.drop j ∧ RowOf wr base r l.length c L cu ∧ Ch [r] w1 wr) (fun _ y _ => l.length - (intOf y).toNat)
    case atStart => exact ⟨j0, j0 + 1, l, cur, rfl, by go_num, by omega, by omega, by rw [delK_snoc HQ0.out, HB.out, HK0.out]; simp, rfl, HROW.out, Ch.refl _ _⟩
    case round =>
      obtain ⟨i, j, L, cu, hx, hy, hij, hjl, hLi, hLj, hR, hcr⟩ := hrel
      subst hx hy
      have hil : i < l.length := by omega
      have hRW := Lib.hid hR
      have hWr := hR.heap
      have hsz : i * 2 + 2 ≤ cu.size := by have := hR.size; have := hR.le; omega
      have hpr : pb ∉ [r] := by simp; omega
      have hpw := hkeepS hcr hpr hp1
      rcases Nat.lt_or_ge j l.length with hlt | hge
      · obtain ⟨q, hqm, -⟩ := drop_one hlt
        have hrow' := hR.row (drop_get hLj hqm)
        have hdec : decide (j < l.length) = true := by simpa using hlt
        have hne : ¬ pb = wr.heap.size := by have := (Array.getElem?_eq_some_iff.1 hpw).1; omega
        have hne2 : ¬ r = wr.heap.size := by have := (Array.getElem?_eq_some_iff.1 hWr).1; omega
        have F2 := F1 q
        have HD := Lib.hid (delK_snoc (k := p.1) hqm)
        have HLI := Lib.hid hLi
        have HLJ := Lib.hid hLj
        have HPW := Lib.hid hpw
        clear hqm F1 hLi hLj hR hp1 hpw
        cases hq : (q.1 == p.1)
        all_goals
          have HE := Lib.hid hq
          rw [hq] at F2
          clear hq
          go_wp2_with (go_at_call 37; refine (F2 _ (by simp [go_sem, hne, HPW.out])).mono ?_; rintro e wg ⟨rfl, hcg⟩; have gp := hkeep hcg (show (World.onObj (wr.alloc (.cells #[U 0#64, U 0#64] 31)) wr.heap.size (laidAt 0 #[U q.1, U q.2])).heap[wr.heap.size]? = some (.cells #[U q.1, U q.2] 31 (0, 0)) by simp [go_sem]); have HCW : Hid (Ch [] wr wg) := Lib.hid ((((Ch.refl [] wr).alloc (.cells #[U 0#64, U 0#64] 31)).onObj (.inr (Nat.le_refl _)) _).trans hcg); clear hcg; have gr := hkeep HCW.out hWr)
        · obtain ⟨cu', hR'⟩ := (hRW.out.ch HCW.out (by simp)).put hil q
          have hE : (q.1 == p.1) = false := HE.out
          go_roundw
          case rel => exact ⟨i + 1, j + 1, L.set i q, cu', by go_num, by go_num, by omega, hlt, by rw [take_set_succ (by rw [hRW.out.len]; exact hil), HLI.out, HD.out, hE]; rfl, by rw [List.drop_set_of_lt (by omega)]; exact drop_more HLJ.out, hR', (hcr.pure HCW.out).onObj (.inl (by simp)) _⟩
          case measure => simp [intOf]; omega
        · have hE : (q.1 == p.1) = true := HE.out
          go_roundw
          case rel => exact ⟨i, j + 1, L, cu, by go_num, by go_num, by omega, hlt, by rw [HLI.out, HD.out, hE]; simp, drop_more HLJ.out, hRW.out.ch HCW.out (by simp), hcr.pure HCW.out⟩
          case measure => simp [intOf]; omega
      · have hme : j = l.length := Nat.le_antisymm hjl hge
        have hdec : decide (j < l.length) = false := by simpa using hge
        rw [hme, List.take_length] at hLi
        obtain ⟨W', hrun, hch, cur', hR'⟩ := hR.clear hil 0 (c - i)
        have hlen : (delK p.1 l).length = i := by rw [← hLi, List.length_take, hR.len]; omega
        have HF := Lib.hid hR'.own
        have HLI := Lib.hid hLi
        have HLN := Lib.hid hlen
        have HCH := Lib.hid hch
        have hic : i < c := by omega
        have hnc : ¬ i = c := by omega
        clear hLi hLj hR hR' hme hge hlen hch hWr hpw hp1 F1
        go_wp2
        go_ret
        exact ⟨some ⟨r, 0, none⟩, c, [r], by rw [HLN.out]; rfl, by rw [HLN.out, ← HLI.out]; exact HF.out, (hc1.of_nil.trans hcr).trans HCH.out, fun s hs => by rw [List.mem_singleton.1 hs]; exact hrb⟩
end Go.Proofs.Hc
