/- slices.DeleteFunc at rows of pairs: what the walk needs. -/
import Derived.Test.YtaddieimkpijeaaGreatKHdf
set_option linter.unusedSimpArgs false
set_option linter.unusedVariables false
namespace Go.Proofs.Hc
open Go.RowKit
theorem pcells_set : ∀ (L : List (BitVec 64 × BitVec 64)) (i : Nat) (p : BitVec 64 × BitVec 64), i < L.length → (pcells L).take (2 * i) ++ [U p.1, U p.2] ++ (pcells L).drop (2 * i + 2) = pcells (L.set i p)
  | [], i, p, h => by simp at h
  | q :: L, 0, p, _ => rfl
  | q :: L, i + 1, p, h => by
    have ih := pcells_set L i p (by simpa using h)
    have e : pcells (q :: L) = U q.1 :: U q.2 :: pcells L := rfl
    have e2 : pcells ((q :: L).set (i + 1) p) = U q.1 :: U q.2 :: pcells (L.set i p) := rfl
    rw [e, e2, ← ih, show 2 * (i + 1) = 2 * i + 1 + 1 by omega, show 2 * i + 1 + 1 + 2 = (2 * i + 2) + 1 + 1 by omega]
    simp
theorem pcells_take (L : List (BitVec 64 × BitVec 64)) (i : Nat) : (pcells L).take (2 * i) = pcells (L.take i) := by
  induction L generalizing i with
  | nil => simp [pcells]
  | cons q L ih =>
    cases i with
    | zero => simp [pcells]
    | succ i =>
      have e : pcells (q :: L) = U q.1 :: U q.2 :: pcells L := rfl
      have e2 : pcells ((q :: L).take (i + 1)) = U q.1 :: U q.2 :: pcells (L.take i) := rfl
      rw [e, e2, ← ih i, show 2 * (i + 1) = 2 * i + 1 + 1 by omega]
      simp
/-- An own row, block and all. -/
structure RowOf (W : World) (base g n cap : Nat) (L : List (BitVec 64 × BitVec 64)) (cur : Array Value) : Prop where
  heap : W.heap[g]? = some (.cells cur 31 (0, 0))
  size : cur.size = cap * 2
  len : L.length = n
  le : n ≤ cap
  max : cap ≤ maxLen
  base : base ≤ g
  cells : cur.toList.take (2 * n) = pcells L
theorem RowOf.own {W : World} {base g n cap : Nat} {L : List (BitVec 64 × BitVec 64)} {cur : Array Value} (h : RowOf W base g n cap L cur) : W.ownsRow base 31 2 (.slice (some ⟨g, 0, none⟩) n cap) n (pcells L) :=
  ⟨by rw [pcells_len, h.len], .inr ⟨g, cap, cur, rfl, h.base, h.heap, h.le, h.max, h.size, by rw [Nat.mul_comm]; exact h.cells⟩⟩
theorem RowOf.of {W : World} {base n c : Nat} {L : List (BitVec 64 × BitVec 64)} {r : Nat} (hn : L.length = n) (h : W.ownsRow base 31 2 (.slice (some ⟨r, 0, none⟩) n c) n (pcells L)) : ∃ cur, RowOf W base r n c L cur := by
  obtain ⟨_, ⟨hv, _⟩ | ⟨g, cap, cur, hv, hb, hW, hle, hmx, hsz, hx⟩⟩ := h
  · cases hv
  · simp only [Value.slice.injEq, Option.some.injEq, Addr.mk.injEq, and_true, true_and] at hv
    obtain ⟨rfl, rfl⟩ := hv
    exact ⟨cur, hW, hsz, hn, hle, hmx, hb, by rw [Nat.mul_comm]; exact hx⟩
theorem RowOf.row {W : World} {base g n cap : Nat} {L : List (BitVec 64 × BitVec 64)} {cur : Array Value} (h : RowOf W base g n cap L cur) {i : Nat} {p : BitVec 64 × BitVec 64} (hp : L[i]? = some p) : rowAt (i * 2) 2 (.cells cur 31 (0, 0)) = some #[U p.1, U p.2] := by
  obtain ⟨cur', h1, h2, h3⟩ := pairs_at h.len.symm h.own
  have h4 := (h3 g rfl).2
  rw [h.heap] at h4
  have : cur = cur' := by simpa using h4
  subst this
  rw [Nat.mul_comm]
  exact h1 i p hp
/-- A pair that is stored. -/
theorem RowOf.put {W : World} {base g n cap : Nat} {L : List (BitVec 64 × BitVec 64)} {cur : Array Value} (h : RowOf W base g n cap L cur) {i : Nat} (hi : i < n) (p : BitVec 64 × BitVec 64) :
    ∃ cur', RowOf (World.onObj W g (laidAt (i * 2) #[U p.1, U p.2])) base g n cap (L.set i p) cur' := by
  have hsz := h.size
  have hle := h.le
  have hlen := h.len
  refine ⟨cur.extract 0 (i * 2) ++ #[U p.1, U p.2] ++ cur.extract (i * 2 + 2) cur.size, ?_, ?_, by rw [List.length_set]; exact hlen, hle, h.max, h.base, ?_⟩
  · rw [heap_onObj, if_pos rfl, h.heap]; rfl
  · simp only [Array.size_append, Array.size_extract, List.size_toArray, List.length_cons, List.length_nil]
    omega
  · rw [← pcells_set L i p (by omega), ← h.cells]
    have hcl : cur.toList.length = cap * 2 := by simpa using hsz
    have h1 : (cur.extract 0 (i * 2) ++ #[U p.1, U p.2] ++ cur.extract (i * 2 + 2) cur.size).toList = cur.toList.take (2 * i) ++ [U p.1, U p.2] ++ cur.toList.drop (2 * i + 2) := by
      simp only [Array.toList_append, Array.toList_extract, List.extract_eq_take_drop, Nat.sub_zero, List.drop_zero, Nat.mul_comm i 2]
      rw [List.take_of_length_le (l := List.drop (2 * i + 2) cur.toList) (by rw [List.length_drop, Array.length_toList]; omega)]
    rw [h1]
    generalize cur.toList = cl at *
    rw [show (cl.take (2 * n)).take (2 * i) = cl.take (2 * i) by rw [List.take_take, Nat.min_eq_left (by omega)]]
    have e : (cl.take (2 * i) ++ [U p.1, U p.2]).length = 2 * i + 2 := by simp; omega
    rw [List.take_append, e, List.take_of_length_le (by rw [e]; omega), List.drop_take]
theorem zeroPairs (n : Nat) : ∀ v ∈ (Builtin.zeroCells (#[.int .u64 0, .int .u64 0] : Array Value) n).toList, v.oneCell' = true := by
  intro v hv
  unfold Builtin.zeroCells at hv
  simp only [Array.toList_map, List.mem_map] at hv
  obtain ⟨i, _, rfl⟩ := hv
  have : i % (#[.int .u64 0, .int .u64 0] : Array Value).size = 0 ∨ i % (#[.int .u64 0, .int .u64 0] : Array Value).size = 1 := by show i % 2 = 0 ∨ i % 2 = 1; omega
  rcases this with h | h <;> rw [h] <;> rfl
theorem zeroP_run (w : World) : (zeroValue 31).run Tryz.prog w = .ok (.agg #[.int .u64 0, .int .u64 0]) w := by kernel_rfl
/-- The rest of a row is cleared. -/
theorem RowOf.clear {W : World} {base g n cap : Nat} {L : List (BitVec 64 × BitVec 64)} {cur : Array Value} (h : RowOf W base g n cap L cur) {i : Nat} (hi : i < n) (ty : TypeId) (c : Nat) :
    ∃ W', (Builtin.clear_ #[27] ty #[.slice (some ⟨g, i * 2, none⟩) (n - i) c]).run Tryz.prog W = .ok (.tuple #[]) W' ∧ Ch [g] W W' ∧ ∃ cur', RowOf W' base g i cap (L.take i) cur' := by
  have hsz := h.size
  have hle := h.le
  have hlen := h.len
  obtain ⟨zs, hzs⟩ : ∃ zs, (Builtin.zeroCells (#[.int .u64 0, .int .u64 0] : Array Value) (n - i)).toList = zs := ⟨_, rfl⟩
  have hzl : zs.length = (n - i) * 2 := by rw [← hzs]; simp [Builtin.zeroCells]
  have hst := run_storeCells_at (P := Tryz.prog) g (i * 2) 31 zs 0 cur W h.heap (by rw [hzl]; omega) (by rw [← hzs]; exact zeroPairs _)
  have hne : n - i ≠ 0 := by omega
  refine ⟨W.setRow g (cur.toList.take (i * 2 + 0) ++ zs ++ cur.toList.drop (i * 2 + 0 + zs.length)).toArray, ?_, ?_, ?_⟩
  · simp only [Nat.add_zero] at hst ⊢
    have hz := zeroP_run W
    cases hm : n - i with
    | zero => omega
    | succ k =>
      rw [hm] at hzs
      simp [Builtin.clear_, run_underlying Tryz.underlying27, hz, Value.cells, hzs, hst]
  · exact ⟨rfl, rfl, rfl, by simp, fun k _ hk => setRow_other W g k _ (by simpa using hk)⟩
  · refine ⟨_, setRow_heap W g cur _ 31 _ h.heap, ?_, by rw [List.length_take]; omega, by omega, h.max, h.base, ?_⟩
    · simp only [List.size_toArray, List.length_append, List.length_take, List.length_drop, Array.length_toList, hzl]
      omega
    · rw [← pcells_take, ← h.cells, List.take_take, Nat.min_eq_left (by omega)]
      simp only [Nat.add_zero]
      rw [List.append_assoc, List.take_append, List.length_take, Array.length_toList, Nat.min_eq_left (by omega), show 2 * i - i * 2 = 0 by omega, List.take_zero, List.append_nil, List.take_take, Nat.min_eq_left (by omega)]
end Go.Proofs.Hc
