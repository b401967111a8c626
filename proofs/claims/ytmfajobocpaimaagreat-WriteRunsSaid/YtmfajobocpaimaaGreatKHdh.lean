/- Rows of words that are joined and filled up: slices.Grow, slices.Concat, layout.padded. -/
import Derived.Test.YtmfajobocpaimaaGreatKHxe
import Derived.Test.YtmfajobocpaimaaGreatKHpa
import Derived.Test.YtmfajobocpaimaaGreatKHq
import Derived.Test.YtmfajobocpaimaaGreatKHr
import Derived.Test.YtmfajobocpaimaaGreatKHta
import Derived.Test.YtmfajobocpaimaaGreatKHop2
import Derived.Test.YtmfajobocpaimaaGreatKHxo
import Derived.Below
import Derived.BigQuiet
import Derived.Deep.Draws
import Derived.Deep.QuietTactic
import Derived.Laws.CopyRow
import Derived.Laws.Tables
import Derived.Lib.AppendZerosOnto
import Derived.Lib.Hide
import Derived.Lib.Tables
import Derived.Lib.Walk
import Derived.LoopIn
import Derived.LoopN
import Derived.LoopNIn
import Derived.Maps.AppendAt
import Derived.OwnWalkIn
import Derived.RangeFuncBox
import Derived.RangeFuncCalls
import Derived.RangeFuncRecord
import Derived.RangeFuncSeq
import Derived.Recover
import Derived.RegionTactic
import Derived.Shelf.Slices.Clone
import Derived.StillTail
import Derived.TacticsInMore
import Derived.Test.YtmfajobocpaimaaGreatProg
import Derived.WalkKit
import Derived.WalkLawsBesides
import Derived.WalkMore
import Derived.WalkSpells
import Derived.Maps.Views
import Derived.Deep.Light
import Derived.Deep.RegionHeld
import Derived.StillTailTactics
import Derived.Laws.StructEq
set_option linter.unusedSimpArgs false
set_option linter.unusedVariables false
namespace Go.Proofs.Hc
open Go.RowKit
attribute [local go_sem] wrap_u64 wrap_u8 bits_xor64 bits_and64 bits_or64 bits_not64 bits_xor8 bits_and8 bits_or8 signed64 signed8 ofInt_N BitVec.ofInt_add BitVec.ofInt_mul ofInt_sub' ofInt8_N64 ofInt64_N8 wide8 eqN neN shr_pow shr1 shr7 shr56
attribute [local go_sem high] bits_com64 shl_wrap
attribute [local go_sem] nn2 nm2 nn3 nm3 nn4 nm4 nn5 nm5 nn6 nm6 nn7 nm7 nn8 nm8
attribute [local go_sem] Oper.semAt_some make_func1
attribute [local go_sem] cell_heap ice_heap cellAt_cells iceAt_cells setAt_cells size_setCell
attribute [local go_sem ↓] heap_alloc heap_drew heap_drewN heap_setCell
theorem infoU : (Tryz.prog.info? 22).map (fun i => (i.zero, i.size, i.bytes)) = some (some (U 0#64), 1, 8) := by kernel_rfl
/-- A row that lies in memory. -/
structure RowAt (w : World) (b o : Nat) (xs : List Value) : Prop where
  old : b < w.heap.size
  one : ∀ u ∈ xs, u.oneCell' = true
  cells : ∀ j u, xs[j]? = some u → w.cell? ⟨b, o + j, none⟩ = some u
theorem RowAt.ch {w w1 : World} {b o : Nat} {xs : List Value} (h : RowAt w b o xs) (c : Ch [] w w1) : RowAt w1 b o xs :=
  ⟨Nat.lt_of_lt_of_le h.old c.size, h.one, fun j u hj => (c.cell b (o + j) h.old).trans (h.cells j u hj)⟩
end Go.Proofs.Hc
/- A map from words to numbers that the call makes: what it holds, as a function. -/
namespace Go.Proofs.Hc
open Go.RowKit
/-- Block bm is a map of at most n entries that holds f (0 where there is none). -/
def MetAt (w : World) (bm n : Nat) (f : BitVec 64 → Int) : Prop :=
  ∃ D : DataW Unit, w.ownsMap Tryz.prog 22 (plainElem Tryz.prog 3) bm n D ∧ ∀ k : BitVec 64, D.atKey (.int .u64 (N k)) (.lit (.int .i64 0)) = .lit (.int .i64 (f k))
theorem met_ch {w w' : World} {bm n : Nat} {f : BitVec 64 → Int} {S : List Nat} (h : MetAt w bm n f) (c : Ch S w w') (hS : bm ∉ S) : MetAt w' bm n f := by
  obtain ⟨D, ⟨es, clock, hb, r⟩, hf⟩ := h
  exact ⟨D, ⟨es, clock, (c.block bm (Array.getElem?_eq_some_iff.1 hb).1 hS).trans hb, r⟩, hf⟩
end Go.Proofs.Hc
/- Package table: may a table be? The full slots. -/
namespace Go.Proofs.Hc
open Go.RowKit
attribute [local go_sem] wrap_u64 wrap_u8 bits_xor64 bits_and64 bits_or64 bits_not64 bits_xor8 bits_and8 bits_or8 signed64 signed8 ofInt_N BitVec.ofInt_add BitVec.ofInt_mul ofInt_sub' ofInt8_N64 ofInt64_N8 wide8 eqN neN shr_pow shr1 shr7 shr56
attribute [local go_sem high] bits_com64 shl_wrap
attribute [local go_sem] cell_heap ice_heap cellAt_cells iceAt_cells setAt_cells rowAt_cells canLay_cells laidAt_cells size_onObj size_setCell rowRes_some layRes_true
attribute [local go_sem] load26 load73 load23 store26 build73
attribute [local go_sem ↓] lrow26 lrow73 lrow23 srow26 zero26 brow73 heap_alloc heap_drew heap_drewN heap_setCell heap_onObj
attribute [local go_sem] tcells_size hcells_size tcells_get hcells_get tcells_one hcells_one hcells_table tcells_table hcells_all hcells_ctrl tcells_ctrl
attribute [local go_sem] nn2 nm2 nn3 nm3 nn4 nm4 nn5 nm5 nn6 nm6 nn7 nm7 nn8 nm8
attribute [local go_sem] nn2 nm2 nn3 nm3 nn4 nm4 nn5 nm5 nn6 nm6 nn7 nm7 nn8 nm8
attribute [local go_sem] Oper.semAt_some make_func1
attribute [local go_sem] box26 tcells_idx cell0 cell1 cell2 cell3 cell4 hcells_idx hcells_pop
attribute [local go_sem] cell5 cell6
attribute [local go_sem] index2_0 index2_1
/-- What holds while the full slots are gone through. -/
structure MayI (t : Tab) (s : BitVec 64) (w : World) (L b : Nat) (pre : List (Nat × Nat)) (O : Nat → Prop) (W : World) : Prop where
  o : ∀ x, O x ↔ (x = w.heap.size + 1 ∨ x = L ∨ x = L + 1)
  good : goodAll t s [] pre = true
  ch : Ch [] w W
  hand : W.heap[w.heap.size]? = some (.cells #[.pointer (some ⟨b, 0, none⟩)] 109 (0, 0))
  bool : W.heap[w.heap.size + 1]? = some (.cells #[.bool false] 4 (0, 0))
  live : W.heap[L]? = some (.cells #[.int .i64 (pre.length : Int)] 3 (0, 0))
  mapc : W.heap[L + 1 + 1]? = some (.cells #[.map (some (L + 1))] 211 (0, 0))
  met : MetAt W (L + 1) pre.length fun k => if k ∈ pre.map (fun x => t.k x.1) then 1 else 0
theorem MayI.keep {t : Tab} {s : BitVec 64} {w : World} {L b D : Nat} {pre : List (Nat × Nat)} {O : Nat → Prop} {A B : World} (h : MayI t s w L b pre O A) (c : Ch [D] A B) (hD : w.heap.size + 1 < L ∧ L + 1 + 1 < D) : MayI t s w L b pre O B :=
  ⟨h.o, h.good, h.ch.trans2 c (by simp; omega), hkeepS c (by simp; omega) h.hand, hkeepS c (by simp; omega) h.bool, hkeepS c (by simp; omega) h.live, hkeepS c (by simp; omega) h.mapc, met_ch h.met c (by simp; omega)⟩
end Go.Proofs.Hc
/- Package table: where a key is. -/
namespace Go.Proofs.Hc
open Go.RowKit
attribute [local go_sem] wrap_u64 wrap_u8 bits_xor64 bits_and64 bits_or64 bits_not64 bits_xor8 bits_and8 bits_or8 signed64 signed8 ofInt_N BitVec.ofInt_add BitVec.ofInt_mul ofInt_sub' ofInt8_N64 ofInt64_N8 wide8 eqN neN shr_pow shr1 shr7 shr56
attribute [local go_sem high] bits_com64 shl_wrap
attribute [local go_sem] cell_heap ice_heap cellAt_cells iceAt_cells setAt_cells rowAt_cells canLay_cells laidAt_cells size_onObj size_setCell rowRes_some layRes_true
attribute [local go_sem] load26 load73 load23 store26 build73
attribute [local go_sem ↓] lrow26 lrow73 lrow23 srow26 zero26 brow73 heap_alloc heap_drew heap_drewN heap_setCell heap_onObj
attribute [local go_sem] tcells_size hcells_size tcells_get hcells_get tcells_one hcells_one hcells_table tcells_table hcells_all hcells_ctrl tcells_ctrl
attribute [local go_sem] nn2 nm2 nn3 nm3 nn4 nm4 nn5 nm5 nn6 nm6 nn7 nm7 nn8 nm8
attribute [local go_sem] nn2 nm2 nn3 nm3 nn4 nm4 nn5 nm5 nn6 nm6 nn7 nm7 nn8 nm8
attribute [local go_sem] Oper.semAt_some make_func1 ofInt_pow8
attribute [local go_sem] box26 tcells_idx cell0 cell1 cell2 cell3 cell4 hcells_idx hcells_pop
attribute [local go_sem] cell5 cell6
/-- What holds while a key's groups are gone through. -/
structure FoundI (t : Tab) (k : BitVec 64) (b B : Nat) (w : World) (cd : Nat → List Nat) (pre : List Nat) (O : Nat → Prop) (W : World) : Prop where
  o : ∀ x, O x ↔ (x = B + 1 + 1 ∨ x = B + 1 + 1 + 1 ∨ x = B + 1 + 1 + 1 + 1)
  not : ∀ y ∈ pre.flatMap cd, (t.k y == k) = false
  ch : Ch [] w W
  hand : W.heap[B]? = some (.cells #[.pointer (some ⟨b, 0, none⟩)] 109 (0, 0))
  key : W.heap[B + 1]? = some (.cells #[U k] 22 (0, 0))
  r1 : W.heap[B + 1 + 1]? = some (.cells #[.int .i64 0] 3 (0, 0))
  r2 : W.heap[B + 1 + 1 + 1]? = some (.cells #[.int .i64 0] 3 (0, 0))
  many : W.heap[B + 1 + 1 + 1 + 1]? = some (.cells #[.int .i64 ((pre.flatMap cd).length : Int)] 3 (0, 0))
theorem FoundI.keep {t : Tab} {k : BitVec 64} {b B D : Nat} {w : World} {cd : Nat → List Nat} {pre : List Nat} {O : Nat → Prop} {A A' : World} (h : FoundI t k b B w cd pre O A) (c : Ch [D] A A') (hD : B + 1 + 1 + 1 + 1 < D) (hB : w.heap.size = B) : FoundI t k b B w cd pre O A' :=
  ⟨h.o, h.not, h.ch.trans2 c (by simp; omega), hkeepS c (by simp; omega) h.hand, hkeepS c (by simp; omega) h.key, hkeepS c (by simp; omega) h.r1, hkeepS c (by simp; omega) h.r2, hkeepS c (by simp; omega) h.many⟩
end Go.Proofs.Hc
/- Rows of words. -/
namespace Go.Proofs.Hc
open Go.RowKit
/-- A row's cells. -/
def wcells (l : List (BitVec 64)) : Array Value := (l.map fun x => U x).toArray
/-- The words lie in a row. -/
def WordsAt (cur : Array Value) (l : List (BitVec 64)) : Prop := ∀ (j : Nat) (x : BitVec 64), l[j]? = some x → cur[j]? = some (U x)
theorem wcells_at (l : List (BitVec 64)) : WordsAt (wcells l) l := by
  intro j x h
  unfold wcells; simp [h]
theorem wcells_size (l : List (BitVec 64)) : (wcells l).size = l.length := by unfold wcells; simp
theorem wcells_list (l : List (BitVec 64)) : (wcells l).toList = l.map fun x => U x := by unfold wcells; simp
theorem wcells_set (l : List (BitVec 64)) (j : Nat) (x : BitVec 64) : (wcells l).setIfInBounds j (U x) = wcells (l.set j x) := by
  unfold wcells
  simp [List.setIfInBounds_toArray, List.map_set]
end Go.Proofs.Hc
/- The reference of layer 17: row. -/
namespace Go.Proofs.Hc
open Go.RowKit
attribute [local go_sem] wrap_u64 wrap_u8 bits_xor64 bits_and64 bits_or64 bits_not64 bits_xor8 bits_and8 bits_or8 signed64 signed8 ofInt_N BitVec.ofInt_add BitVec.ofInt_mul ofInt_sub' ofInt8_N64 ofInt64_N8 wide8 eqN neN shr_pow shr1 shr7 shr56
attribute [local go_sem high] bits_com64 shl_wrap
attribute [local go_sem] cell_heap ice_heap cellAt_cells iceAt_cells setAt_cells rowAt_cells canLay_cells laidAt_cells size_onObj size_setCell rowRes_some layRes_true
attribute [local go_sem] load26 load73 load23 store26 build73
attribute [local go_sem ↓] lrow26 lrow73 lrow23 srow26 zero26 brow73 heap_alloc heap_drew heap_drewN heap_setCell heap_onObj
attribute [local go_sem] tcells_size hcells_size tcells_get hcells_get tcells_one hcells_one hcells_table tcells_table hcells_all hcells_ctrl tcells_ctrl
attribute [local go_sem] nn2 nm2 nn3 nm3 nn4 nm4 nn5 nm5 nn6 nm6 nn7 nm7 nn8 nm8
attribute [local go_sem] nn2 nm2 nn3 nm3 nn4 nm4 nn5 nm5 nn6 nm6 nn7 nm7 nn8 nm8
attribute [local go_sem] ofInt_N
attribute [local go_sem] box26 tcells_idx cell0 cell1 cell2 cell3 cell4
attribute [local irreducible] tcells
/-- A row of numbers that the call made. -/
def IntsAt (w0 w : World) (v : Value) (l : List Nat) : Prop :=
  ∃ r c cur, v = .slice (some ⟨r, 0, none⟩) l.length c ∧ w0.heap.size ≤ r ∧ w.heap[r]? = some (.cells cur 3 (0, 0)) ∧ ∀ i x : Nat, l[i]? = some x → cur[i]? = some (I (x : Int))
theorem IntsAt.ch {w0 w w' : World} {v : Value} {l : List Nat} {S : List Nat} (h : IntsAt w0 w v l) (c : Ch S w w') (hS : ∀ r n c, v = .slice (some ⟨r, 0, none⟩) n c → r ∉ S) : IntsAt w0 w' v l := by
  obtain ⟨r, c', cur, hv, hr, hb, hi⟩ := h
  exact ⟨r, c', cur, hv, hr, (c.block r (Array.getElem?_eq_some_iff.1 hb).1 (hS _ _ _ hv)).trans hb, hi⟩
end Go.Proofs.Hc
/- slices.DeleteFunc at rows of pairs: what the walk needs. -/
namespace Go.Proofs.Hc
open Go.RowKit
theorem pcells_set : ∀ (L : List (BitVec 64 × BitVec 64)) (i : Nat) (p : BitVec 64 × BitVec 64), i < L.length → (pcells L).take (2 * i) ++ [U p.1, U p.2] ++ (pcells L).drop (2 * i + 2) = pcells (L.set i p)
  | [], i, p, h => by simp at h
  | q :: L, 0, p, _ => rfl
  | q :: L, i + 1, p, h => by
    have ih := pcells_set L i p (by simpa using h)
    have e : pcells (q :: L) = U q.1 :: U q.2 :: pcells L := rfl
    have e2 : pcells ((q :: L).set (i + 1) p) = U q.1 :: U q.2 :: pcells (L.set i p) := rfl
    rw [e, e2, ← ih, show 2 * (i + 1) = 2 * i + 1 + 1 by omega, show 2 * i + 1 + 1 + 2 = (2 * i + 2) + 1 + 1 by omega]
    simp
/-- An own row, block and all. -/
structure RowOf (W : World) (base g n cap : Nat) (L : List (BitVec 64 × BitVec 64)) (cur : Array Value) : Prop where
  heap : W.heap[g]? = some (.cells cur 31 (0, 0))
  size : cur.size = cap * 2
  len : L.length = n
  le : n ≤ cap
  max : cap ≤ maxLen
  base : base ≤ g
  cells : cur.toList.take (2 * n) = pcells L
theorem RowOf.own {W : World} {base g n cap : Nat} {L : List (BitVec 64 × BitVec 64)} {cur : Array Value} (h : RowOf W base g n cap L cur) : W.ownsRow base 31 2 (.slice (some ⟨g, 0, none⟩) n cap) n (pcells L) :=
  ⟨by rw [pcells_len, h.len], .inr ⟨g, cap, cur, rfl, h.base, h.heap, h.le, h.max, h.size, by rw [Nat.mul_comm]; exact h.cells⟩⟩
/-- A pair that is stored. -/
theorem RowOf.put {W : World} {base g n cap : Nat} {L : List (BitVec 64 × BitVec 64)} {cur : Array Value} (h : RowOf W base g n cap L cur) {i : Nat} (hi : i < n) (p : BitVec 64 × BitVec 64) :
    ∃ cur', RowOf (World.onObj W g (laidAt (i * 2) #[U p.1, U p.2])) base g n cap (L.set i p) cur' := by
  have hsz := h.size
  have hle := h.le
  have hlen := h.len
  refine ⟨cur.extract 0 (i * 2) ++ #[U p.1, U p.2] ++ cur.extract (i * 2 + 2) cur.size, ?_, ?_, by rw [List.length_set]; exact hlen, hle, h.max, h.base, ?_⟩
  · rw [heap_onObj, if_pos rfl, h.heap]; rfl
  · simp only [Array.size_append, Array.size_extract, List.size_toArray, List.length_cons, List.length_nil]
    omega
  · rw [← pcells_set L i p (by omega), ← h.cells]
    have hcl : cur.toList.length = cap * 2 := by simpa using hsz
    have h1 : (cur.extract 0 (i * 2) ++ #[U p.1, U p.2] ++ cur.extract (i * 2 + 2) cur.size).toList = cur.toList.take (2 * i) ++ [U p.1, U p.2] ++ cur.toList.drop (2 * i + 2) := by
      simp only [Array.toList_append, Array.toList_extract, List.extract_eq_take_drop, Nat.sub_zero, List.drop_zero, Nat.mul_comm i 2]
      rw [List.take_of_length_le (l := List.drop (2 * i + 2) cur.toList) (by rw [List.length_drop, Array.length_toList]; omega)]
    rw [h1]
    generalize cur.toList = cl at *
    rw [show (cl.take (2 * n)).take (2 * i) = cl.take (2 * i) by rw [List.take_take, Nat.min_eq_left (by omega)]]
    have e : (cl.take (2 * i) ++ [U p.1, U p.2]).length = 2 * i + 2 := by simp; omega
    rw [List.take_append, e, List.take_of_length_le (by rw [e]; omega), List.drop_take]
end Go.Proofs.Hc
/- slices.DeleteFunc at rows of pairs, by the statement's own test. -/
namespace Go.Proofs.Hc
open Go.RowKit
attribute [local go_sem] wrap_u64 wrap_u8 bits_xor64 bits_and64 bits_or64 bits_not64 bits_xor8 bits_and8 bits_or8 signed64 signed8 ofInt_N BitVec.ofInt_add BitVec.ofInt_mul ofInt_sub' ofInt8_N64 ofInt64_N8 wide8 eqN neN shr_pow shr1 shr7 shr56
attribute [local go_sem high] bits_com64 shl_wrap
attribute [local go_sem] cell_heap ice_heap cellAt_cells iceAt_cells setAt_cells rowAt_cells canLay_cells laidAt_cells size_onObj size_setCell rowRes_some layRes_true
attribute [local go_sem] load26 load73 load23 store26 build73
attribute [local go_sem ↓] lrow26 lrow73 lrow23 srow26 zero26 brow73 heap_alloc heap_drew heap_drewN heap_setCell heap_onObj
attribute [local go_sem] tcells_size hcells_size tcells_get hcells_get tcells_one hcells_one hcells_table tcells_table hcells_all hcells_ctrl tcells_ctrl
attribute [local go_sem] nn2 nm2 nn3 nm3 nn4 nm4 nn5 nm5 nn6 nm6 nn7 nm7 nn8 nm8
attribute [local go_sem] nn2 nm2 nn3 nm3 nn4 nm4 nn5 nm5 nn6 nm6 nn7 nm7 nn8 nm8
attribute [local go_sem] Oper.semAt_some make_func1
attribute [local go_sem] loadP storeP allOne_pair
attribute [local go_sem high] laidAt_p
attribute [local go_sem ↓] lrowP srowP zeroP
theorem RowOf.ch {W W' : World} {S : List Nat} {base g n cap : Nat} {L : List (BitVec 64 × BitVec 64)} {cur : Array Value} (h : RowOf W base g n cap L cur) (c : Ch S W W') (hg : g ∉ S) : RowOf W' base g n cap L cur := ⟨hkeepS c hg h.heap, h.size, h.len, h.le, h.max, h.base, h.cells⟩
end Go.Proofs.Hc
