/- Arguments of the statements, opened: rows of keys, rows of pairs. -/
import Derived.Test.YtaddieimkpijeaaGreatKHop
import Derived.Deep.Slices
set_option linter.unusedSimpArgs false
set_option linter.unusedVariables false
namespace Go.Proofs.Hc
open Go.ChangeShapes Go.WideShapes Go.ChangeAt Go.RowKit
section
variable {H : Type} {enc : TypeId × Value → H} {w : World} {base : Nat} {held : Bool}
/-- A row of keys that came in. -/
def KeysIn (w : World) (a : Option Addr) (n : Nat) (ks : Nat → BitVec 64) : Prop := ∀ j, j < n → ∃ kb ko, a = some ⟨kb, ko, none⟩ ∧ kb < w.heap.size ∧ (w.heap[kb]?).bind (cellAt (ko + j)) = some (U (ks j))
/-- A row of pairs that came in. -/
def PairsIn (w : World) (a : Option Addr) (n : Nat) (ps : Nat → BitVec 64 × BitVec 64) : Prop := ∀ j, j < n → ∃ kb ko, a = some ⟨kb, ko, none⟩ ∧ kb < w.heap.size ∧ (w.heap[kb]?).bind (rowAt (ko + j * 2) 2) = some #[U (ps j).1, U (ps j).2]
theorem cell_in {w : World} {b o : Nat} {v : Value} (h : w.cell? ⟨b, o, none⟩ = some v) : b < w.heap.size ∧ (w.heap[b]?).bind (cellAt o) = some v := by
  rw [cell_heap] at h
  refine ⟨?_, h⟩
  cases hb : w.heap[b]? with
  | none => rw [hb] at h; cases h
  | some x => exact (Array.getElem?_eq_some_iff.1 hb).1
set_option maxRecDepth 100000 in
theorem open_keys {r : Reach} {b0 : Nat} {v : Value} {d : DataW H} {p : List MemPlace} (hv : Value.okWide Tryz.prog w r b0 53 v) (h : DataW.Trod enc Tryz.prog w 0 (fun _ => true) held 53 v d p) :
    ∃ a n c ks, v = .slice a n c ∧ n ≤ 9223372036854775807 ∧ KeysIn w a n ks := by
  obtain ⟨a, n, c, rfl⟩ := okWide_slice Tryz.underlying53 hv
  obtain ⟨fuel, hf⟩ := h
  rcases open_ints Tryz.underlying53 Tryz.underlying22 cells_u64 hf with ⟨hcs, _⟩ | ⟨x, l, c', zs, hcs, _, hl, hm, hz, _, hcell, hwz⟩
  · simp [Value.cells] at hcs
    obtain ⟨rfl, rfl, rfl⟩ := hcs
    exact ⟨none, 0, 0, fun _ => 0#64, rfl, by omega, fun j hj => by omega⟩
  · simp [Value.cells] at hcs
    obtain ⟨rfl, rfl, rfl⟩ := hcs
    simp only [if_true] at hz
    unfold maxLen at hm
    refine ⟨some x, n, c, fun j => BitVec.ofInt 64 (zs.getD j 0), rfl, by omega, fun j hj => ?_⟩
    obtain ⟨b, off, rfl, hc⟩ := ints_at hcell (by omega)
    have h1 := hc j (by omega)
    have hmem : zs.getD j 0 ∈ zs := by
      rw [List.getD_eq_getElem?_getD, List.getElem?_eq_getElem (by omega)]
      exact List.getElem_mem _
    rw [← U_of (hwz _ hmem)] at h1
    obtain ⟨h2, h3⟩ := cell_in h1
    exact ⟨b, off, rfl, h2, h3⟩
theorem cells_p : Tryz.prog.cellsOf 31 = 2 := by kernel_rfl
theorem fieldsP2 : ∃ fs, Tryz.prog.underlying 31 = some (.struct fs) ∧ fs.toList.map (fun f => (f.type, f.offset)) = [(22, 0), (22, 1)] :=
  ⟨_, Tryz.underlying31, by kernel_rfl⟩
theorem pair_cells {spare : Nat → Bool} {fuel : Nat} {cs : List Value} {x : DataW H × List MemPlace} (h : DataW.trod enc Tryz.prog w base spare held fuel 31 cs = some x) :
    ∃ k v : BitVec 64, cs = [U k, U v] := by
  obtain ⟨fs, hfs, hl⟩ := fieldsP2
  obtain ⟨xs, n, _, _, hlen, hxl, hx⟩ := DataW.trod_struct hfs h
  have hsz : fs.size = 2 := by
    have := congrArg List.length hl
    simpa using this
  have rd : ∀ (i o : Nat), ([(22, 0), (22, 1)] : List (TypeId × Nat))[i]? = some (22, o) → i < 2 → ∃ m, cs[o]? = some (.int .u64 m) ∧ (Lit.int .u64 m).wf = true := by
    intro i o hi hi8
    obtain ⟨f, hf, ht, ho⟩ := field_at hl hi
    have h1 := hx i f hf
    rw [List.getElem?_eq_getElem (by omega), ht, ho] at h1
    obtain ⟨k, hk, _, hw⟩ := DataW.trod_int Tryz.underlying22 h1
    rw [cells_u64] at hk
    exact ⟨k, one_cell hk, hw⟩
  obtain ⟨m0, h0, w0⟩ := rd 0 0 rfl (by omega)
  obtain ⟨m1, h1, w1⟩ := rd 1 1 rfl (by omega)
  refine ⟨BitVec.ofInt 64 m0, BitVec.ofInt 64 m1, ?_⟩
  rw [U_of w0, U_of w1]
  have hl2 : cs.length = 2 := hlen.trans cells_p
  apply List.ext_getElem?
  intro i
  match i with
  | 0 => simpa using h0
  | 1 => simpa using h1
  | i + 2 => rw [List.getElem?_eq_none (by omega), List.getElem?_eq_none (by simp)]
theorem row_of_two {o : Option Obj} {i : Nat} {x y : Value} (h0 : o.bind (cellAt i) = some x) (h1 : o.bind (cellAt (i + 1)) = some y) : o.bind (rowAt i 2) = some #[x, y] := by
  cases o with
  | none => cases h0
  | some ob =>
    cases ob with
    | cells c t fr =>
      have h0' : c[i]? = some x := h0
      have h1' : c[i + 1]? = some y := h1
      have hlt := (Array.getElem?_eq_some_iff.1 h1').1
      show (if i + 2 ≤ c.size then some (c.extract i (i + 2)) else none) = _
      rw [if_pos (by omega)]
      congr 1
      apply Array.ext_getElem?
      intro j
      rw [Array.getElem?_extract]
      match j with
      | 0 => rw [if_pos (by omega)]; simpa using h0'
      | 1 => rw [if_pos (by omega)]; simpa using h1'
      | j + 2 => rw [if_neg (by omega)]; simp
    | _ => cases h0
set_option maxRecDepth 100000 in
theorem open_pairs {r : Reach} {b0 : Nat} {v : Value} {d : DataW H} {p : List MemPlace} (hv : Value.okWide Tryz.prog w r b0 27 v) (h : DataW.Trod enc Tryz.prog w 0 (fun _ => true) held 27 v d p) :
    ∃ a n c ps, v = .slice a n c ∧ n ≤ 9223372036854775807 ∧ PairsIn w a n ps := by
  obtain ⟨a, n, c, rfl⟩ := okWide_slice Tryz.underlying27 hv
  obtain ⟨fuel, hf⟩ := h
  rcases Go.Deep.open_slice Tryz.underlying27 hf with ⟨hcs, _⟩ | ⟨x, l, c', m, n', D, Pl, hcs, _, hl, hm, hmm, _, hel⟩
  · simp [Value.cells] at hcs
    obtain ⟨rfl, rfl, rfl⟩ := hcs
    exact ⟨none, 0, 0, fun _ => (0#64, 0#64), rfl, by omega, fun j hj => by omega⟩
  · simp [Value.cells] at hcs
    obtain ⟨rfl, rfl, rfl⟩ := hcs
    simp only [if_true] at hmm
    subst hmm
    unfold maxLen at hm
    have hsp : 0 < n → x.spot = none := by
      intro hn
      obtain ⟨cs', h1, h2⟩ := hel 0 (by omega)
      obtain ⟨k, v, rfl⟩ := pair_cells h2
      rw [cells_p] at h1
      obtain ⟨_, _, h3⟩ := World.cells?_some h1
      have e0 := h3 0 (by omega)
      have := World.cell?_spot e0
      simpa [Addr.add] using this
    have hall : ∀ j, j < n → ∃ q : BitVec 64 × BitVec 64, ∃ kb ko, x = ⟨kb, ko, none⟩ ∧ kb < w.heap.size ∧ (w.heap[kb]?).bind (rowAt (ko + j * 2) 2) = some #[U q.1, U q.2] := by
      intro j hj
      obtain ⟨cs', h1, h2⟩ := hel j (by omega)
      obtain ⟨k, v, rfl⟩ := pair_cells h2
      rw [cells_p] at h1
      obtain ⟨_, _, h3⟩ := World.cells?_some h1
      have e0 := h3 0 (by omega)
      have e1 := h3 1 (by omega)
      obtain ⟨b, off, spot⟩ := x
      obtain rfl : spot = none := hsp (by omega)
      have a0 : ((⟨b, off, none⟩ : Addr).add (j * 2)).add 0 = ⟨b, off + j * 2, none⟩ := by unfold Addr.add; split <;> split <;> simp_all
      have a1 : ((⟨b, off, none⟩ : Addr).add (j * 2)).add 1 = ⟨b, off + j * 2 + 1, none⟩ := by unfold Addr.add; split <;> split <;> simp_all
      rw [a0] at e0
      rw [a1] at e1
      obtain ⟨c0, c1⟩ := cell_in (v := U k) (by simpa using e0)
      obtain ⟨_, c2⟩ := cell_in (v := U v) (by simpa using e1)
      exact ⟨(k, v), b, off, rfl, c0, row_of_two c1 c2⟩
    obtain ⟨ps, hps⟩ := Go.Deep.choose_lt hall
    refine ⟨some x, n, _, ps, rfl, by omega, fun j hj => ?_⟩
    obtain ⟨kb, ko, hx, h1, h2⟩ := hps j hj
    exact ⟨kb, ko, by rw [hx], h1, h2⟩
end
end Go.Proofs.Hc
