import Derived.Test.YtcikopeddljgkaaDoorBz
import Derived.ProofKit
import Derived.OpenShut
import Derived.Deep.Slices
/- Law 29: BoundNumbers' argument opened; the table of takes as it is laid. -/
namespace Go.Proofs.Hc
open Go.ChangeShapes Go.WideShapes Go.ChangeAt Go.RowKit
set_option linter.unusedVariables false
section
variable {H : Type} {enc : TypeId × Value → H} {w : World} {base : Nat} {spare : Nat → Bool} {held : Bool}
theorem one_cellB {cs : List Value} {o : Nat} {v : Value} (h : (cs.drop o).take 1 = [v]) : cs[o]? = some v := by
  have := congrArg (fun l => l[0]?) h
  simpa using this
theorem cellsB_int : Tryd.prog.cellsOf 3 = 1 := by kernel_rfl
theorem cellsB_3 : Tryd.prog.cellsOf 24 = 3 := by kernel_rfl
theorem wfB_i64 {n : Int} (h : (Lit.int .i64 n).wf = true) : -9223372036854775808 ≤ n ∧ n ≤ 9223372036854775807 := by
  simpa [Lit.wf, IntKind.min, IntKind.max, IntKind.signed, IntKind.bits] using h
theorem cell_inB {w : World} {b o : Nat} {v : Value} (h : w.cell? ⟨b, o, none⟩ = some v) : b < w.heap.size := World.block_lt_of_cell? w _ h
theorem row3_of {w : World} {b o : Nat} {v0 v1 v2 : Value} (h0 : w.cell? ⟨b, o, none⟩ = some v0) (h1 : w.cell? ⟨b, o + 1, none⟩ = some v1) (h2 : w.cell? ⟨b, o + 2, none⟩ = some v2) :
    (w.heap[b]?).bind (rowAt o 3) = some #[v0, v1, v2] := by
  unfold World.cell? at h0 h1 h2
  cases hb : w.heap[b]? with
  | none => rw [hb] at h0; cases h0
  | some ob =>
    rw [hb] at h0 h1 h2
    cases ob with
    | cells c t fr =>
      simp at h0 h1 h2
      have hs : o + 2 < c.size := (Array.getElem?_eq_some_iff.1 h2).1
      rw [Option.bind_some, rowAt_cells, if_pos (by omega)]
      congr 1
      apply Array.ext_getElem?
      intro i
      rw [Array.getElem?_extract]
      match i with
      | 0 => rw [if_pos (by omega)]; simpa using h0
      | 1 => rw [if_pos (by omega)]; simpa using h1
      | 2 => rw [if_pos (by omega)]; simpa using h2
      | k + 3 => rw [if_neg (by omega)]; rfl
    | _ => simp at h0
theorem three_cells {fuel : Nat} {cs : List Value} {x : DataW H × List MemPlace} (h : DataW.trod enc Tryd.prog w base spare held fuel 24 cs = some x) :
    ∃ a b c : Int, cs = [I a, I b, I c] ∧ (-9223372036854775808 ≤ a ∧ a ≤ 9223372036854775807) := by
  obtain ⟨xs, m, _, _, hlen, hl, hx⟩ := DataW.trod_array Tryd.underlying24 h
  have fd : ∀ i, i < 3 → ∃ m, cs[i]? = some (I m) ∧ (Lit.int .i64 m).wf = true := by
    intro i hi
    have h1 := hx i hi
    rw [cellsB_int, Nat.mul_one, List.getElem?_eq_getElem (by omega)] at h1
    obtain ⟨k, hk, _, hw⟩ := DataW.trod_int Tryd.underlying3 h1
    exact ⟨k, one_cellB hk, hw⟩
  obtain ⟨a, h0, hw⟩ := fd 0 (by omega)
  obtain ⟨b, h1, _⟩ := fd 1 (by omega)
  obtain ⟨c, h2, _⟩ := fd 2 (by omega)
  have hlen := hlen.trans cellsB_3
  refine ⟨a, b, c, ?_, wfB_i64 hw⟩
  apply List.ext_getElem?
  intro i
  match i with
  | 0 => rw [h0]; rfl
  | 1 => rw [h1]; rfl
  | 2 => rw [h2]; rfl
  | k + 3 => rw [List.getElem?_eq_none (by omega), List.getElem?_eq_none (by simp)]
set_option maxRecDepth 100000 in
theorem open_nums {r : Reach} {b0 : Nat} {v : Value} {d : DataW H} {p : List MemPlace} (hv : Value.okWide Tryd.prog w r b0 22 v) (h : DataW.Trod enc Tryd.prog w 0 (fun _ => true) held 22 v d p) :
    ∃ a n c xs, v = .slice a n c ∧ n ≤ c ∧ c ≤ 9223372036854775807 ∧ (a = none → n = 0 ∧ c = 0) ∧ NumsIn w a n xs := by
  obtain ⟨a, n, c, rfl⟩ := okWide_slice Tryd.underlying22 hv
  obtain ⟨fuel, hf⟩ := h
  rcases Go.Deep.open_slice Tryd.underlying22 hf with ⟨hcs, _⟩ | ⟨x, l, c', m, n', D, Pl, hcs, _, hl, hm, hmm, _, hel⟩
  · simp [Value.cells] at hcs
    obtain ⟨rfl, rfl, rfl⟩ := hcs
    exact ⟨none, 0, 0, fun _ => (0, 0, 0), rfl, by omega, by omega, fun _ => ⟨rfl, rfl⟩, fun j hj => by omega⟩
  · simp [Value.cells] at hcs
    obtain ⟨rfl, rfl, rfl⟩ := hcs
    simp only [if_true] at hmm
    subst hmm
    unfold maxLen at hm
    have hsp : 0 < n → x.spot = none := by
      intro hn
      obtain ⟨cs', h1, h2⟩ := hel 0 (by omega)
      obtain ⟨a, b, c, rfl, _⟩ := three_cells h2
      rw [cellsB_3] at h1
      obtain ⟨_, _, h3⟩ := World.cells?_some h1
      have e0 := h3 0 (by omega)
      have := World.cell?_spot e0
      simpa [Addr.add] using this
    have hall : ∀ j, j < n → ∃ q : Int × Int × Int, ∃ kb ko, x = ⟨kb, ko, none⟩ ∧ kb < w.heap.size ∧ (w.heap[kb]?).bind (rowAt (ko + j * 3) 3) = some #[I q.1, I q.2.1, I q.2.2] ∧ (-9223372036854775808 ≤ q.1 ∧ q.1 ≤ 9223372036854775807) := by
      intro j hj
      obtain ⟨cs', h1, h2⟩ := hel j (by omega)
      obtain ⟨a, b', c, rfl, hb⟩ := three_cells h2
      rw [cellsB_3] at h1
      obtain ⟨_, _, h3⟩ := World.cells?_some h1
      have e0 := h3 0 (by omega)
      have e1 := h3 1 (by omega)
      have e2 := h3 2 (by omega)
      obtain ⟨b, off, spot⟩ := x
      obtain rfl : spot = none := hsp (by omega)
      have a0 : ((⟨b, off, none⟩ : Addr).add (j * 3)).add 0 = ⟨b, off + j * 3, none⟩ := by unfold Addr.add; split <;> split <;> simp_all
      have a1 : ((⟨b, off, none⟩ : Addr).add (j * 3)).add 1 = ⟨b, off + j * 3 + 1, none⟩ := by unfold Addr.add; split <;> split <;> simp_all
      have a2 : ((⟨b, off, none⟩ : Addr).add (j * 3)).add 2 = ⟨b, off + j * 3 + 2, none⟩ := by unfold Addr.add; split <;> split <;> simp_all
      rw [a0] at e0
      rw [a1] at e1
      rw [a2] at e2
      have e0 : w.cell? ⟨b, off + j * 3, none⟩ = some (I a) := by simpa using e0
      have e1 : w.cell? ⟨b, off + j * 3 + 1, none⟩ = some (I b') := by simpa using e1
      have e2 : w.cell? ⟨b, off + j * 3 + 2, none⟩ = some (I c) := by simpa using e2
      exact ⟨(a, b', c), b, off, rfl, cell_inB e0, row3_of e0 e1 e2, hb⟩
    obtain ⟨xs, hxs⟩ := Go.Deep.choose_lt hall
    refine ⟨some x, n, _, xs, rfl, by omega, by omega, (fun h => by cases h), fun j hj => ?_⟩
    obtain ⟨kb, ko, hx, h1, h2, h3⟩ := hxs j hj
    exact ⟨kb, ko, by rw [hx], h1, h2, h3⟩
end
end Go.Proofs.Hc
