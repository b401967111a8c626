/- Arguments of the statements, opened: a seed, a table. -/
import Derived.Test.YtcikopeddljgkaaGreatKUc
import Derived.Test.YtcikopeddljgkaaGreatKWd
import Derived.Test.YtcikopeddljgkaaGreatKUb
set_option linter.unusedSimpArgs false
set_option linter.unusedVariables false
set_option maxHeartbeats 1000000
set_option maxRecDepth 100000
namespace Go.Proofs.Hc
open Go.ChangeShapes Go.WideShapes Go.ChangeAt Go.RowKit
theorem wfr_u64 {n : Int} (h : (Lit.int .u64 n).wf = true) : 0 ≤ n ∧ n < 18446744073709551616 := by
  have : 0 ≤ n ∧ n ≤ 18446744073709551615 := by simpa [Lit.wf, IntKind.min, IntKind.max, IntKind.signed, IntKind.bits] using h
  omega
theorem U_of {n : Int} (h : (Lit.int .u64 n).wf = true) : U (BitVec.ofInt 64 n) = .int .u64 n := by
  obtain ⟨h0, h1⟩ := wfr_u64 h
  show Value.int .u64 (N (BitVec.ofInt 64 n)) = _
  have : N (BitVec.ofInt 64 n) = n := by
    unfold N
    rw [BitVec.toNat_ofInt]
    have e : ((2 ^ 64 : Nat) : Int) = 18446744073709551616 := by decide
    rw [e, Int.emod_eq_of_lt h0 h1]
    omega
  rw [this]
section
variable {H : Type} {enc : TypeId × Value → H} {w : World} {base : Nat} {spare : Nat → Bool} {held : Bool}
theorem one_cell {cs : List Value} {o : Nat} {v : Value} (h : (cs.drop o).take 1 = [v]) : cs[o]? = some v := by
  have := congrArg (fun l => l[0]?) h
  simpa using this
theorem cells_u64 : Tryz.prog.cellsOf 22 = 1 := by kernel_rfl
theorem cells_int : Tryz.prog.cellsOf 3 = 1 := by kernel_rfl
theorem row_u64 {n : Nat} {t : TypeId} {fuel : Nat} {cs : List Value} {x : DataW H × List MemPlace} (ht : Tryz.prog.underlying t = some (.array n 22)) (h : DataW.trod enc Tryz.prog w base spare held fuel t cs = some x) :
    ∀ i, i < n → ∃ m, cs[i]? = some (.int .u64 m) ∧ (Lit.int .u64 m).wf = true := by
  obtain ⟨xs, m, _, _, _, hl, hx⟩ := DataW.trod_array ht h
  intro i hi
  have h1 := hx i hi
  rw [cells_u64, Nat.mul_one, List.getElem?_eq_getElem (by omega)] at h1
  obtain ⟨k, hk, _, hw⟩ := DataW.trod_int Tryz.underlying22 h1
  exact ⟨k, one_cell hk, hw⟩
theorem field_at {fs : Array Field} {l : List (TypeId × Nat)} (h : fs.toList.map (fun f => (f.type, f.offset)) = l) {i : Nat} {t o : Nat} (hi : l[i]? = some (t, o)) : ∃ f, fs[i]? = some f ∧ f.type = t ∧ f.offset = o := by
  rw [← h, List.getElem?_map] at hi
  cases hf : fs.toList[i]? with
  | none => rw [hf] at hi; cases hi
  | some f =>
    rw [hf] at hi
    simp only [Option.map_some, Option.some.injEq, Prod.mk.injEq] at hi
    exact ⟨f, by simpa using hf, hi.1, hi.2⟩
theorem drop_take_get {cs : List Value} {o n i : Nat} {v : Value} (h : ((cs.drop o).take n)[i]? = some v) : cs[o + i]? = some v := by
  rw [List.getElem?_take] at h
  split at h
  · rwa [List.getElem?_drop] at h
  · cases h
def intAt (cs : List Value) (i : Nat) : Int := match cs[i]? with
  | some (.int _ n) => n
  | _ => 0
theorem intAt_eq {cs : List Value} {i : Nat} {k : IntKind} {m : Int} (h : cs[i]? = some (.int k m)) : intAt cs i = m := by unfold intAt; rw [h]
end
end Go.Proofs.Hc
namespace Go.Proofs.Hc
open Go.ChangeShapes Go.WideShapes Go.ChangeAt Go.RowKit
section
variable {H : Type} {enc : TypeId × Value → H} {w : World} {base : Nat} {held : Bool}
def KeysIn (w : World) (a : Option Addr) (n : Nat) (ks : Nat → BitVec 64) : Prop := ∀ j, j < n → ∃ kb ko, a = some ⟨kb, ko, none⟩ ∧ kb < w.heap.size ∧ (w.heap[kb]?).bind (cellAt (ko + j)) = some (U (ks j))
theorem cell_in {w : World} {b o : Nat} {v : Value} (h : w.cell? ⟨b, o, none⟩ = some v) : b < w.heap.size ∧ (w.heap[b]?).bind (cellAt o) = some v := by
  rw [zaw] at h
  refine ⟨?_, h⟩
  cases hb : w.heap[b]? with
  | none => rw [hb] at h; cases h
  | some x => exact (Array.getElem?_eq_some_iff.1 hb).1
theorem open_keys {r : Reach} {b0 : Nat} {v : Value} {d : DataW H} {p : List MemPlace} (hv : Value.okWide Tryz.prog w r b0 44 v) (h : DataW.Trod enc Tryz.prog w 0 (fun _ => true) held 44 v d p) :
    ∃ a n c ks, v = .slice a n c ∧ n ≤ 9223372036854775807 ∧ KeysIn w a n ks := by
  obtain ⟨a, n, c, rfl⟩ := okWide_slice Tryz.underlying44 hv
  obtain ⟨fuel, hf⟩ := h
  rcases open_ints Tryz.underlying44 Tryz.underlying22 cells_u64 hf with ⟨hcs, _⟩ | ⟨x, l, c', zs, hcs, _, hl, hm, hz, _, hcell, hwz⟩
  · simp [Value.cells] at hcs
    obtain ⟨rfl, rfl, rfl⟩ := hcs
    exact ⟨none, 0, 0, fun _ => 0#64, rfl, by omega, fun j hj => by omega⟩
  · simp [Value.cells] at hcs
    obtain ⟨rfl, rfl, rfl⟩ := hcs
    simp only [if_true] at hz
    unfold maxLen at hm
    refine ⟨some x, n, c, fun j => BitVec.ofInt 64 (zs.getD j 0), rfl, by omega, fun j hj => ?_⟩
    obtain ⟨b, off, rfl, hc⟩ := ints_at hcell (by omega)
    have h1 := hc j (by omega)
    have hmem : zs.getD j 0 ∈ zs := by
      rw [List.getD_eq_getElem?_getD, List.getElem?_eq_getElem (by omega)]
      exact List.getElem_mem _
    rw [← U_of (hwz _ hmem)] at h1
    obtain ⟨h2, h3⟩ := cell_in h1
    exact ⟨b, off, rfl, h2, h3⟩
theorem row_of_two {o : Option Obj} {i : Nat} {x y : Value} (h0 : o.bind (cellAt i) = some x) (h1 : o.bind (cellAt (i + 1)) = some y) : o.bind (rowAt i 2) = some #[x, y] := by
  cases o with
  | none => cases h0
  | some ob =>
    cases ob with
    | cells c t fr =>
      have h0' : c[i]? = some x := h0
      have h1' : c[i + 1]? = some y := h1
      have hlt := (Array.getElem?_eq_some_iff.1 h1').1
      show (if i + 2 ≤ c.size then some (c.extract i (i + 2)) else none) = _
      rw [if_pos (by omega)]
      congr 1
      apply Array.ext_getElem?
      intro j
      rw [Array.getElem?_extract]
      match j with
      | 0 => rw [if_pos (by omega)]; simpa using h0'
      | 1 => rw [if_pos (by omega)]; simpa using h1'
      | j + 2 => rw [if_neg (by omega)]; simp
    | _ => cases h0
end
end Go.Proofs.Hc
namespace Go.Proofs.Hc
open Go.ChangeShapes Go.WideShapes Go.ChangeAt Go.RowKit
section
variable {H : Type} {enc : TypeId × Value → H} {w : World} {base : Nat} {spare : Nat → Bool} {held : Bool}
theorem open_words {r : Reach} {b0 : Nat} {v : Value} {d : DataW H} {p : List MemPlace} (hv : Value.okWide Tryz.prog w r b0 44 v) (h : DataW.Trod enc Tryz.prog w 0 (fun _ => true) held 44 v d p) :
    ∃ a n c ks, v = .slice a n c ∧ n ≤ c ∧ c ≤ 9223372036854775807 ∧ (a = none → n = 0 ∧ c = 0) ∧ KeysIn w a n ks := by
  obtain ⟨a, n, c, ks, rfl, hn, hps⟩ := open_keys hv h
  obtain ⟨fuel, hf⟩ := h
  rcases Go.Deep.open_slice Tryz.underlying44 hf with ⟨hcs, _⟩ | ⟨x, l, c', m, n', D, Pl, hcs, _, hl, hm, hmm, _, hel⟩
  · simp [Value.cells] at hcs
    obtain ⟨rfl, rfl, rfl⟩ := hcs
    exact ⟨none, 0, 0, ks, rfl, by omega, by omega, fun _ => ⟨rfl, rfl⟩, hps⟩
  · simp [Value.cells] at hcs
    obtain ⟨rfl, rfl, rfl⟩ := hcs
    unfold maxLen at hm
    exact ⟨some x, n, c, ks, rfl, hl, by omega, (fun h => by cases h), hps⟩
theorem cells_bool : Tryz.prog.cellsOf 4 = 1 := by kernel_rfl
theorem fields_at {fs : Array Field} {l : List (TypeId × Nat)} (hl : fs.toList.map (fun f => (f.type, f.offset)) = l) {xs : List (DataW H × List MemPlace)} {n : Nat} {cs : List Value} (hxl : xs.length = fs.size)
    (hx : ∀ (i : Nat) (f : Field), fs[i]? = some f → DataW.trod enc Tryz.prog w base spare held n f.type ((cs.drop f.offset).take (Tryz.prog.cellsOf f.type)) = xs[i]?) : ∀ (i t o : Nat), l[i]? = some (t, o) → ∃ y, DataW.trod enc Tryz.prog w base spare held n t ((cs.drop o).take (Tryz.prog.cellsOf t)) = some y := by
  intro i t o hi
  obtain ⟨f, hf, rfl, rfl⟩ := field_at hl hi
  have := hx i f hf
  have hlt := (Array.getElem?_eq_some_iff.1 hf).1
  rw [List.getElem?_eq_getElem (by omega)] at this
  exact ⟨_, this⟩
theorem rd_int {n o : Nat} {t : TypeId} {k : IntKind} {cs : List Value} {y : DataW H × List MemPlace} (ht : Tryz.prog.underlying t = some (.int k)) (hc : Tryz.prog.cellsOf t = 1) (h : DataW.trod enc Tryz.prog w base spare held n t ((cs.drop o).take (Tryz.prog.cellsOf t)) = some y) : ∃ m, cs[o]? = some (.int k m) ∧ (Lit.int k m).wf = true := by
  obtain ⟨m, hm, _, hw⟩ := DataW.trod_int ht h
  rw [hc] at hm
  exact ⟨m, one_cell hm, hw⟩
end
theorem KeysIn.ch {w w' : World} {a : Option Addr} {n : Nat} {ks : Nat → BitVec 64} (h : KeysIn w a n ks) (c : Ch [] w w') {k : Nat} (hk : k ≤ n) : KeysIn w' a k ks := fun j hj => by
  obtain ⟨kb, ko, h1, h2, h3⟩ := h j (by omega)
  exact ⟨kb, ko, h1, by have := c.size; omega, by rw [c.block kb h2 (by simp)]; exact h3⟩
attribute [local go_sem] zbv zcb zba zbf zbr zbd zbq zbs zbx signed64 signed8 zap BitVec.ofInt_add BitVec.ofInt_mul ofInt_sub' zbb zbc wide8 eqN neN zca shr1 shr7 shr56
attribute [local go_sem high] zbe zbw
attribute [local go_sem] zaw zby zaj zas zae zay zar zak zbn zam zax zaz
attribute [local go_sem] load26 load73 load23 store26 build73
attribute [local go_sem ↓] lrow26 lrow73 lrow23 srow26 zero26 brow73 zac zbk zbg zaa zab
attribute [local go_sem] zai zav zau zbj zbl zbo zaq zat zbp zbi zbh
attribute [local go_sem] nn2 nm2 nn3 nm3 nn4 nm4 nn5 nm5 nn6 nm6 nn7 nm7 nn8 nm8
attribute [local go_sem] nn2 nm2 nn3 nm3 nn4 nm4 nn5 nm5 nn6 nm6 nn7 nm7 nn8 nm8
attribute [local go_sem] Oper.semAt_some zao
def frontW (ks : Nat → BitVec 64) (n : Nat) : List (BitVec 64) := (List.range n).map ks
theorem frontW_len (ks : Nat → BitVec 64) (n : Nat) : (frontW ks n).length = n := by simp [frontW]
end Go.Proofs.Hc
namespace Go.Proofs.Hc
open Go.ChangeShapes Go.WideShapes Go.ChangeAt Go.RowKit
section
variable {H : Type} {enc : TypeId × Value → H} {w : World} {base : Nat} {held : Bool}
def SeenIn (w : World) (a : Option Addr) (n : Nat) (ps : Nat → BitVec 64 × Bool) : Prop := ∀ j, j < n → ∃ kb ko, a = some ⟨kb, ko, none⟩ ∧ kb < w.heap.size ∧ (w.heap[kb]?).bind (rowAt (ko + j * 2) 2) = some (seenC (N (ps j).1) (ps j).2)
theorem cells_seen : Tryz.prog.cellsOf 93 = 2 := by kernel_rfl
theorem seen_under : Tryz.prog.underlying 93 = some (.struct (Tryz.prog.fieldsOf 93)) := by kernel_rfl
theorem seen_fields : (Tryz.prog.fieldsOf 93).toList.map (fun f => (f.type, f.offset)) = [(22, 0), (4, 1)] := by kernel_rfl
theorem seen_cellsOf {spare : Nat → Bool} {fuel : Nat} {cs : List Value} {x : DataW H × List MemPlace} (h : DataW.trod enc Tryz.prog w base spare held fuel 93 cs = some x) : ∃ (k : BitVec 64) (b : Bool), cs = [U k, .bool b] := by
  obtain ⟨xs, n, _, _, hlen, hxl, hx⟩ := DataW.trod_struct seen_under h
  have rd := fields_at (n := n) (cs := cs) seen_fields hxl hx
  have hlen := hlen.trans cells_seen
  obtain ⟨y0, e0⟩ := rd 0 _ _ rfl
  obtain ⟨m0, h0, w0⟩ := rd_int Tryz.underlying22 cells_u64 e0
  obtain ⟨y1, e1⟩ := rd 1 _ _ rfl
  obtain ⟨m1, h1, _⟩ := DataW.trod_bool bool_under e1
  rw [cells_bool] at h1
  have h1 := one_cell h1
  refine ⟨BitVec.ofInt 64 m0, m1, ?_⟩
  apply List.ext_getElem?
  intro i
  match i with
  | 0 => rw [h0, U_of w0]; rfl
  | 1 => rw [h1]; rfl
  | i + 2 => rw [List.getElem?_eq_none (by omega), List.getElem?_eq_none (by simp)]
theorem open_seens {r : Reach} {b0 : Nat} {v : Value} {d : DataW H} {p : List MemPlace} (hv : Value.okWide Tryz.prog w r b0 84 v) (h : DataW.Trod enc Tryz.prog w 0 (fun _ => true) held 84 v d p) :
    ∃ a n c ps, v = .slice a n c ∧ n ≤ 9223372036854775807 ∧ SeenIn w a n ps := by
  obtain ⟨a, n, c, rfl⟩ := okWide_slice Tryz.underlying84 hv
  obtain ⟨fuel, hf⟩ := h
  rcases Go.Deep.open_slice Tryz.underlying84 hf with ⟨hcs, _⟩ | ⟨x, l, c', m, n', D, Pl, hcs, _, hl, hm, hmm, _, hel⟩
  · simp [Value.cells] at hcs
    obtain ⟨rfl, rfl, rfl⟩ := hcs
    exact ⟨none, 0, 0, fun _ => (0#64, false), rfl, by omega, fun j hj => by omega⟩
  · simp [Value.cells] at hcs
    obtain ⟨rfl, rfl, rfl⟩ := hcs
    simp only [if_true] at hmm
    subst hmm
    unfold maxLen at hm
    have hsp : 0 < n → x.spot = none := by
      intro hn
      obtain ⟨cs', h1, h2⟩ := hel 0 (by omega)
      obtain ⟨k, v, rfl⟩ := seen_cellsOf h2
      rw [cells_seen] at h1
      obtain ⟨_, _, h3⟩ := World.cells?_some h1
      have e0 := h3 0 (by omega)
      have := World.cell?_spot e0
      simpa [Addr.add] using this
    have hall : ∀ j, j < n → ∃ q : BitVec 64 × Bool, ∃ kb ko, x = ⟨kb, ko, none⟩ ∧ kb < w.heap.size ∧ (w.heap[kb]?).bind (rowAt (ko + j * 2) 2) = some (seenC (N q.1) q.2) := by
      intro j hj
      obtain ⟨cs', h1, h2⟩ := hel j (by omega)
      obtain ⟨k, v, rfl⟩ := seen_cellsOf h2
      rw [cells_seen] at h1
      obtain ⟨_, _, h3⟩ := World.cells?_some h1
      have e0 := h3 0 (by omega)
      have e1 := h3 1 (by omega)
      obtain ⟨b, off, spot⟩ := x
      obtain rfl : spot = none := hsp (by omega)
      have a0 : ((⟨b, off, none⟩ : Addr).add (j * 2)).add 0 = ⟨b, off + j * 2, none⟩ := by unfold Addr.add; split <;> split <;> simp_all
      have a1 : ((⟨b, off, none⟩ : Addr).add (j * 2)).add 1 = ⟨b, off + j * 2 + 1, none⟩ := by unfold Addr.add; split <;> split <;> simp_all
      rw [a0] at e0
      rw [a1] at e1
      obtain ⟨c0, c1⟩ := cell_in (v := U k) (by simpa using e0)
      obtain ⟨_, c2⟩ := cell_in (v := .bool v) (by simpa using e1)
      exact ⟨(k, v), b, off, rfl, c0, row_of_two c1 c2⟩
    obtain ⟨ps, hps⟩ := Go.Deep.choose_lt hall
    refine ⟨some x, n, _, ps, rfl, by omega, fun j hj => ?_⟩
    obtain ⟨kb, ko, hx, h1, h2⟩ := hps j hj
    exact ⟨kb, ko, by rw [hx], h1, h2⟩
theorem SeenIn.ch {w w' : World} {a : Option Addr} {n : Nat} {ps : Nat → BitVec 64 × Bool} (h : SeenIn w a n ps) (c : Ch [] w w') : SeenIn w' a n ps := by
  intro j hj
  obtain ⟨kb, ko, ha, hk, hr⟩ := h j hj
  exact ⟨kb, ko, ha, Nat.lt_of_lt_of_le hk c.size, by rw [c.block kb hk (by simp)]; exact hr⟩
end
end Go.Proofs.Hc
namespace Go.Proofs.Hc
open Go.ChangeShapes Go.WideShapes Go.ChangeAt Go.RowKit
section
variable {H : Type} {enc : TypeId × Value → H} {w : World} {base : Nat} {spare : Nat → Bool} {held : Bool}
theorem cells_part : Tryz.prog.cellsOf 51 = 123 := by kernel_rfl
theorem rows_u64 {fuel : Nat} {cs : List Value} {x : DataW H × List MemPlace} (h : DataW.trod enc Tryz.prog w base spare held fuel 49 cs = some x) :
    ∀ i, i < 80 → ∃ m, cs[i]? = some (.int .u64 m) ∧ (Lit.int .u64 m).wf = true := by
  obtain ⟨xs, m, _, _, _, hl, hx⟩ := DataW.trod_array Tryz.underlying49 h
  intro i hi
  have h1 := hx (i / 40) (by omega)
  rw [c40s_cells, List.getElem?_eq_getElem (by omega)] at h1
  obtain ⟨k, hk, hw⟩ := row_u64 Tryz.underlying48 h1 (i % 40) (by omega)
  have hk := drop_take_get hk
  rw [show i / 40 * 40 + i % 40 = i by omega] at hk
  exact ⟨k, hk, hw⟩
theorem row_ints {fuel : Nat} {cs : List Value} {x : DataW H × List MemPlace} (h : DataW.trod enc Tryz.prog w base spare held fuel 45 cs = some x) :
    ∀ i, i < 2 → ∃ m, cs[i]? = some (I m) := by
  obtain ⟨xs, m, _, _, _, hl, hx⟩ := DataW.trod_array Tryz.underlying45 h
  intro i hi
  have h1 := hx i hi
  rw [cells_int, Nat.mul_one, List.getElem?_eq_getElem (by omega)] at h1
  obtain ⟨k, hk, _, hw⟩ := DataW.trod_int Tryz.underlying3 h1
  exact ⟨k, one_cell hk⟩
theorem part_cellsOf {fuel : Nat} {cs : List Value} {x : DataW H × List MemPlace} (h : DataW.trod enc Tryz.prog w base spare held fuel 51 cs = some x) : ∃ p : PartT, cs = (partC p).toList := by
  obtain ⟨xs, n, _, _, hlen, hxl, hx⟩ := DataW.trod_struct part_under h
  have rd := fields_at (n := n) (cs := cs) part_fields hxl hx
  have hlen := hlen.trans cells_part
  obtain ⟨y0, e0⟩ := rd 0 _ _ rfl
  obtain ⟨m0, h0, _⟩ := rd_int Tryz.underlying3 cells_int e0
  obtain ⟨y1, e1⟩ := rd 1 _ _ rfl
  obtain ⟨m1, h1, _⟩ := rd_int Tryz.underlying3 cells_int e1
  obtain ⟨y2, e2⟩ := rd 2 _ _ rfl
  obtain ⟨m2, h2, _⟩ := rd_int Tryz.underlying3 cells_int e2
  obtain ⟨y3, e3⟩ := rd 3 _ _ rfl
  have h3 := row_ints e3
  obtain ⟨y5, e5⟩ := rd 4 _ _ rfl
  obtain ⟨m5, h5, w5⟩ := rd_int Tryz.underlying22 cells_u64 e5
  obtain ⟨y6, e6⟩ := rd 5 _ _ rfl
  obtain ⟨m6, h6, w6⟩ := rd_int Tryz.underlying22 cells_u64 e6
  obtain ⟨y7, e7⟩ := rd 6 _ _ rfl
  obtain ⟨m7, h7, w7⟩ := rd_int Tryz.underlying22 cells_u64 e7
  obtain ⟨y8, e8⟩ := rd 7 _ _ rfl
  have h8 := row_u64 Tryz.underlying23 e8
  obtain ⟨y9, e9⟩ := rd 8 _ _ rfl
  have h9 := row_u64 Tryz.underlying24 e9
  obtain ⟨y10, e10⟩ := rd 9 _ _ rfl
  have h10 := row_u64 Tryz.underlying24 e10
  obtain ⟨y11, e11⟩ := rd 10 _ _ rfl
  obtain ⟨m11, h11, _⟩ := rd_int Tryz.underlying3 cells_int e11
  obtain ⟨y12, e12⟩ := rd 11 _ _ rfl
  have h12 := rows_u64 e12
  obtain ⟨m3, h3a⟩ := h3 0 (by omega)
  obtain ⟨m4, h3b⟩ := h3 1 (by omega)
  have h3a := drop_take_get h3a
  have h3b := drop_take_get h3b
  refine ⟨⟨m0, m1, m2, m3, m4, BitVec.ofInt 64 m5, BitVec.ofInt 64 m6, BitVec.ofInt 64 m7, fun j => BitVec.ofInt 64 (intAt cs (8 + j)), fun j => BitVec.ofInt 64 (intAt cs (10 + j)), fun j => BitVec.ofInt 64 (intAt cs (26 + j)), m11, fun j => BitVec.ofInt 64 (intAt cs (43 + j))⟩, ?_⟩
  apply List.ext_getElem?
  intro i
  have e : ∀ (q : PartT), (partC q).toList[i]? = if i < 123 then some (q.cell i) else none := fun q => by rw [Array.getElem?_toList, partC_get]
  rw [e]
  clear e
  by_cases hi : i < 123
  · rw [if_pos hi]
    match i, hi with
    | 0, _ => exact h0
    | 1, _ => exact h1
    | 2, _ => exact h2
    | 3, _ => exact h3a
    | 4, _ => exact h3b
    | 5, _ => exact h5.trans (congrArg some (U_of w5).symm)
    | 6, _ => exact h6.trans (congrArg some (U_of w6).symm)
    | 7, _ => exact h7.trans (congrArg some (U_of w7).symm)
    | i + 8, hi =>
      show cs[i + 8]? = some (if i < 2 then U (BitVec.ofInt 64 (intAt cs (8 + i))) else if i < 18 then U (BitVec.ofInt 64 (intAt cs (10 + (i - 2)))) else if i < 34 then U (BitVec.ofInt 64 (intAt cs (26 + (i - 18)))) else if i < 35 then I m11 else U (BitVec.ofInt 64 (intAt cs (43 + (i - 35)))))
      by_cases a : i < 2
      · rw [if_pos a]
        obtain ⟨m, hm, hw⟩ := h8 i a
        have hm := drop_take_get hm
        rw [intAt_eq hm, U_of hw, Nat.add_comm]
        exact hm
      · rw [if_neg a]
        by_cases b : i < 18
        · rw [if_pos b]
          obtain ⟨m, hm, hw⟩ := h9 (i - 2) (by omega)
          have hm := drop_take_get hm
          rw [intAt_eq hm, U_of hw, show i + 8 = 10 + (i - 2) by omega]
          exact hm
        · rw [if_neg b]
          by_cases c : i < 34
          · rw [if_pos c]
            obtain ⟨m, hm, hw⟩ := h10 (i - 18) (by omega)
            have hm := drop_take_get hm
            rw [intAt_eq hm, U_of hw, show i + 8 = 26 + (i - 18) by omega]
            exact hm
          · rw [if_neg c]
            by_cases d : i < 35
            · rw [if_pos d]
              obtain rfl : i = 34 := by omega
              exact h11
            · rw [if_neg d]
              obtain ⟨m, hm, hw⟩ := h12 (i - 35) (by omega)
              have hm := drop_take_get hm
              rw [intAt_eq hm, U_of hw, show i + 8 = 43 + (i - 35) by omega]
              exact hm
  · rw [if_neg hi, List.getElem?_eq_none (by omega)]
theorem open_part {r : Reach} {b0 : Nat} {v : Value} {d : DataW H} {p : List MemPlace} (hv : Value.okWide Tryz.prog w r b0 51 v) (h : DataW.Trod enc Tryz.prog w base spare held 51 v d p) : ∃ q : PartT, v = .agg (partC q) := by
  obtain ⟨cs, rfl, hsz⟩ := okWide_struct part_under hv
  obtain ⟨fuel, hf⟩ := h
  have hf' : DataW.trod enc Tryz.prog w base spare held fuel 51 cs.toList = some (d, p) := hf
  obtain ⟨q, hq⟩ := part_cellsOf hf'
  exact ⟨q, congrArg Value.agg (Array.ext' hq)⟩
end
attribute [local go_sem] zbv zcb zba zbf zbr zbd zbq zbs zbx signed64 signed8 zap BitVec.ofInt_add BitVec.ofInt_mul ofInt_sub' zbb zbc wide8 eqN neN zca shr1 shr7 shr56
attribute [local go_sem high] zbe zbw
attribute [local go_sem] zaw zby zaj zas zae zay zar zak zbn zam zax zaz
attribute [local go_sem] load26 load73 load23 store26 build73
attribute [local go_sem ↓] lrow26 lrow73 lrow23 srow26 zero26 brow73 zac zbk zbg zaa zab
attribute [local go_sem] zai zav zau zbj zbl zbo zaq zat zbp zbi zbh
attribute [local go_sem] nn2 nm2 nn3 nm3 nn4 nm4 nn5 nm5 nn6 nm6 nn7 nm7 nn8 nm8
attribute [local go_sem] nn2 nm2 nn3 nm3 nn4 nm4 nn5 nm5 nn6 nm6 nn7 nm7 nn8 nm8
attribute [local go_sem] Oper.semAt_some zao
theorem own22_some (l : List (BitVec 64)) (x : Addr) (n c : Nat) (w : World) (hn : n ≤ 9223372036854775807) (hc : n ≤ c) (hl : l.length = min n 180) (h : ∀ w', Ch [] w w' → ∀ j u, (l.map fun x => U x)[j]? = some u → w'.cell? (x.add j) = some u) :
    Calls Tryz.prog 23 #[.slice (some x) n c] w fun e w' => ∃ a' c', e = .returned (.slice a' l.length c') ∧ w'.ownsRow w.heap.size 22 1 (.slice a' l.length c') l.length (l.map fun x => U x) ∧ Ch [] w w' := by
  have K1 := fun (w' : World) (hw : Ch [] w w') => cloneWords_any l x c w' (by omega) (fun w'' h'' => h w'' (hw.trans h''))
  generalize hm : l.length = m at *
  have hm0 : (0 : Int) ≤ m := by omega
  have hmc : m ≤ c := by omega
  have hm200 : (m : Int) ≤ 180 := by omega
  have HK := Lib.hid K1
  have HM : Hid ((min (n : Int) 180).toNat = m) := Lib.hid (by omega)
  have hnc : (n : Int) ≤ c := by omega
  clear hl K1 hm h hn
  go_enter Tryz.func23, Tryz.ntmps23
  go_wp2_with fail
  rw [HM.out]
  refine (HK.out _ (Ch.refl _ _)).mono ?_
  rintro e w1 ⟨a', c', rfl, ho, hc1⟩
  have HO := Lib.hid ho
  clear ho
  go_wp2
  go_ret
  exact ⟨a', c', rfl, HO.out, hc1⟩
theorem own22_none (w : World) : Calls Tryz.prog 23 #[.slice none 0 0] w fun e w' => e = .returned (.slice none 0 0) ∧ w = w' := by
  have K1 := fun w => cloneWords_none 0 w
  go_enter Tryz.func23, Tryz.ntmps23
  go_wp2_with fail
  refine (K1 _).mono ?_
  rintro e w' ⟨rfl, rfl⟩
  go_wp2
  go_ret
  exact ⟨rfl, rfl⟩
theorem own22_words (a : Option Addr) (n c : Nat) (ks : Nat → BitVec 64) (w : World) (hn : n ≤ c) (hc : c ≤ 9223372036854775807) (ha : a = none → n = 0 ∧ c = 0) (h : KeysIn w a n ks) :
    Calls Tryz.prog 23 #[.slice a n c] w fun e w' => ∃ a' c', e = .returned (.slice a' (min n 180) c') ∧ w'.ownsRow w.heap.size 22 1 (.slice a' (min n 180) c') (min n 180) ((frontW ks (min n 180)).map fun x => U x) ∧ Ch [] w w' := by
  cases a with
  | none =>
    obtain ⟨rfl, rfl⟩ := ha rfl
    refine (own22_none w).mono ?_
    rintro e w' ⟨rfl, rfl⟩
    exact ⟨none, 0, rfl, World.ownsRow_nil _ _ _ _, Ch.refl _ _⟩
  | some x =>
    have := own22_some (frontW ks (min n 180)) x n c w (by omega) hn (by rw [frontW_len]) (by
      intro w' c1 j u hj
      have hlt := (List.getElem?_eq_some_iff.1 hj).1
      rw [List.length_map, frontW_len] at hlt
      obtain ⟨kb, ko, hka, hkb, hrow⟩ := h j (by omega)
      obtain rfl : x = ⟨kb, ko, none⟩ := by simpa using hka
      rw [List.getElem?_map] at hj
      unfold frontW at hj
      rw [List.getElem?_map, List.getElem?_range hlt] at hj
      have hj : U (ks j) = u := by simpa using hj
      subst hj
      have hadd : (⟨kb, ko, none⟩ : Addr).add j = ⟨kb, ko + j, none⟩ := by unfold Addr.add; split <;> simp_all
      rw [hadd, zaw, c1.block kb hkb (by simp)]
      exact hrow)
    rw [frontW_len] at this
    exact this
theorem own22_row (a : Option Addr) (n c : Nat) (ks : Nat → BitVec 64) (w : World) (hn : n ≤ c) (hc : c ≤ 9223372036854775807) (ha : a = none → n = 0 ∧ c = 0) (h : KeysIn w a n ks) (m : Nat) (hm : min n 180 = m) (h1 : 1 ≤ m) :
    Calls Tryz.prog 23 #[.slice a n c] w fun e w' => ∃ R c2 cur, e = .returned (.slice (some ⟨R, 0, none⟩) m c2) ∧ w.heap.size ≤ R ∧ WordsAt cur (frontW ks m) ∧ w'.heap[R]? = some (.cells cur 22 (0, 0)) ∧ Ch [] w w' := by
  refine (own22_words a n c ks w hn hc ha h).mono ?_
  rintro e w' ⟨a', c', rfl, ho, hC⟩
  rw [hm] at ho ⊢
  obtain ⟨R, c2, cur, hv, hR, _, hcur, hW⟩ := row_out (frontW_len ks m) h1 ho
  exact ⟨R, c2, cur, by rw [hv], hR, hcur, hW, hC⟩
theorem own22_empty (a : Option Addr) (n c : Nat) (ks : Nat → BitVec 64) (w : World) (hn : n ≤ c) (hc : c ≤ 9223372036854775807) (ha : a = none → n = 0 ∧ c = 0) (h : KeysIn w a n ks) (hm : min n 180 = 0) :
    Calls Tryz.prog 23 #[.slice a n c] w fun e w' => ∃ a' c', e = .returned (.slice a' 0 c') ∧ Ch [] w w' := by
  refine (own22_words a n c ks w hn hc ha h).mono ?_
  rintro e w' ⟨a', c', rfl, ho, hC⟩
  rw [hm]
  exact ⟨a', c', rfl, hC⟩
theorem s22Step_is {l : List (BitVec 64)} {p : PartT} {n : Nat} {z : List (BitVec 64) × PartT} (h1 : 1 ≤ n) (hn : n ≤ 8192) (hl : l.length = n) (hr : rightS p = true) (hz : stepS l p = some z) (r c : Nat) (cur : Array Value) (hw : WordsAt cur l) (w : World) (hb : w.heap[r]? = some (.cells cur 22 (0, 0))) :
    Calls Tryz.prog 52 #[.slice (some ⟨r, 0, none⟩) n c, .agg (partC p)] w fun e w' => ∃ R, e = .returned (.tuple #[.slice (some ⟨R, 0, none⟩) n n, .agg (partC z.2), I 0]) ∧ z.1.length = n ∧ w.heap.size ≤ R ∧ w'.heap[R]? = some (.cells (wcells z.1) 22 (0, 0)) ∧ Ch [] w w' := by
  subst hl
  refine (s22Step_any l r c cur p w h1 hn hb hw hr).mono ?_
  intro e w' h
  unfold StepSPost at h
  rw [hz] at h
  obtain ⟨R, rfl, hrow, hyl, hC⟩ := h
  exact ⟨R, by rw [hyl], hyl, hrow.1, hrow.2, hC⟩
theorem s22Step_isnt {l : List (BitVec 64)} {p : PartT} {n : Nat} (h1 : 1 ≤ n) (hn : n ≤ 8192) (hl : l.length = n) (hr : rightS p = true) (hz : stepS l p = none) (r c : Nat) (cur : Array Value) (hw : WordsAt cur l) (w : World) (hb : w.heap[r]? = some (.cells cur 22 (0, 0))) :
    Calls Tryz.prog 52 #[.slice (some ⟨r, 0, none⟩) n c, .agg (partC p)] w fun e w' => e = .returned (.tuple #[.slice none 0 0, .agg (partC zeroPart), I 2]) ∧ Ch [] w w' := by
  subst hl
  refine (s22Step_any l r c cur p w h1 hn hb hw hr).mono ?_
  intro e w' h
  unfold StepSPost at h
  rw [hz] at h
  exact h
theorem r22Step_same (R2 c3 : Nat) (cur2 : Array Value) (LL : List (BitVec 64)) (m : Nat) (p : PartT) (h5 : ¬ p.ph ≤ 6) (w : World) (hb : w.heap[R2]? = some (.cells cur2 22 (0, 0))) (hw : WordsAt cur2 LL) :
    Calls Tryz.prog 53 #[.slice (some ⟨R2, 0, none⟩) m c3, .agg (partC p)] w fun e w' => ∃ R c2 cur, e = .returned (.tuple #[.slice (some ⟨R, 0, none⟩) m c2, .agg (partC p)]) ∧ WordsAt cur LL ∧ w'.heap[R]? = some (.cells cur 22 (0, 0)) ∧ Ch [] w w' := by
  refine (r22Step_over _ p h5 w).mono ?_
  rintro e w' ⟨rfl, hC⟩
  exact ⟨R2, c3, cur2, rfl, hw, hkeep hC hb, hC⟩
theorem r22Step_row {l : List (BitVec 64)} {p : PartT} {y : List (BitVec 64) × BitVec 64} {n : Nat} (hn : l.length = n) (hl : n ≤ 8192) (hr : rightS p = true) (h6 : p.ph ≤ 6) (hy : doP l (accS p) = some y) (g c : Nat) (cur : Array Value) (hw : WordsAt cur l) (w : World) (hb : w.heap[g]? = some (.cells cur 22 (0, 0))) :
    Calls Tryz.prog 53 #[.slice (some ⟨g, 0, none⟩) n c, .agg (partC p)] w fun e w' => ∃ R c2 cur2, e = .returned (.tuple #[.slice (some ⟨R, 0, none⟩) n c2, .agg (partC (takeS p y.2))]) ∧ WordsAt cur2 y.1 ∧ w'.heap[R]? = some (.cells cur2 22 (0, 0)) ∧ Ch [] w w' :=
  r22Step_core n g c cur y.1 p (takeS p y.2) (accS p).kind (accS p).at_ (N (accS p).new) y.2 h6 (fun w => r22Need_any p hr h6 w) (fun w hb => r02Do_S ((rightS_iff p).1 hr) h6 hy n hn hl g c cur hw w hb) (fun w => r22Take_any p hr h6 y.2 true w) w hb
theorem doP_where22 {l : List (BitVec 64)} {a : AccT} (h0 : 0 ≤ a.at_) : (doP l a = none → (l.length : Int) ≤ a.at_) ∧ (∀ y, doP l a = some y → ¬ (l.length : Int) ≤ a.at_) := by
  unfold doP
  constructor
  · intro h
    split at h
    · rename_i hn
      have := List.getElem?_eq_none_iff.1 hn
      omega
    · cases h
  · intro y h
    split at h
    · cases h
    · rename_i hn
      have := (List.getElem?_eq_some_iff.1 hn).1
      omega
end Go.Proofs.Hc
