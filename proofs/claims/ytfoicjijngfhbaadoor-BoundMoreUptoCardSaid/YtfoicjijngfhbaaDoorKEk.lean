/- Law 29: a script that came in, opened. -/
import Derived.Test.YtfoicjijngfhbaaDoorKEj
import Derived.Test.YtfoicjijngfhbaaDoorKCa0
set_option linter.unusedSimpArgs false
set_option linter.unusedVariables false
namespace Go.Proofs.Hc
open Go.ChangeShapes Go.WideShapes Go.ChangeAt Go.RowKit
set_option linter.unusedVariables false
instance : Inhabited CallT := ⟨⟨0, 0#64, 0#64, 0#64⟩⟩
instance : Inhabited ListT := ⟨⟨none, 0, []⟩⟩
theorem wfB_u64 {n : Int} (h : (Lit.int .u64 n).wf = true) : 0 ≤ n ∧ n < 18446744073709551616 := by
  have : 0 ≤ n ∧ n ≤ 18446744073709551615 := by simpa [Lit.wf, IntKind.min, IntKind.max, IntKind.signed, IntKind.bits] using h
  omega
theorem UB_of {n : Int} (h : (Lit.int .u64 n).wf = true) : U (BitVec.ofInt 64 n) = .int .u64 n := by
  obtain ⟨h0, h1⟩ := wfB_u64 h
  show Value.int .u64 (N (BitVec.ofInt 64 n)) = _
  have : N (BitVec.ofInt 64 n) = n := by
    unfold N
    rw [BitVec.toNat_ofInt]
    have e : ((2 ^ 64 : Nat) : Int) = 18446744073709551616 := by decide
    rw [e, Int.emod_eq_of_lt h0 h1]
    omega
  rw [this]
theorem crow_at : ∀ (l : List CallT) (j : Nat) (u : Value), (crow l)[j]? = some u → ∃ c, l[j / 4]? = some c ∧ (CallT.cells c)[j % 4]? = some u
  | [], j, u, h => by simp [crow] at h
  | c :: l, j, u, h => by
    have e : crow (c :: l) = CallT.cells c ++ crow l := rfl
    rw [e] at h
    have hl : (CallT.cells c).length = 4 := rfl
    by_cases hj : j < 4
    · rw [List.getElem?_append_left (by omega)] at h
      refine ⟨c, ?_, ?_⟩
      · rw [show j / 4 = 0 by omega]; rfl
      · rw [show j % 4 = j by omega]; exact h
    · rw [List.getElem?_append_right (by omega), hl] at h
      obtain ⟨c', h1, h2⟩ := crow_at l (j - 4) u h
      refine ⟨c', ?_, ?_⟩
      · rw [show j / 4 = (j - 4) / 4 + 1 by omega, List.getElem?_cons_succ]; exact h1
      · rw [show j % 4 = (j - 4) % 4 by omega]; exact h2
section
variable {H : Type} {enc : TypeId × Value → H} {w : World} {base : Nat} {spare : Nat → Bool} {held : Bool}
theorem fieldB_at {fs : Array Field} {l : List (TypeId × Nat)} (hl : fs.toList.map (fun f => (f.type, f.offset)) = l) {xs : List (DataW H × List MemPlace)} {n : Nat} {cs : List Value} (hxl : xs.length = fs.size)
    (hx : ∀ (i : Nat) (f : Field), fs[i]? = some f → DataW.trod enc Tryd.prog w base spare held n f.type ((cs.drop f.offset).take (Tryd.prog.cellsOf f.type)) = xs[i]?) : ∀ (i t o : Nat), l[i]? = some (t, o) → ∃ y, xs[i]? = some y ∧ DataW.trod enc Tryd.prog w base spare held n t ((cs.drop o).take (Tryd.prog.cellsOf t)) = some y := by
  intro i t o hi
  rw [← hl, List.getElem?_map] at hi
  obtain ⟨f, hf, he⟩ := Option.map_eq_some_iff.1 hi
  rw [Array.getElem?_toList] at hf
  obtain ⟨rfl, rfl⟩ := Prod.mk.inj he
  have := hx i f hf
  have hlt := (Array.getElem?_eq_some_iff.1 hf).1
  rw [List.getElem?_eq_getElem (by omega)] at this
  exact ⟨_, List.getElem?_eq_getElem (by omega), this⟩
theorem rdB_int {n o : Nat} {t : TypeId} {k : IntKind} {cs : List Value} {y : DataW H × List MemPlace} (ht : Tryd.prog.underlying t = some (.int k)) (hc : Tryd.prog.cellsOf t = 1) (h : DataW.trod enc Tryd.prog w base spare held n t ((cs.drop o).take (Tryd.prog.cellsOf t)) = some y) : ∃ m, cs[o]? = some (.int k m) ∧ (Lit.int k m).wf = true := by
  obtain ⟨m, hm, _, hw⟩ := DataW.trod_int ht h
  rw [hc] at hm
  exact ⟨m, one_cellB hm, hw⟩
theorem cellsB_u64 : Tryd.prog.cellsOf 32 = 1 := by kernel_rfl
theorem cellsB_call : Tryd.prog.cellsOf 46 = 4 := by kernel_rfl
theorem cellsB_list : Tryd.prog.cellsOf 47 = 1 := by kernel_rfl
theorem cellsB_lists : Tryd.prog.cellsOf 33 = 1 := by kernel_rfl
theorem cellsB_words : Tryd.prog.cellsOf 34 = 1 := by kernel_rfl
theorem cellsB_script : Tryd.prog.cellsOf 36 = 5 := by kernel_rfl
theorem callB_under : Tryd.prog.underlying 46 = some (.struct (Tryd.prog.fieldsOf 46)) := by kernel_rfl
theorem callB_fields : (Tryd.prog.fieldsOf 46).toList.map (fun f => (f.type, f.offset)) = [(3, 0), (32, 1), (32, 2), (32, 3)] := by kernel_rfl
theorem scriptB_under : Tryd.prog.underlying 36 = some (.struct (Tryd.prog.fieldsOf 36)) := by kernel_rfl
theorem scriptB_fields : (Tryd.prog.fieldsOf 36).toList.map (fun f => (f.type, f.offset)) = [(3, 0), (3, 1), (32, 2), (33, 3), (34, 4)] := by kernel_rfl
theorem scriptB_cells : Tryd.prog.cellTypes Tryd.prog.depth 36 = some [3, 3, 32, 33, 34] := by kernel_rfl
theorem callB_open {fuel : Nat} {cs : List Value} {x : DataW H × List MemPlace} (h : DataW.trod enc Tryd.prog w base spare held fuel 46 cs = some x) : ∃ c : CallT, cs = CallT.cells c := by
  obtain ⟨xs, n, _, _, hlen, hxl, hx⟩ := DataW.trod_struct callB_under h
  have rd := fieldB_at (n := n) (cs := cs) callB_fields hxl hx
  have hlen := hlen.trans cellsB_call
  obtain ⟨y0, _, e0⟩ := rd 0 _ _ rfl
  obtain ⟨m0, h0, w0⟩ := rdB_int Tryd.underlying3 cellsB_int e0
  obtain ⟨y1, _, e1⟩ := rd 1 _ _ rfl
  obtain ⟨m1, h1, w1⟩ := rdB_int Tryd.underlying32 cellsB_u64 e1
  obtain ⟨y2, _, e2⟩ := rd 2 _ _ rfl
  obtain ⟨m2, h2, w2⟩ := rdB_int Tryd.underlying32 cellsB_u64 e2
  obtain ⟨y3, _, e3⟩ := rd 3 _ _ rfl
  obtain ⟨m3, h3, w3⟩ := rdB_int Tryd.underlying32 cellsB_u64 e3
  refine ⟨⟨m0, BitVec.ofInt 64 m1, BitVec.ofInt 64 m2, BitVec.ofInt 64 m3⟩, ?_⟩
  unfold CallT.cells
  rw [UB_of w1, UB_of w2, UB_of w3]
  apply List.ext_getElem?
  intro i
  match i with
  | 0 => rw [h0]; rfl
  | 1 => rw [h1]; rfl
  | 2 => rw [h2]; rfl
  | 3 => rw [h3]; rfl
  | k + 4 => rw [List.getElem?_eq_none (by omega), List.getElem?_eq_none (by simp)]
/-- How many a reading of a slice holds. -/
def sizeD : DataW H → Nat
  | .slice e _ => e.length
  | _ => 0
def totalD : DataW H → Nat
  | .slice e _ => (e.map sizeD).sum
  | _ => 0
theorem listB_open {fuel : Nat} {v : Value} {x : DataW H × List MemPlace} (h : DataW.trod enc Tryd.prog w 0 (fun _ => true) held fuel 47 [v] = some x) : ∃ s : ListT, v = s.val ∧ RowAt w s.a s.l ∧ s.l.length ≤ sizeD x.1 := by
  rcases Go.Deep.open_slice Tryd.underlying47 h with ⟨hcs, _⟩ | ⟨a, len, cap, m, n, D, Pl, hcs, _, hl, hm, hmm, rfl, hel⟩
  · obtain rfl : v = .slice none 0 0 := by simpa using hcs
    exact ⟨⟨none, 0, []⟩, rfl, .inl rfl, Nat.zero_le _⟩
  · obtain rfl : v = .slice (some a) len cap := by simpa using hcs
    simp only [if_true] at hmm
    subst hmm
    have hsz : sizeD (DataW.slice (H := H) ((List.range len).map D) ((List.range (m - len)).map fun j => D (len + j))) = len := by simp [sizeD]
    rcases Nat.eq_zero_or_pos len with h0 | hpos
    · subst h0
      exact ⟨⟨some a, m, []⟩, rfl, .inl rfl, Nat.zero_le _⟩
    · have hall : ∀ j, j < len → ∃ c : CallT, ∀ t, t < 4 → w.cell? ((a.add (j * 4)).add t) = (CallT.cells c)[t]? := by
        intro j hj
        obtain ⟨cs', h1, h2⟩ := hel j (by omega)
        obtain ⟨c, rfl⟩ := callB_open h2
        rw [cellsB_call] at h1
        exact ⟨c, (World.cells?_some h1).2.2⟩
      obtain ⟨f, hf⟩ := Go.Deep.choose_lt hall
      obtain ⟨b, off, spot⟩ := a
      obtain rfl : spot = none := by
        have e0 := hf 0 hpos 0 (by omega)
        have := World.cell?_spot (e0.trans (show (CallT.cells (f 0))[0]? = some (I (f 0).op) from rfl))
        simpa [Addr.add] using this
      refine ⟨⟨some ⟨b, off, none⟩, m, (List.range len).map f⟩, ?_, .inr ⟨b, off, rfl, fun j u hj => ?_⟩, ?_⟩
      · show _ = Value.slice _ ((List.range len).map f).length m
        simp
      · obtain ⟨c, h1, h2⟩ := crow_at _ j u hj
        rw [List.getElem?_map] at h1
        obtain ⟨q, hq, rfl⟩ := Option.map_eq_some_iff.1 h1
        obtain ⟨hq1, hq2⟩ := List.getElem?_eq_some_iff.1 hq
        simp at hq1 hq2
        subst hq2
        have h3 := hf (j / 4) (by omega) (j % 4) (Nat.mod_lt _ (by omega))
        have ha : ((⟨b, off, none⟩ : Addr).add (j / 4 * 4)).add (j % 4) = ⟨b, off + j, none⟩ := by
          have e : off + j / 4 * 4 + j % 4 = off + j := by omega
          unfold Addr.add
          split <;> split <;> simp_all
        rw [ha, h2] at h3
        exact h3
      · rw [hsz]; simp
theorem cat_range (f : Nat → ListT) (g : Nat → Nat) : ∀ l : List Nat, (∀ i ∈ l, (f i).l.length ≤ g i) → (catL (l.map f)).length ≤ (l.map g).sum
  | [], _ => Nat.le_refl _
  | i :: l, h => by
    have h1 := h i (by simp)
    have h2 := cat_range f g l (fun j hj => h j (by simp [hj]))
    show ((f i).l ++ catL (l.map f)).length ≤ _
    rw [List.length_append, List.map_cons, List.sum_cons]
    omega
theorem listsB_open {fuel : Nat} {a : Option Addr} {n c : Nat} {x : DataW H × List MemPlace} (h : DataW.trod enc Tryd.prog w 0 (fun _ => true) held fuel 33 [.slice a n c] = some x) (hs : ∀ b, a = some b → b.spot = none) :
    ∃ (la : Option (Nat × Nat)) (ls : List ListT), a = adr la ∧ n = ls.length ∧ ((la = none ∧ ls = []) ∨ ∃ L o, la = some (L, o) ∧ ListsAt w L o ls) ∧ (catL ls).length ≤ totalD x.1 := by
  rcases Go.Deep.open_slice Tryd.underlying33 h with ⟨hcs, _⟩ | ⟨b, len, cap, m, n', D, Pl, hcs, _, hl, hm, hmm, rfl, hel⟩
  · simp at hcs
    obtain ⟨rfl, rfl, rfl⟩ := hcs
    exact ⟨none, [], rfl, rfl, .inl ⟨rfl, rfl⟩, Nat.zero_le _⟩
  · simp at hcs
    obtain ⟨rfl, rfl, rfl⟩ := hcs
    simp only [if_true] at hmm
    subst hmm
    have hsp := hs b rfl
    obtain ⟨L, o, spot⟩ := b
    dsimp only at hsp
    subst hsp
    have hall : ∀ j, j < n → ∃ s : ListT, w.cell? ⟨L, o + j, none⟩ = some s.val ∧ RowAt w s.a s.l ∧ s.l.length ≤ sizeD (D j) := by
      intro j hj
      obtain ⟨cs', h1, h2⟩ := hel j (by omega)
      rw [cellsB_list] at h1
      obtain ⟨_, hlen, h3⟩ := World.cells?_some h1
      match cs', hlen with
      | [v], _ =>
        obtain ⟨s, rfl, hr, hsz⟩ := listB_open h2
        refine ⟨s, ?_, hr, hsz⟩
        have e0 := h3 0 (by omega)
        have ha : ((⟨L, o, none⟩ : Addr).add (j * 1)).add 0 = ⟨L, o + j, none⟩ := by
          unfold Addr.add
          split <;> split <;> simp_all
        rw [ha] at e0
        simpa using e0
    obtain ⟨f, hf⟩ := Go.Deep.choose_lt hall
    refine ⟨some (L, o), (List.range n).map f, rfl, by simp, .inr ⟨L, o, rfl, fun i s hi => ?_⟩, ?_⟩
    · rw [List.getElem?_map] at hi
      obtain ⟨q, hq, rfl⟩ := Option.map_eq_some_iff.1 hi
      obtain ⟨hq1, hq2⟩ := List.getElem?_eq_some_iff.1 hq
      simp at hq1 hq2
      subst hq2
      exact ⟨(hf i hq1).1, (hf i hq1).2.1⟩
    · have hc := cat_range f (fun i => sizeD (D i)) (List.range n) (fun i hi => (hf i (by simpa using hi)).2.2)
      show _ ≤ (((List.range n).map D).map sizeD).sum
      rw [List.map_map]
      exact hc
set_option maxRecDepth 100000 in
/-- A script that came in. -/
theorem open_script {r : Reach} {b0 : Nat} {v : Value} {d : DataW H} {p : List MemPlace} (hv : Value.okWide Tryd.prog w r b0 36 v) (h : DataW.Trod enc Tryd.prog w 0 (fun _ => true) held 36 v d p) :
    ∃ s : ScT, v = .agg (scC s) ∧ ((s.la = none ∧ s.ls = []) ∨ ∃ L o, s.la = some (L, o) ∧ ListsAt w L o s.ls) ∧ ∃ xs : List (DataW H), d = .agg xs ∧ ∃ y, xs[3]? = some y ∧ (catL s.ls).length ≤ totalD y := by
  simp only [Value.okWide, scriptB_under] at hv
  obtain ⟨cs, rfl, hsz, ts, hts, _, hok⟩ := hv
  obtain rfl := Option.some.inj (scriptB_cells.symm.trans hts)
  obtain ⟨fuel, hf⟩ := h
  have hf' : DataW.trod enc Tryd.prog w 0 (fun _ => true) held fuel 36 cs.toList = some (d, p) := hf
  obtain ⟨xs, n, _, hx0, hlen, hxl, hx⟩ := DataW.trod_struct scriptB_under hf'
  have rd := fieldB_at (n := n) (cs := cs.toList) scriptB_fields hxl hx
  have hlen := hlen.trans cellsB_script
  obtain ⟨y0, _, e0⟩ := rd 0 _ _ rfl
  obtain ⟨m0, h0, w0⟩ := rdB_int Tryd.underlying3 cellsB_int e0
  obtain ⟨y1, _, e1⟩ := rd 1 _ _ rfl
  obtain ⟨m1, h1, w1⟩ := rdB_int Tryd.underlying3 cellsB_int e1
  obtain ⟨y2, _, e2⟩ := rd 2 _ _ rfl
  obtain ⟨m2, h2, w2⟩ := rdB_int Tryd.underlying32 cellsB_u64 e2
  obtain ⟨y3, hy3, e3⟩ := rd 3 _ _ rfl
  obtain ⟨y4, _, e4⟩ := rd 4 _ _ rfl
  rw [cellsB_lists] at e3
  rw [cellsB_words] at e4
  obtain ⟨v3, hv3⟩ : ∃ v, (cs.toList.drop 3).take 1 = [v] := by
    match hc : cs.toList, hlen with
    | [_, _, _, v, _], _ => exact ⟨v, rfl⟩
  obtain ⟨v4, hv4⟩ : ∃ v, (cs.toList.drop 4).take 1 = [v] := by
    match hc : cs.toList, hlen with
    | [_, _, _, _, v], _ => exact ⟨v, rfl⟩
  have g3 := one_cellB hv3
  have g4 := one_cellB hv4
  rw [hv3] at e3
  rw [hv4] at e4
  obtain ⟨a3, n3, c3, rfl⟩ : ∃ a n c, v3 = .slice a n c := by
    rcases Go.Deep.open_slice Tryd.underlying33 e3 with ⟨hcs, _⟩ | ⟨b, len, cap, m, n', D, Pl, hcs, _⟩
    · exact ⟨_, _, _, by simpa using hcs⟩
    · exact ⟨_, _, _, by simpa using hcs⟩
  obtain ⟨a4, n4, c4, rfl⟩ : ∃ a n c, v4 = .slice a n c := by
    rcases Go.Deep.open_slice Tryd.underlying34 e4 with ⟨hcs, _⟩ | ⟨b, len, cap, m, n', D, Pl, hcs, _⟩
    · exact ⟨_, _, _, by simpa using hcs⟩
    · exact ⟨_, _, _, by simpa using hcs⟩
  have hsp : ∀ b, a3 = some b → b.spot = none := by
    intro b hb
    subst hb
    obtain ⟨u, hu, hok3⟩ := hok 3 _ (by rw [← Array.getElem?_toList]; exact g3)
    obtain rfl : 33 = u := by simpa using hu
    simp only [Cell.okWide, Cell.ok, Tryd.underlying33] at hok3
    exact hok3.2.2.2.1
  obtain ⟨la, ls, rfl, rfl, hls, htot⟩ := listsB_open e3 hsp
  refine ⟨⟨m0, m1, BitVec.ofInt 64 m2, la, c3, ls, a4, n4, c4⟩, ?_, hls, xs.map (·.1), (Prod.mk.inj hx0).1, y3.1, ?_, htot⟩
  · refine congrArg Value.agg (Array.ext' ?_)
    unfold scC
    rw [UB_of w2]
    apply List.ext_getElem?
    intro i
    match i with
    | 0 => rw [h0]; rfl
    | 1 => rw [h1]; rfl
    | 2 => rw [h2]; rfl
    | 3 => rw [g3]; rfl
    | 4 => rw [g4]; rfl
    | k + 5 => rw [List.getElem?_eq_none (by omega), List.getElem?_eq_none (by simp)]
  · rw [List.getElem?_map, hy3]; rfl
end
end Go.Proofs.Hc
