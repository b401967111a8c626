/- slices.Clone at []int, off the shelf. -/
import Derived.Test.YtcikopeddljgkaaGreatKHp
import Derived.Test.YtcikopeddljgkaaGreatKHq2
set_option linter.unusedSimpArgs false
set_option linter.unusedVariables false
set_option maxRecDepth 100000
namespace Go.Proofs
open Go.Shelf
def Tryz.laysClone_ren : Go.Shelf.Ren := ⟨fun | 15 => 303 | n => n, fun | 22 => 154 | 3 => 3 | 4 => 4 | n => n, fun n => n⟩
theorem Tryz.laysClone : Lays2.n15 Tryz.prog Tryz.laysClone_ren := {
  mixed := by kernel_rfl
  f15 := Tryz.func303.trans (congrArg some (by kernel_rfl))
  t3 := Tryz.underlying3
  a3 := Tryz.isAgg3
  z3 := Tryz.sizeOf3
  v3 := Tryz.zeroValue3
  t4 := Tryz.underlying4
  a4 := Tryz.isAgg4
  z4 := Tryz.sizeOf4
  v4 := Tryz.zeroValue4
  t22 := Tryz.underlying154
  a22 := Tryz.isAgg154
  z22 := Tryz.sizeOf154
  v22 := Tryz.zeroValue154
  i3 := by kernel_rfl }
end Go.Proofs
namespace Go.Proofs.Hc
open Go.RowKit
theorem clone_int (b off n c : Nat) (zs : List Int) (w : World) (hz : n ≤ zs.length) (hbig : n * 8 ≤ 140737488355328) (hc : ∀ j, j < zs.length → w.cell? ⟨b, off + j, none⟩ = some (.int .i64 (zs.getD j 0))) :
    Calls Tryz.prog 303 #[.slice (some ⟨b, off, none⟩) n c] w fun e w' => ∃ v', e = .returned v' ∧ w'.ownsRow w.heap.size 3 1 v' n ((zs.take n).map (Value.int .i64)) ∧ v' ≠ .slice none 0 0 ∧ Below w.heap.size w w' :=
  Any.slices_Clone_int Tryz.laysClone b off n c zs w hz hbig hc
end Go.Proofs.Hc
namespace Go.Proofs.Hc
open Go.RowKit
attribute [local go_sem] zbr zcd zat zaz zbn zax zbm zbo zbw signed64 signed8 zar BitVec.ofInt_add BitVec.ofInt_mul ofInt_sub' zav zaw wide8 eqN neN zcc shr1 shr7 shr56
attribute [local go_sem high] zay zbv
attribute [local go_sem] nn2 nm2 nn3 nm3 nn4 nm4 nn5 nm5 nn6 nm6 nn7 nm7 nn8 nm8
attribute [local go_sem] Oper.semAt_some zak
attribute [local go_sem] zau zbx zai zal zac zaj
attribute [local go_sem ↓] zab zba zbb zaa
def zero64 : Array Value := Array.replicate 64 (I 0)
def rowCells (pre : List (Nat × Nat)) : Array Value := pre.foldl (fun a p => a.setIfInBounds p.1 (I p.2)) zero64
theorem zero64_size : zero64.size = 64 := by simp [zero64]
theorem rowCells_snoc (pre : List (Nat × Nat)) (x : Nat × Nat) : rowCells (pre ++ [x]) = (rowCells pre).setIfInBounds x.1 (I x.2) := by simp [rowCells]
theorem foldCells_size (pre : List (Nat × Nat)) : ∀ a : Array Value, (pre.foldl (fun a p => a.setIfInBounds p.1 (I p.2)) a).size = a.size := by
  induction pre with
  | nil => intro a; rfl
  | cons x l ih => intro a; simp [List.foldl_cons, ih]
theorem rowCells_size (pre : List (Nat × Nat)) : (rowCells pre).size = 64 := by unfold rowCells; rw [foldCells_size, zero64_size]
theorem allOne_set (a : Array Value) (h : allOne a = true) (j : Nat) (n : Int) : allOne (a.setIfInBounds j (I n)) = true := by
  unfold allOne at *
  rw [Array.all_eq_true_iff_forall_mem] at *
  intro v hv
  rcases Array.mem_or_eq_of_mem_setIfInBounds hv with h1 | h1
  · exact h v h1
  · rw [h1]; rfl
theorem rowCells_one (pre : List (Nat × Nat)) : allOne (rowCells pre) = true := by
  suffices ∀ (pre : List (Nat × Nat)) (a : Array Value), allOne a = true → allOne (pre.foldl (fun a p => a.setIfInBounds p.1 (I p.2)) a) = true from this pre _ (by decide +kernel)
  intro pre
  induction pre with
  | nil => intro a h; exact h
  | cons x l ih => intro a h; exact ih _ (allOne_set a h _ _)
theorem rowCells_all (pre : List (Nat × Nat)) : (rowCells pre).extract 0 64 = rowCells pre := by
  have := Array.extract_size (xs := rowCells pre); rwa [rowCells_size] at this
theorem lrowR (a : Addr) : loadVar 338 a = loadRow 338 a := rfl
theorem srowR (a : Addr) (v : Value) : storeVar 338 a v = storeRow 338 a v := rfl
theorem zeroR_run (w : World) : (zeroValue 338).run Tryz.prog w = .ok (.agg (rowCells [])) w := by kernel_rfl
theorem loadR (g o : Nat) (w : World) : (loadRow 338 ⟨g, o, none⟩).run Tryz.prog w = rowRes Tryz.prog 338 g o w ((w.heap[g]?).bind (rowAt o 64)) :=
  run_row Tryz.underlying338 rfl (by kernel_rfl) g o w
theorem storeR (g o : Nat) (vs : Array Value) (w : World) : (storeRow 338 ⟨g, o, none⟩ (.agg vs)).run Tryz.prog w = layRes Tryz.prog 338 g o vs w (((w.heap[g]?).map (canLay o 64 vs)).getD false) :=
  run_lay (by kernel_rfl) g o vs w
attribute [local go_sem] zbd zan zah zbk zbc zbe loadR storeR rowCells_size rowCells_one rowCells_all
attribute [local go_sem ↓] lrowR srowR zeroR_run zae
theorem of_any (h : BitVec 64) (w : World) :
    Calls Tryz.prog 302 #[I 2, U h] w fun e w' => e = .returned (.agg (rowCells (pairs2 (g0 h)))) ∧ Ch [] w w' := by
  have hg := g0_lt h
  have Y1 := fun b c w hb hc => all_yields h b c w hb hc
  have A1 := fun w => all_any2 h w
  generalize g0 h = g at *
  refine (callsIn_wide (n := 3)).1 ?_
  refine callsIn_of_wp_marks Tryz.func302 rfl trivial ?_
  simp only [Tryz.ntmps302, List.size_toArray, List.length_cons, List.length_nil, Nat.reduceAdd, Nat.reduceSub, Array.replicate_succ, Array.replicate_zero, List.push_toArray, List.append_toArray, List.nil_append, List.cons_append]
  gi_wp2_with (refine ⟨trivial, ?_⟩; gi_at_call 316; refine (callsIn_wide.2 (A1 _)).mono ?_; rintro e w' ⟨rfl, rfl⟩)
  obtain ⟨W0, hW0⟩ : ∃ W0, (((w.alloc (.cells (rowCells []) 338)).alloc (.cells (rowCells []) 338)).alloc (.cells #[I 2] 3)).alloc (.cells #[U h] 22) = W0 := ⟨_, rfl⟩
  have hs0 : W0.heap.size = w.heap.size + 4 := by rw [← hW0]; simp
  have hC0 : Ch [] w W0 := by rw [← hW0]; exact ((((Ch.refl [] w).alloc _).alloc _).alloc _).alloc _
  have b0 : W0.heap[w.heap.size]? = some (.cells (rowCells []) 338 (0, 0)) := by rw [← hW0]; simp [go_sem] <;> omega
  have b1 : W0.heap[w.heap.size + 1]? = some (.cells (rowCells []) 338 (0, 0)) := by rw [← hW0]; simp [go_sem] <;> omega
  have b2 : W0.heap[w.heap.size + 1 + 1]? = some (.cells #[I 2] 3 (0, 0)) := by rw [← hW0]; simp [go_sem] <;> omega
  have b3 : W0.heap[w.heap.size + 1 + 1 + 1]? = some (.cells #[U h] 22 (0, 0)) := by rw [← hW0]; simp [go_sem] <;> omega
  rw [hW0]
  clear hW0
  gi_wp2
  refine range_law (n := 1) (xs := pairs2 g) rfl enters_all (Y1 _ _ W0 b2 b3) (fun _ => rfl) (by simp) (by simp <;> omega)
    (fun pre W => Ch [] w W ∧ W.heap[w.heap.size]? = some (.cells (rowCells []) 338 (0, 0)) ∧ W.heap[w.heap.size + 1]? = some (.cells (rowCells pre) 338 (0, 0)))
    (fun _ _ => False)
    ?hI (fun _ _ _ h _ => h.elim) ⟨hC0, b0, b1⟩ ?a₁ ?assign ?body ?done (fun _ _ h _ => h.elim)
  case hI =>
    rintro pre A B ⟨hc, h1, h2⟩ hAB
    exact ⟨hc.trans2 hAB (by simp <;> omega), (hAB.block _ (Array.getElem?_eq_some_iff.1 h1).1 (by simp <;> omega)).trans h1, (hAB.block _ (Array.getElem?_eq_some_iff.1 h2).1 (by simp <;> omega)).trans h2⟩
  case a₁ => exact fun x => { tmps := #[I 2, U h, undef, undef, .pointer (some ⟨w.heap.size, 0, none⟩), .pointer (some ⟨w.heap.size + 1, 0, none⟩), I x.1, I x.2, I 2, U h, .func (.func 320) #[] #[.pointer (some ⟨w.heap.size + 1 + 1, 0, none⟩), .pointer (some ⟨w.heap.size + 1 + 1 + 1, 0, none⟩)], I x.1, I x.2, undef, undef, undef, undef], defers := [] }
  case assign =>
    intro x W K hK
    gi_wp2
    exact hK
  case body =>
    rintro pre x post W hx ⟨hc, h1, h2⟩ hsz
    have hx1 : x.1 < 64 := by
      have : x ∈ pairs2 g := by rw [hx]; simp
      unfold pairs2 at this
      simp only [List.mem_cons, List.not_mem_nil, or_false] at this
      rcases this with rfl | rfl <;> simp
    clear hx
    gi_wp2
    refine ⟨⟨hc.setCell (p := ⟨w.heap.size + 1, x.1, none⟩) (.inr (by simp)) _, ?_, ?_⟩, by simp [World.setCell], ?_⟩
    · simp only [zaa, h1]; simp
    · simp only [zaa, h2, if_true, Option.map_some, zac, rowCells_snoc]
    · intro b hb
      simp only [zaa]
      have hb' : b ≠ w.heap.size + 1 := by rcases hb with rfl | rfl | hb <;> simp at * <;> omega
      rw [if_neg hb']
  case done =>
    rintro W ⟨hc, h1, h2⟩ hd
    gi_wp2
    have hl := (Array.getElem?_eq_some_iff.1 h1).1
    have hc1 : Ch [] w (World.onObj W w.heap.size (laidAt 0 (rowCells (pairs2 g)))) := hc.onObj (.inr (Nat.le_refl _)) _
    refine marks_ret (v := .agg (rowCells (pairs2 g))) ?_ (results_cell_row Tryz.results302 _ _ w.heap.size 338 (rowCells (pairs2 g)) (0, 0) _ rfl ?_ Tryz.underlying338 rfl (by rw [rowCells_size]; kernel_rfl)) ⟨rfl, hc1.trans2 (zby _ _ _) (by simp <;> omega)⟩
    · rw [zae, if_neg (by omega)]; exact hd
    · rw [heap_putObj, if_neg (by omega), zae, if_pos rfl, h1]
      simp only [Option.map_some, zah]
      rw [laid_whole _ _ (by rw [rowCells_size, rowCells_size])]
theorem row_any (h : BitVec 64) (w : World) :
    Calls Tryz.prog 259 #[I 2, U h] w fun e w' => ∃ v, e = .returned (.tuple #[v, I 0]) ∧ w'.ownsRow w.heap.size 3 1 v 2 [I (g0 h), I (1 - g0 h : Nat)] ∧ Ch [] w w' := by
  have hg := g0_lt h
  have A1 := fun w => of_any h w
  have hr : (rowCells (pairs2 (g0 h))).extract 0 2 = #[I (g0 h), I (1 - g0 h : Nat)] := by
    unfold g0; split <;> kernel_rfl
  have hr1 := rowCells_size (pairs2 (g0 h))
  have hr2 := rowCells_one (pairs2 (g0 h))
  generalize g0 h = g at *
  generalize rowCells (pairs2 g) = r at *
  go_enter Tryz.func259, Tryz.ntmps259
  go_wp2_with (first
    | (go_at_call 301; refine (pcheck2 _).mono ?_; rintro e w' ⟨rfl, rfl⟩)
    | (go_at_call 302; refine (A1 _).mono ?_; rintro e w1 ⟨rfl, hc1⟩))
  have hlay : (World.onObj (w1.alloc (.cells (rowCells []) 338)) w1.heap.size (laidAt 0 r)).heap[w1.heap.size]? = some (.cells r 338 (0, 0)) := by
    rw [zae, if_pos rfl, zab, if_pos rfl]
    simp only [Option.map_some, zah]
    rw [laid_whole _ _ (by rw [rowCells_size, hr1])]
  have hC2 : Ch [] w (World.onObj (w1.alloc (.cells (rowCells []) 338)) w1.heap.size (laidAt 0 r)) := (hc1.alloc _).onObj (.inr hc1.size) _
  obtain ⟨w2, hw2⟩ : ∃ w2, World.onObj (w1.alloc (.cells (rowCells []) 338)) w1.heap.size (laidAt 0 r) = w2 := ⟨_, rfl⟩
  rw [hw2] at hlay hC2 ⊢
  clear hw2 hr1 hr2
  refine (clone_int w1.heap.size 0 2 64 [(g : Int), (1 - g : Nat)] w2 (by simp) (by omega) ?_).mono ?_
  · intro j hj
    have e : r[j]? = some (.int .i64 ([(g : Int), ((1 - g : Nat) : Int)].getD j 0)) := by
      have h2 : (r.extract 0 2)[j]? = some (.int .i64 ([(g : Int), ((1 - g : Nat) : Int)].getD j 0)) := by
        rw [hr]
        match j, hj with
        | 0, _ => rfl
        | 1, _ => rfl
      rw [Array.getElem?_extract] at h2
      split at h2
      · simpa using h2
      · cases h2
    rw [zau, hlay, Nat.zero_add]
    exact e
  rintro e w3 ⟨v, rfl, hown, hnn, hbel⟩
  clear A1
  go_wp2
  go_ret2
  exact ⟨v, rfl, own_mono hown hC2.size, hC2.trans (Ch.of_below hbel)⟩
end Go.Proofs.Hc
namespace Go.Proofs.Hc
open Go.RowKit
def MetAt (w : World) (bm n : Nat) (f : BitVec 64 → Int) : Prop :=
  ∃ D : DataW Unit, w.ownsMap Tryz.prog 22 (plainElem Tryz.prog 3) bm n D ∧ ∀ k : BitVec 64, D.atKey (.int .u64 (N k)) (.lit (.int .i64 0)) = .lit (.int .i64 (f k))
theorem keyLaw : Go.Maps.Keyed Tryz.prog 22 := Go.Maps.int_keyed Tryz.underlying22
theorem wf_u64 (k : BitVec 64) : (Lit.int .u64 (N k)).wf = true := by
  have h := k.isLt
  have h2 : (IntKind.u64.max : Int) = 18446744073709551615 := by decide
  have h3 : (IntKind.u64.min : Int) = 0 := by decide
  simp [Lit.wf, N, h2, h3]; omega
theorem zeroInt (w : World) : (zeroValue 3).run Tryz.prog w = .ok (.int .i64 0) w := by kernel_rfl
theorem met_made (w : World) : MetAt (w.alloc (.map #[] 0)) w.heap.size 0 fun _ => 0 :=
  ⟨.map [], World.ownsMap_made _ _ _ _, fun _ => rfl⟩
theorem met_look {w : World} {bm n : Nat} {f : BitVec 64 → Int} (h : MetAt w bm n f) (k : BitVec 64) :
    (Instr.lookup 252 (.map (some bm)) (U k) false).run Tryz.prog w = .ok (I (f k)) w := by
  obtain ⟨D, ho, hf⟩ := h
  obtain ⟨c, hr, hc, _⟩ := ho.lookup_int keyLaw Tryz.underlying252 Tryz.underlying3 (zeroInt _) (Go.Maps.keyOf_int_mk Tryz.underlying22 (wf_u64 k))
  rw [hf k] at hc
  have : f k = c := by simpa using hc
  rw [this]; exact hr
theorem met_put {w : World} {bm n : Nat} {f : BitVec 64 → Int} (h : MetAt w bm n f) (hn : n < 1000) (k : BitVec 64) (x : Int) (hx : (Lit.int .i64 x).wf = true) :
    ∃ w', (Instr.mapUpdate 252 (.map (some bm)) (U k) (I x)).run Tryz.prog w = .ok () w' ∧ MetAt w' bm (n + 1) (fun j => if j = k then x else f j) ∧ Ch [bm] w w' ∧ w'.heap.size = w.heap.size := by
  obtain ⟨D, ho, hf⟩ := h
  have hm : Go.Maps.IsMap D := ⟨_, ho.choose_spec.choose_spec.2.2.2⟩
  obtain ⟨es, clock, hb, F, hs, hD⟩ := ho
  obtain ⟨es', clock', hrun, F', hput, _⟩ := Go.Maps.fit_store (R' := plainElem Tryz.prog 3) keyLaw Tryz.underlying252 hb F (Nat.lt_of_le_of_lt hs (by unfold maxLen; omega)) (fun _ _ _ _ hz => hz) (Go.Maps.keyOf_int_mk Tryz.underlying22 (wf_u64 k)) (plainElem_int (H := Unit) Tryz.underlying3 hx)
  obtain ⟨w', hr, ho', hg⟩ := World.ownsMap.update ⟨es, clock, hb, F, hs, hD⟩ keyLaw Tryz.underlying252 (by unfold maxLen; omega) (Go.Maps.keyOf_int_mk Tryz.underlying22 (wf_u64 k)) (plainElem_int (H := Unit) Tryz.underlying3 hx)
  refine ⟨w', hr, ⟨_, ho', fun j => ?_⟩, Ch.of_grown hg (fun b hb => by simpa using hb.symm), ?_⟩
  · show _ = DataW.lit (Lit.int .i64 (if j = k then x else f j))
    by_cases hj : j = k
    · subst hj
      rw [if_pos rfl]
      exact Go.Maps.atKey_put_same hm (Go.Maps.Keyed.key keyLaw (Go.Maps.keyOf_int_mk Tryz.underlying22 (wf_u64 j))) _ _
    · have hne : Lit.int .u64 (N j) ≠ Lit.int .u64 (N k) := fun e => hj ((N_inj _ _).1 (by simpa using e))
      rw [if_neg hj, Go.Maps.atKey_put_other hne]
      exact hf j
  · have h1 := hrun.symm.trans hr
    have h2 : w' = _ := (Result.ok.inj h1).2.symm
    rw [h2]; simp [Go.ChangeMaps.setBlock]
theorem met_ch {w w' : World} {bm n : Nat} {f : BitVec 64 → Int} {S : List Nat} (h : MetAt w bm n f) (c : Ch S w w') (hS : bm ∉ S) : MetAt w' bm n f := by
  obtain ⟨D, ⟨es, clock, hb, r⟩, hf⟩ := h
  exact ⟨D, ⟨es, clock, (c.block bm (Array.getElem?_eq_some_iff.1 hb).1 hS).trans hb, r⟩, hf⟩
end Go.Proofs.Hc
namespace Go.Proofs.Hc
open Go.RowKit
def wcells (l : List (BitVec 64)) : Array Value := (l.map fun x => U x).toArray
def WordsAt (cur : Array Value) (l : List (BitVec 64)) : Prop := ∀ (j : Nat) (x : BitVec 64), l[j]? = some x → cur[j]? = some (U x)
theorem wcells_at (l : List (BitVec 64)) : WordsAt (wcells l) l := by
  intro j x h
  unfold wcells; simp [h]
theorem wcells_size (l : List (BitVec 64)) : (wcells l).size = l.length := by unfold wcells; simp
theorem wcells_list (l : List (BitVec 64)) : (wcells l).toList = l.map fun x => U x := by unfold wcells; simp
theorem wcells_set (l : List (BitVec 64)) (j : Nat) (x : BitVec 64) : (wcells l).setIfInBounds j (U x) = wcells (l.set j x) := by
  unfold wcells
  simp [List.setIfInBounds_toArray, List.map_set]
end Go.Proofs.Hc
namespace Go.Proofs.Hc
open Go.RowKit
theorem own_form {W : World} {base n size : Nat} {e : TypeId} {v : Value} {xs : List Value} (h : W.ownsRow base e size v n xs) : ∃ a c, v = .slice a n c := by
  obtain ⟨_, ⟨rfl, h0⟩ | ⟨g, cap, cur, hv, _⟩⟩ := h
  · exact ⟨none, 0, by rw [h0]⟩
  · exact ⟨_, _, hv⟩
end Go.Proofs.Hc
namespace Go.Proofs.Hc
open Go.RowKit
attribute [local go_sem] zbr zcd zat zaz zbn zax zbm zbo zbw signed64 signed8 zar BitVec.ofInt_add BitVec.ofInt_mul ofInt_sub' zav zaw wide8 eqN neN zcc shr1 shr7 shr56
attribute [local go_sem high] zay zbv
attribute [local go_sem] zau zbx zai zal zac zbd zan zah zbk zaj zbc zbe
attribute [local go_sem] load26 load73 load23 store26 build73
attribute [local go_sem ↓] lrow26 lrow73 lrow23 srow26 zero26 brow73 zab zba zbb zaa zae
attribute [local go_sem] zag zap zaf zbf zbi zbp zam zaq zbq zbh zbg
attribute [local go_sem] nn2 nm2 nn3 nm3 nn4 nm4 nn5 nm5 nn6 nm6 nn7 nm7 nn8 nm8
section
attribute [local go_sem] box26 zbz cell0 cell1 cell2 cell3 cell4
attribute [local go_sem] Oper.semAt_some zak
theorem run_append_fits_zeros2 {P : Program} (w : World) (t tn ty e : TypeId) (i : TypeInfo) (z : Value) (kq kn : IntKind) (ht : P.underlying t = some (.slice e)) (htn : P.underlying tn = some (.int kn)) (hi : P.info? e = some i) (hz : i.zero = some z)
    (hs1 : i.size = 1) (hzc : z.cells = #[z]) (hz1 : z.oneCell' = true) (q n cap k : Nat) (cur : Array Value) (T : TypeId) (hq : w.heap[q]? = some (.cells cur T (0, 0))) (hcur : cur.size = cap) (h0 : 0 < k) (hfit : n + k ≤ cap) (h63 : k * i.bytes ≤ 281474976710656) (hk : k ≤ 1000) :
    ∃ w', (Builtin.append_ #[t, tn] ty #[.slice (some ⟨q, 0, none⟩) n cap, .int kq k]).run P w = .ok (.slice (some ⟨q, 0, none⟩) (n + k) cap) w' ∧ w'.heap[q]? = some (.cells (List.take n cur.toList ++ List.replicate k z ++ List.drop (n + k) cur.toList).toArray T (0, 0)) ∧ Ch [q] w w' := by
  have hkn : k ≠ 0 := by omega
  have hw : IntKind.i64.wrap (k : Int) = k := by rw [IntKind.wrap_i64]; omega
  have hneg : ¬ ((k : Int) < 0) := by omega
  have h48i : ¬ (281474976710656 < (k : Int) * (i.bytes : Int)) := by
    rw [← Int.natCast_mul]
    omega
  have hst := run_storeCells_at (P := P) q n T (List.replicate k z) 0 cur w hq (by simp; omega) (fun v hv => by rw [(List.mem_replicate.1 hv).2]; exact hz1)
  have hadd : (⟨q, 0, none⟩ : Addr).add n = ⟨q, n, none⟩ := by unfold Addr.add; split <;> simp_all
  rw [Nat.add_zero, List.length_replicate] at hst
  have hh := setRow_heap w q cur (List.take n cur.toList ++ List.replicate k z ++ List.drop (n + k) cur.toList).toArray T (0, 0) hq
  refine ⟨w.setRow q (List.take n cur.toList ++ List.replicate k z ++ List.drop (n + k) cur.toList).toArray, ?_, hh, ?_⟩
  · generalize w.setRow q (List.take n cur.toList ++ List.replicate k z ++ List.drop (n + k) cur.toList).toArray = w' at *
    have hst' : (storeCells ⟨q, n, none⟩ (List.replicate k z)).run P w = .ok () w' := hst
    simp [Builtin.append_, run_underlying ht, run_underlying htn, sizeOf, typeInfo, zeroValue, hi, hz, hs1, asInt, asIntOf, hw, hkn, hneg, h48i, hfit, hzc, zeroCells_one, hadd, hst']
  · refine ⟨rfl, rfl, rfl, by simp [World.setRow], fun j hj hn => ?_⟩
    simp only [World.setRow, Array.getElem?_modify]
    rw [if_neg (fun e => hn (by simp [e]))]
theorem padded38_row2 (base : Nat) (v : Value) (xs : List Value) (w : World) (hbw : base ≤ w.heap.size) (hown : w.ownsRow base 22 1 v 38 xs) :
    Calls Tryz.prog 140 #[v] w fun e w' => ∃ R c cur, e = .returned (.slice (some ⟨R, 0, none⟩) 40 c) ∧ base ≤ R ∧ w'.heap[R]? = some (.cells cur 22 (0, 0)) ∧ (∀ (j : Nat) (u : Value), (xs ++ [U 0#64, U 0#64])[j]? = some u → cur[j]? = some u) ∧ 40 ≤ c ∧ Ch v.ownBlock.toList w w' := by
  obtain ⟨hlen, h⟩ := hown
  rcases h with ⟨_, h⟩ | ⟨q, cap, cur, rfl, hq, hb, h38, hcm, hsz, hx⟩
  · cases h
  obtain ⟨i0, hi, hz0, hz1, hz2⟩ := info_parts infoU
  have hsz' : cur.size = cap := by omega
  have hx' : List.take 38 cur.toList = xs := hx
  rcases Nat.lt_or_ge cap 40 with hlt | hge
  · go_enter Tryz.func140, Tryz.ntmps140
    go_wp2_with (at_builtin; refine Lib.wpList_append_run _ rfl _ _ 44 3 rfl _ _ rfl rfl _ _ (Lib.run_append_grow_zeros _ 44 3 _ 22 i0 (U 0#64) .i64 .i64 Tryz.underlying44 Tryz.underlying3 hi hz0 (some ⟨q, 0, none⟩) 38 cap (cur.toList.take 38) ?hold 2 (by omega) (by omega) (by omega) (by omega) (by omega) ?hfit) ?_)
    case hold =>
      have := run_firstCells_some (P := Tryz.prog) w.drew i0.size 38 ⟨q, 0, none⟩ 38 cap (cur.toList.take 38) (by simp; omega) (fun j u hj => by
        rw [Addr.add_lit, zau, zba, hb, Option.bind_some, zai, Nat.zero_add]
        rw [List.getElem?_take] at hj
        split at hj
        · simpa using hj
        · cases hj)
      exact this
    case hfit =>
      have : cap = 38 ∨ cap = 39 := by omega
      rw [hz2]
      rcases this with rfl | rfl <;> decide
    go_ret
    refine ⟨_, _, _, rfl, hbw, by rw [zba, zab, if_pos rfl], fun j u hj => ?_, ?hcap, (((Ch.refl [] w).drew).alloc _).of_nil⟩
    case hcap => exact grownCap_ge _ _ _ _
    rw [Array.getElem?_append]
    have hl : xs.length = 38 := hlen
    by_cases hj38 : j < 38
    · rw [List.getElem?_append_left (by omega)] at hj
      rw [if_pos (by simp; omega)]
      simpa using hj
    · rw [List.getElem?_append_right (by omega), hl] at hj
      rw [if_neg (by simp; omega)]
      have h2 : j - 38 < 2 := by have := (List.getElem?_eq_some_iff.1 hj).1; simpa using this
      rw [Array.getElem?_append, if_pos (by show j - xs.toArray.size < (Builtin.zeroCells #[U 0#64] 2).size; rw [zeroCells_one]; simp; omega)]
      show (Builtin.zeroCells #[U 0#64] 2)[j - xs.toArray.size]? = some u
      rw [zeroCells_one]
      rcases (show j = 38 ∨ j = 39 by omega) with rfl | rfl
      · simpa [hl] using hj
      · simpa [hl] using hj
  · obtain ⟨w2, hr2, hw2, hc2⟩ := run_append_fits_zeros2 (P := Tryz.prog) w 44 3 44 22 i0 (U 0#64) .i64 .i64 Tryz.underlying44 Tryz.underlying3 hi hz0 hz1 rfl rfl q 38 cap 2 cur 22 hb hsz' (by omega) (by omega) (by omega) (by omega)
    have HW2 := Lib.hid hw2
    clear hw2
    go_enter Tryz.func140, Tryz.ntmps140
    go_wp2_with (at_builtin; refine Lib.wpList_append_run _ rfl _ _ 44 3 rfl _ _ rfl rfl _ _ hr2 ?_)
    go_ret
    refine ⟨_, _, _, rfl, hq, HW2.out, fun j u hj => ?_, hge, hc2⟩
    rw [hx', List.getElem?_toArray, List.getElem?_append_left (by
      have h1 := (List.getElem?_eq_some_iff.1 hj).1
      have hl : xs.length = 38 := hlen
      simp at h1 ⊢; omega)]
    exact hj
theorem twords_cells (t : Tab) : ((#[U t.count, U (wd1 t), U (BitVec.ofInt 64 t.can), U (BitVec.ofInt 64 t.live)] : Array Value).extract 0 (0 + 4)).toList ++ ((tcells t).extract 5 (5 + 2)).toList ++ ((tcells t).extract 7 (7 + 16)).toList ++ ((tcells t).extract 23 (23 + 16)).toList ++ [U 0#64, U 0#64] = (twords t).map fun x => U x := by kernel_rfl
theorem words_row2 (t : Tab) (hf : flatT t = true) (w : World) : Calls Tryz.prog 74 #[.agg (tcells t)] w fun e w' => ∃ R c cur, e = .returned (.tuple #[.slice (some ⟨R, 0, none⟩) 40 c, I 0]) ∧ w.heap.size ≤ R ∧ WordsAt cur (twords t) ∧ 40 ≤ c ∧ w'.heap[R]? = some (.cells cur 22 (0, 0)) ∧ Ch [] w w' := by
  have F1 := fun w => flat_any t w
  rw [hf] at F1
  clear hf
  have HT := Lib.hid (twords_cells t)
  go_enter Tryz.func74, Tryz.ntmps74
  go_wp2_with (go_at_call 109; refine (F1 _).mono ?_; rintro e w1 ⟨rfl, hc1⟩; have hb1 : w1.heap[w.heap.size]? = some (.cells (tcells t) 26 (0, 0)) := (hc1.block _ (by simp) (by simp)).trans (by simp [go_sem]))
  obtain ⟨x0, hx0⟩ : ∃ x, N (BitVec.ofInt 64 t.depth ||| t.pre * 256#64) = x := ⟨_, rfl⟩
  obtain ⟨x1, hx1⟩ : ∃ x, N (BitVec.ofInt 64 t.can) = x := ⟨_, rfl⟩
  obtain ⟨x2, hx2⟩ : ∃ x, N (BitVec.ofInt 64 t.live) = x := ⟨_, rfl⟩
  rw [hx0, hx1, hx2]
  have HT : Hid (((#[U t.count, .int .u64 x0, .int .u64 x1, .int .u64 x2] : Array Value).extract 0 (0 + 4)).toList ++ ((tcells t).extract 5 (5 + 2)).toList ++ ((tcells t).extract 7 (7 + 16)).toList ++ ((tcells t).extract 23 (23 + 16)).toList ++ [U 0#64, U 0#64] = (twords t).map fun x => U x) := by
    rw [← hx0, ← hx1, ← hx2]
    exact HT
  clear hx0 hx1 hx2
  obtain ⟨W0, hW0⟩ : ∃ W0, w1.alloc (.cells #[U t.count, .int .u64 x0, .int .u64 x1, .int .u64 x2] 22) = W0 := ⟨_, rfl⟩
  have hsz := hc1.size
  simp only [World.size_alloc] at hsz
  have hC0 : Ch [] w W0 := by rw [← hW0]; exact (((Ch.refl [] w).alloc _).trans hc1).alloc _
  have b0 : W0.heap[w.heap.size]? = some (.cells (tcells t) 26 (0, 0)) := by rw [← hW0, zab, if_neg (by omega)]; exact hb1
  have b1 : W0.heap[w1.heap.size]? = some (.cells #[U t.count, .int .u64 x0, .int .u64 x1, .int .u64 x2] 22 (0, 0)) := by rw [← hW0]; simp [go_sem]
  have hn : w.heap.size < W0.heap.size ∧ w1.heap.size < W0.heap.size := by rw [← hW0]; simp; omega
  rw [hW0]
  clear hW0 hb1 hc1
  refine zdj 7 (by kernel_rfl) (by kernel_rfl) ?_
  simp only [List.take_succ_cons, List.take_zero, List.drop_succ_cons, List.drop_zero]
  repeat (go_big_quiet_step (fail))
  refine wpQuiet_nil ?_
  rintro w2 ⟨g1, hw1⟩
  have hc1 : Ch [] W0 w2 := by rw [hw1]; exact g1.2
  clear hw1 g1
  have hz2 := hc1.size
  have d0 := (hc1.block _ hn.1 (by simp)).trans b0
  have d1 := (hc1.block _ hn.2 (by simp)).trans b1
  clear b0 b1
  go_wp2_with fail
  refine (concat4 w2.heap.size 4 2 16 16 w1.heap.size w.heap.size w.heap.size w.heap.size 0 5 7 23 ((#[U t.count, .int .u64 x0, .int .u64 x1, .int .u64 x2] : Array Value).extract 0 (0 + 4)).toList ((tcells t).extract 5 (5 + 2)).toList ((tcells t).extract 7 (7 + 16)).toList ((tcells t).extract 23 (23 + 16)).toList _ (by rw [zab, if_pos rfl])
         (part_len _ _ _ (by simp)) (part_len _ _ _ (by rw [zag]; omega)) (part_len _ _ _ (by rw [zag]; omega)) (part_len _ _ _ (by rw [zag]; omega))
         ((rowAt_part d1 (by simp [allOne, Value.oneCell'])).ch ((Ch.refl [] w2).alloc _)) ((rowAt_part d0 (zbi t)).ch ((Ch.refl [] w2).alloc _)) ((rowAt_part d0 (zbi t)).ch ((Ch.refl [] w2).alloc _)) ((rowAt_part d0 (zbi t)).ch ((Ch.refl [] w2).alloc _))).mono ?_
  rintro e w3 ⟨v, rfl, hown, hc3⟩
  have hob := own_block hown
  obtain ⟨xs, hxs⟩ : ∃ xs, ((#[U t.count, .int .u64 x0, .int .u64 x1, .int .u64 x2] : Array Value).extract 0 (0 + 4)).toList ++ ((tcells t).extract 5 (5 + 2)).toList ++ ((tcells t).extract 7 (7 + 16)).toList ++ ((tcells t).extract 23 (23 + 16)).toList = xs := ⟨_, rfl⟩
  rw [hxs] at hown
  have HT2 : xs ++ [U 0#64, U 0#64] = (twords t).map fun x => U x := by rw [← hxs]; exact HT.out
  have P1 := padded38_row2 _ v _ w3 hc3.size hown
  have HT3 := Lib.hid HT2
  clear hown HT HT2
  go_wp2_with (go_at_call 140; refine P1.mono ?_; rintro e w4 ⟨R, c, cur, rfl, hR, hW, hel, hcap, hc4⟩; have HP := Lib.hid hcap; clear hcap; have HE := Lib.hid hel; clear hel)
  go_ret2
  have hC3 : Ch [] w w3 := ((hC0.trans hc1).alloc _).trans hc3
  simp only [World.size_alloc] at hob hR
  refine ⟨R, c, cur, rfl, by omega, fun j x hj => HE.out j _ (by rw [HT3.out, List.getElem?_map, hj]; rfl), HP.out, hW, ?_⟩
  exact hC3.trans2 hc4 (fun s hs => .inr (by have := hob s (by simpa using hs); omega))
end
end Go.Proofs.Hc
