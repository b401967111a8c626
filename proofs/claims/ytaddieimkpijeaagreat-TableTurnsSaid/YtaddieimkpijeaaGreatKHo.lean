/- Package probe: Row of two groups. -/
import Derived.Test.YtaddieimkpijeaaGreatKHp
import Derived.Test.YtaddieimkpijeaaGreatKHc1
set_option linter.unusedSimpArgs false
set_option linter.unusedVariables false
namespace Go.Proofs.Hc
open Go.RowKit
attribute [local go_sem] wrap_u64 wrap_u8 bits_xor64 bits_and64 bits_or64 bits_not64 bits_xor8 bits_and8 bits_or8 signed64 signed8 ofInt_N BitVec.ofInt_add BitVec.ofInt_mul ofInt_sub' ofInt8_N64 ofInt64_N8 wide8 eqN neN shr_pow shr1 shr7 shr56
attribute [local go_sem high] bits_com64 shl_wrap
attribute [local go_sem] nn2 nm2 nn3 nm3 nn4 nm4 nn5 nm5 nn6 nm6 nn7 nm7 nn8 nm8
attribute [local go_sem] Oper.semAt_some make_func1
attribute [local go_sem] cell_heap ice_heap cellAt_cells iceAt_cells setAt_cells size_setCell
attribute [local go_sem ↓] heap_alloc heap_drew heap_drewN heap_setCell

/-- A row as an array of 64 cells, of which some are laid. -/
def zero64 : Array Value := Array.replicate 64 (I 0)
def rowCells (pre : List (Nat × Nat)) : Array Value := pre.foldl (fun a p => a.setIfInBounds p.1 (I p.2)) zero64
theorem zero64_size : zero64.size = 64 := by simp [zero64]
theorem rowCells_snoc (pre : List (Nat × Nat)) (x : Nat × Nat) : rowCells (pre ++ [x]) = (rowCells pre).setIfInBounds x.1 (I x.2) := by simp [rowCells]
theorem foldCells_size (pre : List (Nat × Nat)) : ∀ a : Array Value, (pre.foldl (fun a p => a.setIfInBounds p.1 (I p.2)) a).size = a.size := by
  induction pre with
  | nil => intro a; rfl
  | cons x l ih => intro a; simp [List.foldl_cons, ih]
theorem rowCells_size (pre : List (Nat × Nat)) : (rowCells pre).size = 64 := by unfold rowCells; rw [foldCells_size, zero64_size]
theorem allOne_set (a : Array Value) (h : allOne a = true) (j : Nat) (n : Int) : allOne (a.setIfInBounds j (I n)) = true := by
  unfold allOne at *
  rw [Array.all_eq_true_iff_forall_mem] at *
  intro v hv
  rcases Array.mem_or_eq_of_mem_setIfInBounds hv with h1 | h1
  · exact h v h1
  · rw [h1]; rfl
theorem rowCells_one (pre : List (Nat × Nat)) : allOne (rowCells pre) = true := by
  suffices ∀ (pre : List (Nat × Nat)) (a : Array Value), allOne a = true → allOne (pre.foldl (fun a p => a.setIfInBounds p.1 (I p.2)) a) = true from this pre _ (by decide +kernel)
  intro pre
  induction pre with
  | nil => intro a h; exact h
  | cons x l ih => intro a h; exact ih _ (allOne_set a h _ _)
theorem rowCells_all (pre : List (Nat × Nat)) : (rowCells pre).extract 0 64 = rowCells pre := by
  have := Array.extract_size (xs := rowCells pre); rwa [rowCells_size] at this
theorem lrowR (a : Addr) : loadVar 180 a = loadRow 180 a := rfl
theorem srowR (a : Addr) (v : Value) : storeVar 180 a v = storeRow 180 a v := rfl
theorem zeroR_run (w : World) : (zeroValue 180).run Tryz.prog w = .ok (.agg (rowCells [])) w := by kernel_rfl
theorem loadR (g o : Nat) (w : World) : (loadRow 180 ⟨g, o, none⟩).run Tryz.prog w = rowRes Tryz.prog 180 g o w ((w.heap[g]?).bind (rowAt o 64)) :=
  run_row Tryz.underlying180 rfl (by kernel_rfl) g o w
theorem storeR (g o : Nat) (vs : Array Value) (w : World) : (storeRow 180 ⟨g, o, none⟩ (.agg vs)).run Tryz.prog w = layRes Tryz.prog 180 g o vs w (((w.heap[g]?).map (canLay o 64 vs)).getD false) :=
  run_lay (by kernel_rfl) g o vs w
attribute [local go_sem] rowAt_cells canLay_cells laidAt_cells size_onObj rowRes_some layRes_true loadR storeR rowCells_size rowCells_one rowCells_all
attribute [local go_sem ↓] lrowR srowR zeroR_run heap_onObj
set_option maxRecDepth 100000 in
theorem of_any (h : BitVec 64) (w : World) :
    Calls Tryz.prog 150 #[I 2, U h] w fun e w' => e = .returned (.agg (rowCells (pairs2 (g0 h)))) ∧ Ch [] w w' := by
  have hg := g0_lt h
  have Y1 := fun b c w hb hc => all_yields h b c w hb hc
  have A1 := fun w => all_any2 h w
  generalize g0 h = g at *
  refine (callsIn_wide (n := 3)).1 ?_
  refine callsIn_of_wp_marks Tryz.func150 rfl trivial ?_
  simp only [Tryz.ntmps150, List.size_toArray, List.length_cons, List.length_nil, Nat.reduceAdd, Nat.reduceSub, Array.replicate_succ, Array.replicate_zero, List.push_toArray, List.append_toArray, List.nil_append, List.cons_append]
  gi_wp2_with (refine ⟨trivial, ?_⟩; gi_at_call 161; refine (callsIn_wide.2 (A1 _)).mono ?_; rintro e w' ⟨rfl, rfl⟩)
  obtain ⟨W0, hW0⟩ : ∃ W0, (((w.alloc (.cells (rowCells []) 180)).alloc (.cells (rowCells []) 180)).alloc (.cells #[I 2] 3)).alloc (.cells #[U h] 22) = W0 := ⟨_, rfl⟩
  have hs0 : W0.heap.size = w.heap.size + 4 := by rw [← hW0]; simp
  have hC0 : Ch [] w W0 := by rw [← hW0]; exact ((((Ch.refl [] w).alloc _).alloc _).alloc _).alloc _
  have b0 : W0.heap[w.heap.size]? = some (.cells (rowCells []) 180 (0, 0)) := by rw [← hW0]; simp [go_sem] <;> omega
  have b1 : W0.heap[w.heap.size + 1]? = some (.cells (rowCells []) 180 (0, 0)) := by rw [← hW0]; simp [go_sem] <;> omega
  have b2 : W0.heap[w.heap.size + 1 + 1]? = some (.cells #[I 2] 3 (0, 0)) := by rw [← hW0]; simp [go_sem] <;> omega
  have b3 : W0.heap[w.heap.size + 1 + 1 + 1]? = some (.cells #[U h] 22 (0, 0)) := by rw [← hW0]; simp [go_sem] <;> omega
  rw [hW0]
  clear hW0
  gi_wp2
  refine range_law (n := 1) (xs := pairs2 g) rfl enters_all (Y1 _ _ W0 b2 b3) (fun _ => rfl) (by simp) (by simp <;> omega)
    (fun pre W => Ch [] w W ∧ W.heap[w.heap.size]? = some (.cells (rowCells []) 180 (0, 0)) ∧ W.heap[w.heap.size + 1]? = some (.cells (rowCells pre) 180 (0, 0)))
    (fun _ _ => False)
    ?hI (fun _ _ _ h _ => h.elim) ⟨hC0, b0, b1⟩ ?a₁ ?assign ?body ?done (fun _ _ h _ => h.elim)
  case hI =>
    rintro pre A B ⟨hc, h1, h2⟩ hAB
    exact ⟨hc.trans2 hAB (by simp <;> omega), (hAB.block _ (Array.getElem?_eq_some_iff.1 h1).1 (by simp <;> omega)).trans h1, (hAB.block _ (Array.getElem?_eq_some_iff.1 h2).1 (by simp <;> omega)).trans h2⟩
  case a₁ => exact fun x => { tmps := #[I 2, U h, undef, undef, .pointer (some ⟨w.heap.size, 0, none⟩), .pointer (some ⟨w.heap.size + 1, 0, none⟩), I x.1, I x.2, I 2, U h, .func (.func 165) #[] #[.pointer (some ⟨w.heap.size + 1 + 1, 0, none⟩), .pointer (some ⟨w.heap.size + 1 + 1 + 1, 0, none⟩)], I x.1, I x.2, undef, undef, undef, undef], defers := [] }
  case assign =>
    intro x W K hK
    gi_wp2
    exact hK
  case body =>
    rintro pre x post W hx ⟨hc, h1, h2⟩ hsz
    have hx1 : x.1 < 64 := by
      have : x ∈ pairs2 g := by rw [hx]; simp
      unfold pairs2 at this
      simp only [List.mem_cons, List.not_mem_nil, or_false] at this
      rcases this with rfl | rfl <;> simp
    clear hx
    gi_wp2
    refine ⟨⟨hc.setCell (p := ⟨w.heap.size + 1, x.1, none⟩) (.inr (by simp)) _, ?_, ?_⟩, by simp [World.setCell], ?_⟩
    · simp only [heap_setCell, h1]; simp
    · simp only [heap_setCell, h2, if_true, Option.map_some, setAt_cells, rowCells_snoc]
    · intro b hb
      simp only [heap_setCell]
      have hb' : b ≠ w.heap.size + 1 := by rcases hb with rfl | rfl | hb <;> simp at * <;> omega
      rw [if_neg hb']
  case done =>
    rintro W ⟨hc, h1, h2⟩ hd
    gi_wp2
    have hl := (Array.getElem?_eq_some_iff.1 h1).1
    have hc1 : Ch [] w (World.onObj W w.heap.size (laidAt 0 (rowCells (pairs2 g)))) := hc.onObj (.inr (Nat.le_refl _)) _
    refine marks_ret (v := .agg (rowCells (pairs2 g))) ?_ (results_cell_row Tryz.results150 _ _ w.heap.size 180 (rowCells (pairs2 g)) (0, 0) _ rfl ?_ Tryz.underlying180 rfl (by rw [rowCells_size]; kernel_rfl)) ⟨rfl, hc1.trans2 (ch_putObj _ _ _) (by simp <;> omega)⟩
    · rw [heap_onObj, if_neg (by omega)]; exact hd
    · rw [heap_putObj, if_neg (by omega), heap_onObj, if_pos rfl, h1]
      simp only [Option.map_some, laidAt_cells]
      rw [laid_whole _ _ (by rw [rowCells_size, rowCells_size])]
theorem enters_none : True := trivial
set_option maxRecDepth 100000 in
theorem row_any (h : BitVec 64) (w : World) :
    Calls Tryz.prog 123 #[I 2, U h] w fun e w' => ∃ v, e = .returned (.tuple #[v, I 0]) ∧ w'.ownsRow w.heap.size 3 1 v 2 [I (g0 h), I (1 - g0 h : Nat)] ∧ Ch [] w w' := by
  have hg := g0_lt h
  have A1 := fun w => of_any h w
  have hr : (rowCells (pairs2 (g0 h))).extract 0 2 = #[I (g0 h), I (1 - g0 h : Nat)] := by
    unfold g0; split <;> kernel_rfl
  have hr1 := rowCells_size (pairs2 (g0 h))
  have hr2 := rowCells_one (pairs2 (g0 h))
  generalize g0 h = g at *
  generalize rowCells (pairs2 g) = r at *
  go_enter Tryz.func123, Tryz.ntmps123
  go_wp2_with (first
    | (go_at_call 149; refine (pcheck2 _).mono ?_; rintro e w' ⟨rfl, rfl⟩)
    | (go_at_call 150; refine (A1 _).mono ?_; rintro e w1 ⟨rfl, hc1⟩))
  have hlay : (World.onObj (w1.alloc (.cells (rowCells []) 180)) w1.heap.size (laidAt 0 r)).heap[w1.heap.size]? = some (.cells r 180 (0, 0)) := by
    rw [heap_onObj, if_pos rfl, heap_alloc, if_pos rfl]
    simp only [Option.map_some, laidAt_cells]
    rw [laid_whole _ _ (by rw [rowCells_size, hr1])]
  have hC2 : Ch [] w (World.onObj (w1.alloc (.cells (rowCells []) 180)) w1.heap.size (laidAt 0 r)) := (hc1.alloc _).onObj (.inr hc1.size) _
  obtain ⟨w2, hw2⟩ : ∃ w2, World.onObj (w1.alloc (.cells (rowCells []) 180)) w1.heap.size (laidAt 0 r) = w2 := ⟨_, rfl⟩
  rw [hw2] at hlay hC2 ⊢
  clear hw2 hr1 hr2
  refine (clone_int w1.heap.size 0 2 64 [(g : Int), (1 - g : Nat)] w2 (by simp) (by omega) ?_).mono ?_
  · intro j hj
    have e : r[j]? = some (.int .i64 ([(g : Int), ((1 - g : Nat) : Int)].getD j 0)) := by
      have h2 : (r.extract 0 2)[j]? = some (.int .i64 ([(g : Int), ((1 - g : Nat) : Int)].getD j 0)) := by
        rw [hr]
        match j, hj with
        | 0, _ => rfl
        | 1, _ => rfl
      rw [Array.getElem?_extract] at h2
      split at h2
      · simpa using h2
      · cases h2
    rw [cell_heap, hlay, Nat.zero_add]
    exact e
  rintro e w3 ⟨v, rfl, hown, hnn, hbel⟩
  clear A1
  go_wp2
  go_ret2
  exact ⟨v, rfl, own_mono hown hC2.size, hC2.trans (Ch.of_below hbel)⟩
end Go.Proofs.Hc
