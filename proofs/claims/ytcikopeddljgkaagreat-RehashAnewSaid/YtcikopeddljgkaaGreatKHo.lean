/- Package probe: the row of two groups. -/
import Derived.Test.YtcikopeddljgkaaGreatKHcb
import Derived.Test.YtcikopeddljgkaaGreatKHmet
import Derived.Test.YtcikopeddljgkaaGreatKHr
import Derived.Below
import Derived.BigQuiet
import Derived.Deep.Draws
import Derived.Deep.QuietTactic
import Derived.Laws.CopyRow
import Derived.Laws.Tables
import Derived.Lib.Hide
import Derived.Lib.Tables
import Derived.LoopIn
import Derived.LoopNIn
import Derived.Maps.AppendAt
import Derived.OwnWalkIn
import Derived.RangeFuncBox
import Derived.RangeFuncCalls
import Derived.RangeFuncRecord
import Derived.RangeFuncSeq
import Derived.Recover
import Derived.RegionTactic
import Derived.StillTail
import Derived.TacticsInMore
import Derived.Test.YtcikopeddljgkaaGreatProg
import Derived.WalkKit
import Derived.WalkLawsBesides
import Derived.WalkMore
import Derived.WalkSpells
import Derived.Shelf.Slices.Clone
set_option linter.unusedSimpArgs false
set_option linter.unusedVariables false
namespace Go.Proofs.Hc
open Go.RowKit
attribute [local go_sem] wrap_u64 wrap_u8 bits_xor64 bits_and64 bits_or64 bits_not64 bits_xor8 bits_and8 bits_or8 signed64 signed8 ofInt_N BitVec.ofInt_add BitVec.ofInt_mul ofInt_sub' ofInt8_N64 ofInt64_N8 wide8 eqN neN shr_pow shr1 shr7 shr56
attribute [local go_sem high] bits_com64 shl_wrap
attribute [local go_sem] nn2 nm2 nn3 nm3 nn4 nm4 nn5 nm5 nn6 nm6 nn7 nm7 nn8 nm8
attribute [local go_sem] Oper.semAt_some make_func1
attribute [local go_sem] cell_heap ice_heap cellAt_cells iceAt_cells setAt_cells size_setCell
attribute [local go_sem ↓] heap_alloc heap_drew heap_drewN heap_setCell
/-- The first group of two. -/
def g0 (h : BitVec 64) : Nat := if h &&& 1#64 = 0#64 then 0 else 1
theorem and_one (h : BitVec 64) : h &&& 1#64 = 0#64 ∨ h &&& 1#64 = 1#64 := by
  have e : (h &&& 1#64).toNat = h.toNat % 2 := by rw [BitVec.toNat_and]; exact Nat.and_one_is_mod _
  rcases Nat.mod_two_eq_zero_or_one h.toNat with h1 | h1
  · exact .inl (BitVec.eq_of_toNat_eq (by rw [e, h1]; rfl))
  · exact .inr (BitVec.eq_of_toNat_eq (by rw [e, h1]; rfl))
theorem g0_lt (h : BitVec 64) : g0 h < 2 := by unfold g0; split <;> omega
theorem pcheck2 (w : World) : Calls Tryz.prog 301 #[I 2] w fun e w' => e = .returned (I 0) ∧ w = w' := by
  go_enter Tryz.func301, Tryz.ntmps301
  go_wp2
  go_ret
  exact ⟨rfl, rfl⟩
theorem first2 (h : BitVec 64) (w : World) : Calls Tryz.prog 319 #[I 2, U h] w fun e w' => e = .returned (I (g0 h)) ∧ w = w' := by
  have h1 : BitVec.ofInt 64 1 = 1#64 := by decide
  go_enter Tryz.func319, Tryz.ntmps319
  rcases and_one h with e | e
  · have hg : g0 h = 0 := by unfold g0; rw [if_pos e]
    rw [hg]
    go_wp2
    go_ret
    exact ⟨by kernel_rfl, rfl⟩
  · have hg : g0 h = 1 := by unfold g0; rw [if_neg (by rw [e]; decide)]
    rw [hg]
    go_wp2
    go_ret
    exact ⟨by kernel_rfl, rfl⟩
theorem all_any2 (h : BitVec 64) (w : World) :
    Calls Tryz.prog 316 #[I 2, U h] w fun e w' => e = .returned (.func (.func 320) #[] #[.pointer (some ⟨w.heap.size, 0, none⟩), .pointer (some ⟨w.heap.size + 1, 0, none⟩)]) ∧
      w' = (w.alloc (.cells #[I 2] 3)).alloc (.cells #[U h] 22) := by
  go_enter Tryz.func316, Tryz.ntmps316
  go_wp2
  go_ret
  exact ⟨rfl, rfl⟩
theorem enters_all (args : Array Value) (w : World) : (callFunc 320 args).run Tryz.prog w = .ok (.enter 320 args) w := by kernel_rfl
/-- The pairs that the row of two tells. -/
def pairs2 (g : Nat) : List (Nat × Nat) := [(0, g), (1, 1 - g)]
theorem bits11 : bits .and .i64 1 1 = 1 := by kernel_rfl
theorem bits21 : bits .and .i64 2 1 = 0 := by kernel_rfl
theorem bits31 : bits .and .i64 3 1 = 1 := by kernel_rfl
attribute [local go_sem] bits11 bits21 bits31
set_option maxRecDepth 100000 in
theorem all_yields (h : BitVec 64) (b c : Nat) (w : World) (hb : w.heap[b]? = some (.cells #[I 2] 3 (0, 0))) (hc : w.heap[c]? = some (.cells #[U h] 22 (0, 0))) :
    Yields Tryz.prog 320 #[.pointer (some ⟨b, 0, none⟩), .pointer (some ⟨c, 0, none⟩)] (fun p : Nat × Nat => #[I p.1, I p.2]) (pairs2 (g0 h)) [] [b, c] w := by
  intro n l J Jx W hW hk hJ hJx hY h0
  have hb' := (hk b (by simp)).trans hb
  have hc' := (hk c (by simp)).trans hc
  have hg := g0_lt h
  have F1 := fun w => first2 h w
  generalize g0 h = g at *
  refine callsIn_of_wp Tryz.func320 rfl trivial ?_
  simp only [Tryz.ntmps320, List.size_toArray, List.length_cons, List.length_nil, Nat.reduceAdd, Nat.reduceSub, Array.replicate_succ, Array.replicate_zero, List.push_toArray, List.append_toArray, List.nil_append, List.cons_append]
  refine wpIn_wide.2 ?_
  apply wp_scope_straight
  refine (wpIn_wide (n := n + 1)).1 ?_
  gi_wp2_with (refine ⟨trivial, ?_⟩; gi_at_call 319; refine (callsIn_wide.2 (F1 _)).mono ?_; rintro e w' ⟨rfl, rfl⟩)
  apply wpIn_label
  gi_wp2
  refine wpIn_loop_rounds 3 ?_
  rw [roundsIn_succ]
  obtain ⟨fn, tmps, assign, body, hy, hR⟩ := hY [] (0, g) [(1, 1 - g)] W rfl h0
  have hy : Sem.run Tryz.prog (Instr.yield l #[.int .i64 0, I g]) W = .ok (.round l fn tmps assign body) W := hy
  gi_wp2
  refine hR.mono ?_
  clear hy hR
  rintro e W3 (⟨rfl, hJ3, hz3, hk3⟩ | ⟨rfl, hJx3⟩)
  · have hb3 := (hk3 b (by simp)).trans hb'
    clear hk3
    obtain ⟨fn2, tmps2, assign2, body2, hy2, hR2⟩ := hY [(0, g)] (1, 1 - g) [] W3 rfl hJ3
    have hy2 : Sem.run Tryz.prog (Instr.yield l #[.int .i64 1, I (1 - g : Nat)]) W3 = .ok (.round l fn2 tmps2 assign2 body2) W3 := hy2
    have hcase : g = 0 ∨ g = 1 := by omega
    rcases hcase with rfl | rfl
    · have hy2 : Sem.run Tryz.prog (Instr.yield l #[.int .i64 1, .int .i64 1]) W3 = .ok (.round l fn2 tmps2 assign2 body2) W3 := hy2
      gi_wp2
      rw [roundsIn_succ]
      gi_wp2
      refine hR2.mono ?_
      clear hy2 hR2
      rintro e W4 (⟨rfl, hJ4, hz4, hk4⟩ | ⟨rfl, hJx4⟩)
      · have hb4 := (hk4 b (by simp)).trans hb3
        clear hk4
        gi_wp2
        rw [roundsIn_succ]
        gi_wp2
        rw [Exit.noGoto_normal]
        refine bodyPost_end (results_none rfl _ _ _) rfl ?_
        exact ⟨⟨_, rfl⟩, .inl hJ4⟩
      · gi_wp2
        rw [Exit.noGoto_normal]
        refine bodyPost_end (results_none rfl _ _ _) rfl ?_
        exact ⟨⟨_, rfl⟩, .inr hJx4⟩
    · have hy2 : Sem.run Tryz.prog (Instr.yield l #[.int .i64 1, .int .i64 0]) W3 = .ok (.round l fn2 tmps2 assign2 body2) W3 := hy2
      gi_wp2
      rw [roundsIn_succ]
      gi_wp2
      refine hR2.mono ?_
      clear hy2 hR2
      rintro e W4 (⟨rfl, hJ4, hz4, hk4⟩ | ⟨rfl, hJx4⟩)
      · have hb4 := (hk4 b (by simp)).trans hb3
        clear hk4
        gi_wp2
        rw [roundsIn_succ]
        gi_wp2
        rw [Exit.noGoto_normal]
        refine bodyPost_end (results_none rfl _ _ _) rfl ?_
        exact ⟨⟨_, rfl⟩, .inl hJ4⟩
      · gi_wp2
        rw [Exit.noGoto_normal]
        refine bodyPost_end (results_none rfl _ _ _) rfl ?_
        exact ⟨⟨_, rfl⟩, .inr hJx4⟩
  · gi_wp2
    rw [Exit.noGoto_normal]
    refine bodyPost_end (results_none rfl _ _ _) rfl ?_
    exact ⟨⟨_, rfl⟩, .inr hJx3⟩
end Go.Proofs.Hc
/- Package probe: Row of two groups. -/
namespace Go.Proofs.Hc
open Go.RowKit
attribute [local go_sem] wrap_u64 wrap_u8 bits_xor64 bits_and64 bits_or64 bits_not64 bits_xor8 bits_and8 bits_or8 signed64 signed8 ofInt_N BitVec.ofInt_add BitVec.ofInt_mul ofInt_sub' ofInt8_N64 ofInt64_N8 wide8 eqN neN shr_pow shr1 shr7 shr56
attribute [local go_sem high] bits_com64 shl_wrap
attribute [local go_sem] nn2 nm2 nn3 nm3 nn4 nm4 nn5 nm5 nn6 nm6 nn7 nm7 nn8 nm8
attribute [local go_sem] Oper.semAt_some make_func1
attribute [local go_sem] cell_heap ice_heap cellAt_cells iceAt_cells setAt_cells size_setCell
attribute [local go_sem ↓] heap_alloc heap_drew heap_drewN heap_setCell
/-- A row as an array of 64 cells, of which some are laid. -/
def zero64 : Array Value := Array.replicate 64 (I 0)
def rowCells (pre : List (Nat × Nat)) : Array Value := pre.foldl (fun a p => a.setIfInBounds p.1 (I p.2)) zero64
theorem zero64_size : zero64.size = 64 := by simp [zero64]
theorem rowCells_snoc (pre : List (Nat × Nat)) (x : Nat × Nat) : rowCells (pre ++ [x]) = (rowCells pre).setIfInBounds x.1 (I x.2) := by simp [rowCells]
theorem foldCells_size (pre : List (Nat × Nat)) : ∀ a : Array Value, (pre.foldl (fun a p => a.setIfInBounds p.1 (I p.2)) a).size = a.size := by
  induction pre with
  | nil => intro a; rfl
  | cons x l ih => intro a; simp [List.foldl_cons, ih]
theorem rowCells_size (pre : List (Nat × Nat)) : (rowCells pre).size = 64 := by unfold rowCells; rw [foldCells_size, zero64_size]
theorem allOne_set (a : Array Value) (h : allOne a = true) (j : Nat) (n : Int) : allOne (a.setIfInBounds j (I n)) = true := by
  unfold allOne at *
  rw [Array.all_eq_true_iff_forall_mem] at *
  intro v hv
  rcases Array.mem_or_eq_of_mem_setIfInBounds hv with h1 | h1
  · exact h v h1
  · rw [h1]; rfl
theorem rowCells_one (pre : List (Nat × Nat)) : allOne (rowCells pre) = true := by
  suffices ∀ (pre : List (Nat × Nat)) (a : Array Value), allOne a = true → allOne (pre.foldl (fun a p => a.setIfInBounds p.1 (I p.2)) a) = true from this pre _ (by decide +kernel)
  intro pre
  induction pre with
  | nil => intro a h; exact h
  | cons x l ih => intro a h; exact ih _ (allOne_set a h _ _)
theorem rowCells_all (pre : List (Nat × Nat)) : (rowCells pre).extract 0 64 = rowCells pre := by
  have := Array.extract_size (xs := rowCells pre); rwa [rowCells_size] at this
theorem lrowR (a : Addr) : loadVar 338 a = loadRow 338 a := rfl
theorem srowR (a : Addr) (v : Value) : storeVar 338 a v = storeRow 338 a v := rfl
theorem zeroR_run (w : World) : (zeroValue 338).run Tryz.prog w = .ok (.agg (rowCells [])) w := by kernel_rfl
theorem loadR (g o : Nat) (w : World) : (loadRow 338 ⟨g, o, none⟩).run Tryz.prog w = rowRes Tryz.prog 338 g o w ((w.heap[g]?).bind (rowAt o 64)) :=
  run_row Tryz.underlying338 rfl (by kernel_rfl) g o w
theorem storeR (g o : Nat) (vs : Array Value) (w : World) : (storeRow 338 ⟨g, o, none⟩ (.agg vs)).run Tryz.prog w = layRes Tryz.prog 338 g o vs w (((w.heap[g]?).map (canLay o 64 vs)).getD false) :=
  run_lay (by kernel_rfl) g o vs w
attribute [local go_sem] rowAt_cells canLay_cells laidAt_cells size_onObj rowRes_some layRes_true loadR storeR rowCells_size rowCells_one rowCells_all
attribute [local go_sem ↓] lrowR srowR zeroR_run heap_onObj
set_option maxRecDepth 100000 in
theorem of_any (h : BitVec 64) (w : World) :
    Calls Tryz.prog 302 #[I 2, U h] w fun e w' => e = .returned (.agg (rowCells (pairs2 (g0 h)))) ∧ Ch [] w w' := by
  have hg := g0_lt h
  have Y1 := fun b c w hb hc => all_yields h b c w hb hc
  have A1 := fun w => all_any2 h w
  generalize g0 h = g at *
  refine (callsIn_wide (n := 3)).1 ?_
  refine callsIn_of_wp_marks Tryz.func302 rfl trivial ?_
  simp only [Tryz.ntmps302, List.size_toArray, List.length_cons, List.length_nil, Nat.reduceAdd, Nat.reduceSub, Array.replicate_succ, Array.replicate_zero, List.push_toArray, List.append_toArray, List.nil_append, List.cons_append]
  gi_wp2_with (refine ⟨trivial, ?_⟩; gi_at_call 316; refine (callsIn_wide.2 (A1 _)).mono ?_; rintro e w' ⟨rfl, rfl⟩)
  obtain ⟨W0, hW0⟩ : ∃ W0, (((w.alloc (.cells (rowCells []) 338)).alloc (.cells (rowCells []) 338)).alloc (.cells #[I 2] 3)).alloc (.cells #[U h] 22) = W0 := ⟨_, rfl⟩
  have hs0 : W0.heap.size = w.heap.size + 4 := by rw [← hW0]; simp
  have hC0 : Ch [] w W0 := by rw [← hW0]; exact ((((Ch.refl [] w).alloc _).alloc _).alloc _).alloc _
  have b0 : W0.heap[w.heap.size]? = some (.cells (rowCells []) 338 (0, 0)) := by rw [← hW0]; simp [go_sem] <;> omega
  have b1 : W0.heap[w.heap.size + 1]? = some (.cells (rowCells []) 338 (0, 0)) := by rw [← hW0]; simp [go_sem] <;> omega
  have b2 : W0.heap[w.heap.size + 1 + 1]? = some (.cells #[I 2] 3 (0, 0)) := by rw [← hW0]; simp [go_sem] <;> omega
  have b3 : W0.heap[w.heap.size + 1 + 1 + 1]? = some (.cells #[U h] 22 (0, 0)) := by rw [← hW0]; simp [go_sem] <;> omega
  rw [hW0]
  clear hW0
  gi_wp2
  refine range_law (n := 1) (xs := pairs2 g) rfl enters_all (Y1 _ _ W0 b2 b3) (fun _ => rfl) (by simp) (by simp <;> omega)
    (fun pre W => Ch [] w W ∧ W.heap[w.heap.size]? = some (.cells (rowCells []) 338 (0, 0)) ∧ W.heap[w.heap.size + 1]? = some (.cells (rowCells pre) 338 (0, 0)))
    (fun _ _ => False)
    ?hI (fun _ _ _ h _ => h.elim) ⟨hC0, b0, b1⟩ ?a₁ ?assign ?body ?done (fun _ _ h _ => h.elim)
  case hI =>
    rintro pre A B ⟨hc, h1, h2⟩ hAB
    exact ⟨hc.trans2 hAB (by simp <;> omega), (hAB.block _ (Array.getElem?_eq_some_iff.1 h1).1 (by simp <;> omega)).trans h1, (hAB.block _ (Array.getElem?_eq_some_iff.1 h2).1 (by simp <;> omega)).trans h2⟩
  case a₁ => exact fun x => { tmps := #[I 2, U h, undef, undef, .pointer (some ⟨w.heap.size, 0, none⟩), .pointer (some ⟨w.heap.size + 1, 0, none⟩), I x.1, I x.2, I 2, U h, .func (.func 320) #[] #[.pointer (some ⟨w.heap.size + 1 + 1, 0, none⟩), .pointer (some ⟨w.heap.size + 1 + 1 + 1, 0, none⟩)], I x.1, I x.2, undef, undef, undef, undef], defers := [] }
  case assign =>
    intro x W K hK
    gi_wp2
    exact hK
  case body =>
    rintro pre x post W hx ⟨hc, h1, h2⟩ hsz
    have hx1 : x.1 < 64 := by
      have : x ∈ pairs2 g := by rw [hx]; simp
      unfold pairs2 at this
      simp only [List.mem_cons, List.not_mem_nil, or_false] at this
      rcases this with rfl | rfl <;> simp
    clear hx
    gi_wp2
    refine ⟨⟨hc.setCell (p := ⟨w.heap.size + 1, x.1, none⟩) (.inr (by simp)) _, ?_, ?_⟩, by simp [World.setCell], ?_⟩
    · simp only [heap_setCell, h1]; simp
    · simp only [heap_setCell, h2, if_true, Option.map_some, setAt_cells, rowCells_snoc]
    · intro b hb
      simp only [heap_setCell]
      have hb' : b ≠ w.heap.size + 1 := by rcases hb with rfl | rfl | hb <;> simp at * <;> omega
      rw [if_neg hb']
  case done =>
    rintro W ⟨hc, h1, h2⟩ hd
    gi_wp2
    have hl := (Array.getElem?_eq_some_iff.1 h1).1
    have hc1 : Ch [] w (World.onObj W w.heap.size (laidAt 0 (rowCells (pairs2 g)))) := hc.onObj (.inr (Nat.le_refl _)) _
    refine marks_ret (v := .agg (rowCells (pairs2 g))) ?_ (results_cell_row Tryz.results302 _ _ w.heap.size 338 (rowCells (pairs2 g)) (0, 0) _ rfl ?_ Tryz.underlying338 rfl (by rw [rowCells_size]; kernel_rfl)) ⟨rfl, hc1.trans2 (ch_putObj _ _ _) (by simp <;> omega)⟩
    · rw [heap_onObj, if_neg (by omega)]; exact hd
    · rw [heap_putObj, if_neg (by omega), heap_onObj, if_pos rfl, h1]
      simp only [Option.map_some, laidAt_cells]
      rw [laid_whole _ _ (by rw [rowCells_size, rowCells_size])]
set_option maxRecDepth 100000 in
theorem row_any (h : BitVec 64) (w : World) :
    Calls Tryz.prog 259 #[I 2, U h] w fun e w' => ∃ v, e = .returned (.tuple #[v, I 0]) ∧ w'.ownsRow w.heap.size 3 1 v 2 [I (g0 h), I (1 - g0 h : Nat)] ∧ Ch [] w w' := by
  have hg := g0_lt h
  have A1 := fun w => of_any h w
  have hr : (rowCells (pairs2 (g0 h))).extract 0 2 = #[I (g0 h), I (1 - g0 h : Nat)] := by
    unfold g0; split <;> kernel_rfl
  have hr1 := rowCells_size (pairs2 (g0 h))
  have hr2 := rowCells_one (pairs2 (g0 h))
  generalize g0 h = g at *
  generalize rowCells (pairs2 g) = r at *
  go_enter Tryz.func259, Tryz.ntmps259
  go_wp2_with (first
    | (go_at_call 301; refine (pcheck2 _).mono ?_; rintro e w' ⟨rfl, rfl⟩)
    | (go_at_call 302; refine (A1 _).mono ?_; rintro e w1 ⟨rfl, hc1⟩))
  have hlay : (World.onObj (w1.alloc (.cells (rowCells []) 338)) w1.heap.size (laidAt 0 r)).heap[w1.heap.size]? = some (.cells r 338 (0, 0)) := by
    rw [heap_onObj, if_pos rfl, heap_alloc, if_pos rfl]
    simp only [Option.map_some, laidAt_cells]
    rw [laid_whole _ _ (by rw [rowCells_size, hr1])]
  have hC2 : Ch [] w (World.onObj (w1.alloc (.cells (rowCells []) 338)) w1.heap.size (laidAt 0 r)) := (hc1.alloc _).onObj (.inr hc1.size) _
  obtain ⟨w2, hw2⟩ : ∃ w2, World.onObj (w1.alloc (.cells (rowCells []) 338)) w1.heap.size (laidAt 0 r) = w2 := ⟨_, rfl⟩
  rw [hw2] at hlay hC2 ⊢
  clear hw2 hr1 hr2
  refine (clone_int w1.heap.size 0 2 64 [(g : Int), (1 - g : Nat)] w2 (by simp) (by omega) ?_).mono ?_
  · intro j hj
    have e : r[j]? = some (.int .i64 ([(g : Int), ((1 - g : Nat) : Int)].getD j 0)) := by
      have h2 : (r.extract 0 2)[j]? = some (.int .i64 ([(g : Int), ((1 - g : Nat) : Int)].getD j 0)) := by
        rw [hr]
        match j, hj with
        | 0, _ => rfl
        | 1, _ => rfl
      rw [Array.getElem?_extract] at h2
      split at h2
      · simpa using h2
      · cases h2
    rw [cell_heap, hlay, Nat.zero_add]
    exact e
  rintro e w3 ⟨v, rfl, hown, hnn, hbel⟩
  clear A1
  go_wp2
  go_ret2
  exact ⟨v, rfl, own_mono hown hC2.size, hC2.trans (Ch.of_below hbel)⟩
end Go.Proofs.Hc
