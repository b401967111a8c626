/- Package probe: the row of two groups. -/
import Derived.Test.YtcikopeddljgkaaGreatKHlan
import Derived.Deep.OwnRows
import Derived.Laws.CopyOwn
import Derived.Deep.Slices
import Derived.Laws.EntriesVeiled
import Derived.OpenShut
import Derived.ProofKit
set_option linter.unusedSimpArgs false
set_option linter.unusedVariables false
set_option maxHeartbeats 1000000
set_option maxRecDepth 100000
namespace Go.Proofs.Hc
open Go.RowKit
attribute [local go_sem] zbv zcb zba zbf zbr zbd zbq zbs zbx signed64 signed8 zap BitVec.ofInt_add BitVec.ofInt_mul ofInt_sub' zbb zbc wide8 eqN neN zca shr1 shr7 shr56
attribute [local go_sem high] zbe zbw
attribute [local go_sem] nn2 nm2 nn3 nm3 nn4 nm4 nn5 nm5 nn6 nm6 nn7 nm7 nn8 nm8
attribute [local go_sem] Oper.semAt_some zao
attribute [local go_sem] zaw zby zaj zas zae zam
attribute [local go_sem ↓] zac zbk zbg zaa
def g0 (h : BitVec 64) : Nat := if h &&& 1#64 = 0#64 then 0 else 1
theorem and_one (h : BitVec 64) : h &&& 1#64 = 0#64 ∨ h &&& 1#64 = 1#64 := by
  have e : (h &&& 1#64).toNat = h.toNat % 2 := by rw [BitVec.toNat_and]; exact Nat.and_one_is_mod _
  rcases Nat.mod_two_eq_zero_or_one h.toNat with h1 | h1
  · exact .inl (BitVec.eq_of_toNat_eq (by rw [e, h1]; rfl))
  · exact .inr (BitVec.eq_of_toNat_eq (by rw [e, h1]; rfl))
theorem g0_lt (h : BitVec 64) : g0 h < 2 := by unfold g0; split <;> omega
theorem pcheck2 (w : World) : Calls Tryz.prog 301 #[I 2] w fun e w' => e = .returned (I 0) ∧ w = w' := by
  go_enter Tryz.func301, Tryz.ntmps301
  go_wp2
  go_ret
  exact ⟨rfl, rfl⟩
theorem first2 (h : BitVec 64) (w : World) : Calls Tryz.prog 319 #[I 2, U h] w fun e w' => e = .returned (I (g0 h)) ∧ w = w' := by
  have h1 : BitVec.ofInt 64 1 = 1#64 := by decide
  go_enter Tryz.func319, Tryz.ntmps319
  rcases and_one h with e | e
  · have hg : g0 h = 0 := by unfold g0; rw [if_pos e]
    rw [hg]
    go_wp2
    go_ret
    exact ⟨by kernel_rfl, rfl⟩
  · have hg : g0 h = 1 := by unfold g0; rw [if_neg (by rw [e]; decide)]
    rw [hg]
    go_wp2
    go_ret
    exact ⟨by kernel_rfl, rfl⟩
theorem all_any2 (h : BitVec 64) (w : World) :
    Calls Tryz.prog 316 #[I 2, U h] w fun e w' => e = .returned (.func (.func 320) #[] #[.pointer (some ⟨w.heap.size, 0, none⟩), .pointer (some ⟨w.heap.size + 1, 0, none⟩)]) ∧
      w' = (w.alloc (.cells #[I 2] 3)).alloc (.cells #[U h] 22) := by
  go_enter Tryz.func316, Tryz.ntmps316
  go_wp2
  go_ret
  exact ⟨rfl, rfl⟩
theorem enters_all (args : Array Value) (w : World) : (callFunc 320 args).run Tryz.prog w = .ok (.enter 320 args) w := by kernel_rfl
def pairs2 (g : Nat) : List (Nat × Nat) := [(0, g), (1, 1 - g)]
theorem bits11 : bits .and .i64 1 1 = 1 := by kernel_rfl
theorem bits21 : bits .and .i64 2 1 = 0 := by kernel_rfl
theorem bits31 : bits .and .i64 3 1 = 1 := by kernel_rfl
attribute [local go_sem] bits11 bits21 bits31
theorem all_yields (h : BitVec 64) (b c : Nat) (w : World) (hb : w.heap[b]? = some (.cells #[I 2] 3 (0, 0))) (hc : w.heap[c]? = some (.cells #[U h] 22 (0, 0))) :
    Yields Tryz.prog 320 #[.pointer (some ⟨b, 0, none⟩), .pointer (some ⟨c, 0, none⟩)] (fun p : Nat × Nat => #[I p.1, I p.2]) (pairs2 (g0 h)) [] [b, c] w := by
  intro n l J Jx W hW hk hJ hJx hY h0
  have hb' := (hk b (by simp)).trans hb
  have hc' := (hk c (by simp)).trans hc
  have hg := g0_lt h
  have F1 := fun w => first2 h w
  generalize g0 h = g at *
  refine callsIn_of_wp Tryz.func320 rfl trivial ?_
  simp only [Tryz.ntmps320, List.size_toArray, List.length_cons, List.length_nil, Nat.reduceAdd, Nat.reduceSub, Array.replicate_succ, Array.replicate_zero, List.push_toArray, List.append_toArray, List.nil_append, List.cons_append]
  refine wpIn_wide.2 ?_
  apply wp_scope_straight
  refine (wpIn_wide (n := n + 1)).1 ?_
  gi_wp2_with (refine ⟨trivial, ?_⟩; gi_at_call 319; refine (callsIn_wide.2 (F1 _)).mono ?_; rintro e w' ⟨rfl, rfl⟩)
  apply wpIn_label
  gi_wp2
  refine wpIn_loop_rounds 3 ?_
  rw [roundsIn_succ]
  obtain ⟨fn, tmps, assign, body, hy, hR⟩ := hY [] (0, g) [(1, 1 - g)] W rfl h0
  have hy : Sem.run Tryz.prog (Instr.yield l #[.int .i64 0, I g]) W = .ok (.round l fn tmps assign body) W := hy
  gi_wp2
  refine hR.mono ?_
  clear hy hR
  rintro e W3 (⟨rfl, hJ3, hz3, hk3⟩ | ⟨rfl, hJx3⟩)
  · have hb3 := (hk3 b (by simp)).trans hb'
    clear hk3
    obtain ⟨fn2, tmps2, assign2, body2, hy2, hR2⟩ := hY [(0, g)] (1, 1 - g) [] W3 rfl hJ3
    have hy2 : Sem.run Tryz.prog (Instr.yield l #[.int .i64 1, I (1 - g : Nat)]) W3 = .ok (.round l fn2 tmps2 assign2 body2) W3 := hy2
    have hcase : g = 0 ∨ g = 1 := by omega
    rcases hcase with rfl | rfl
    · have hy2 : Sem.run Tryz.prog (Instr.yield l #[.int .i64 1, .int .i64 1]) W3 = .ok (.round l fn2 tmps2 assign2 body2) W3 := hy2
      gi_wp2
      rw [roundsIn_succ]
      gi_wp2
      refine hR2.mono ?_
      clear hy2 hR2
      rintro e W4 (⟨rfl, hJ4, hz4, hk4⟩ | ⟨rfl, hJx4⟩)
      · have hb4 := (hk4 b (by simp)).trans hb3
        clear hk4
        gi_wp2
        rw [roundsIn_succ]
        gi_wp2
        rw [Exit.noGoto_normal]
        refine bodyPost_end (results_none rfl _ _ _) rfl ?_
        exact ⟨⟨_, rfl⟩, .inl hJ4⟩
      · gi_wp2
        rw [Exit.noGoto_normal]
        refine bodyPost_end (results_none rfl _ _ _) rfl ?_
        exact ⟨⟨_, rfl⟩, .inr hJx4⟩
    · have hy2 : Sem.run Tryz.prog (Instr.yield l #[.int .i64 1, .int .i64 0]) W3 = .ok (.round l fn2 tmps2 assign2 body2) W3 := hy2
      gi_wp2
      rw [roundsIn_succ]
      gi_wp2
      refine hR2.mono ?_
      clear hy2 hR2
      rintro e W4 (⟨rfl, hJ4, hz4, hk4⟩ | ⟨rfl, hJx4⟩)
      · have hb4 := (hk4 b (by simp)).trans hb3
        clear hk4
        gi_wp2
        rw [roundsIn_succ]
        gi_wp2
        rw [Exit.noGoto_normal]
        refine bodyPost_end (results_none rfl _ _ _) rfl ?_
        exact ⟨⟨_, rfl⟩, .inl hJ4⟩
      · gi_wp2
        rw [Exit.noGoto_normal]
        refine bodyPost_end (results_none rfl _ _ _) rfl ?_
        exact ⟨⟨_, rfl⟩, .inr hJx4⟩
  · gi_wp2
    rw [Exit.noGoto_normal]
    refine bodyPost_end (results_none rfl _ _ _) rfl ?_
    exact ⟨⟨_, rfl⟩, .inr hJx3⟩
end Go.Proofs.Hc
namespace Go.Proofs
open Go.Shelf
def Tryz.laysClone_ren : Go.Shelf.Ren := ⟨fun | 15 => 303 | n => n, fun | 22 => 154 | 3 => 3 | 4 => 4 | n => n, fun n => n⟩
theorem Tryz.laysClone : Lays2.n15 Tryz.prog Tryz.laysClone_ren := {
  mixed := by kernel_rfl
  f15 := Tryz.func303.trans (congrArg some (by kernel_rfl))
  t3 := Tryz.underlying3
  a3 := Tryz.isAgg3
  z3 := Tryz.sizeOf3
  v3 := Tryz.zeroValue3
  t4 := Tryz.underlying4
  a4 := Tryz.isAgg4
  z4 := Tryz.sizeOf4
  v4 := Tryz.zeroValue4
  t22 := Tryz.underlying154
  a22 := Tryz.isAgg154
  z22 := Tryz.sizeOf154
  v22 := Tryz.zeroValue154
  i3 := by kernel_rfl }
end Go.Proofs
namespace Go.Proofs.Hc
open Go.RowKit
theorem clone_int (b off n c : Nat) (zs : List Int) (w : World) (hz : n ≤ zs.length) (hbig : n * 8 ≤ 140737488355328) (hc : ∀ j, j < zs.length → w.cell? ⟨b, off + j, none⟩ = some (.int .i64 (zs.getD j 0))) :
    Calls Tryz.prog 303 #[.slice (some ⟨b, off, none⟩) n c] w fun e w' => ∃ v', e = .returned v' ∧ w'.ownsRow w.heap.size 3 1 v' n ((zs.take n).map (Value.int .i64)) ∧ v' ≠ .slice none 0 0 ∧ Below w.heap.size w w' :=
  Any.slices_Clone_int Tryz.laysClone b off n c zs w hz hbig hc
end Go.Proofs.Hc
namespace Go.Proofs.Hc
open Go.RowKit
attribute [local go_sem] zbv zcb zba zbf zbr zbd zbq zbs zbx signed64 signed8 zap BitVec.ofInt_add BitVec.ofInt_mul ofInt_sub' zbb zbc wide8 eqN neN zca shr1 shr7 shr56
attribute [local go_sem high] zbe zbw
attribute [local go_sem] nn2 nm2 nn3 nm3 nn4 nm4 nn5 nm5 nn6 nm6 nn7 nm7 nn8 nm8
attribute [local go_sem] Oper.semAt_some zao
attribute [local go_sem] zaw zby zaj zas zae zam
attribute [local go_sem ↓] zac zbk zbg zaa
def zero64 : Array Value := Array.replicate 64 (I 0)
def rowCells (pre : List (Nat × Nat)) : Array Value := pre.foldl (fun a p => a.setIfInBounds p.1 (I p.2)) zero64
theorem zero64_size : zero64.size = 64 := by simp [zero64]
theorem rowCells_snoc (pre : List (Nat × Nat)) (x : Nat × Nat) : rowCells (pre ++ [x]) = (rowCells pre).setIfInBounds x.1 (I x.2) := by simp [rowCells]
theorem foldCells_size (pre : List (Nat × Nat)) : ∀ a : Array Value, (pre.foldl (fun a p => a.setIfInBounds p.1 (I p.2)) a).size = a.size := by
  induction pre with
  | nil => intro a; rfl
  | cons x l ih => intro a; simp [List.foldl_cons, ih]
theorem rowCells_size (pre : List (Nat × Nat)) : (rowCells pre).size = 64 := by unfold rowCells; rw [foldCells_size, zero64_size]
theorem allOne_set (a : Array Value) (h : allOne a = true) (j : Nat) (n : Int) : allOne (a.setIfInBounds j (I n)) = true := by
  unfold allOne at *
  rw [Array.all_eq_true_iff_forall_mem] at *
  intro v hv
  rcases Array.mem_or_eq_of_mem_setIfInBounds hv with h1 | h1
  · exact h v h1
  · rw [h1]; rfl
theorem rowCells_one (pre : List (Nat × Nat)) : allOne (rowCells pre) = true := by
  suffices ∀ (pre : List (Nat × Nat)) (a : Array Value), allOne a = true → allOne (pre.foldl (fun a p => a.setIfInBounds p.1 (I p.2)) a) = true from this pre _ (by decide +kernel)
  intro pre
  induction pre with
  | nil => intro a h; exact h
  | cons x l ih => intro a h; exact ih _ (allOne_set a h _ _)
theorem rowCells_all (pre : List (Nat × Nat)) : (rowCells pre).extract 0 64 = rowCells pre := by
  have := Array.extract_size (xs := rowCells pre); rwa [rowCells_size] at this
theorem lrowR (a : Addr) : loadVar 338 a = loadRow 338 a := rfl
theorem srowR (a : Addr) (v : Value) : storeVar 338 a v = storeRow 338 a v := rfl
theorem zeroR_run (w : World) : (zeroValue 338).run Tryz.prog w = .ok (.agg (rowCells [])) w := by kernel_rfl
theorem loadR (g o : Nat) (w : World) : (loadRow 338 ⟨g, o, none⟩).run Tryz.prog w = rowRes Tryz.prog 338 g o w ((w.heap[g]?).bind (rowAt o 64)) :=
  run_row Tryz.underlying338 rfl (by kernel_rfl) g o w
theorem storeR (g o : Nat) (vs : Array Value) (w : World) : (storeRow 338 ⟨g, o, none⟩ (.agg vs)).run Tryz.prog w = layRes Tryz.prog 338 g o vs w (((w.heap[g]?).map (canLay o 64 vs)).getD false) :=
  run_lay (by kernel_rfl) g o vs w
attribute [local go_sem] zay zar zak zbn zax zaz loadR storeR rowCells_size rowCells_one rowCells_all
attribute [local go_sem ↓] lrowR srowR zeroR_run zab
theorem of_any (h : BitVec 64) (w : World) :
    Calls Tryz.prog 302 #[I 2, U h] w fun e w' => e = .returned (.agg (rowCells (pairs2 (g0 h)))) ∧ Ch [] w w' := by
  have hg := g0_lt h
  have Y1 := fun b c w hb hc => all_yields h b c w hb hc
  have A1 := fun w => all_any2 h w
  generalize g0 h = g at *
  refine (callsIn_wide (n := 3)).1 ?_
  refine callsIn_of_wp_marks Tryz.func302 rfl trivial ?_
  simp only [Tryz.ntmps302, List.size_toArray, List.length_cons, List.length_nil, Nat.reduceAdd, Nat.reduceSub, Array.replicate_succ, Array.replicate_zero, List.push_toArray, List.append_toArray, List.nil_append, List.cons_append]
  gi_wp2_with (refine ⟨trivial, ?_⟩; gi_at_call 316; refine (callsIn_wide.2 (A1 _)).mono ?_; rintro e w' ⟨rfl, rfl⟩)
  obtain ⟨W0, hW0⟩ : ∃ W0, (((w.alloc (.cells (rowCells []) 338)).alloc (.cells (rowCells []) 338)).alloc (.cells #[I 2] 3)).alloc (.cells #[U h] 22) = W0 := ⟨_, rfl⟩
  have hs0 : W0.heap.size = w.heap.size + 4 := by rw [← hW0]; simp
  have hC0 : Ch [] w W0 := by rw [← hW0]; exact ((((Ch.refl [] w).alloc _).alloc _).alloc _).alloc _
  have b0 : W0.heap[w.heap.size]? = some (.cells (rowCells []) 338 (0, 0)) := by rw [← hW0]; simp [go_sem] <;> omega
  have b1 : W0.heap[w.heap.size + 1]? = some (.cells (rowCells []) 338 (0, 0)) := by rw [← hW0]; simp [go_sem] <;> omega
  have b2 : W0.heap[w.heap.size + 1 + 1]? = some (.cells #[I 2] 3 (0, 0)) := by rw [← hW0]; simp [go_sem] <;> omega
  have b3 : W0.heap[w.heap.size + 1 + 1 + 1]? = some (.cells #[U h] 22 (0, 0)) := by rw [← hW0]; simp [go_sem] <;> omega
  rw [hW0]
  clear hW0
  gi_wp2
  refine range_law (n := 1) (xs := pairs2 g) rfl enters_all (Y1 _ _ W0 b2 b3) (fun _ => rfl) (by simp) (by simp <;> omega)
    (fun pre W => Ch [] w W ∧ W.heap[w.heap.size]? = some (.cells (rowCells []) 338 (0, 0)) ∧ W.heap[w.heap.size + 1]? = some (.cells (rowCells pre) 338 (0, 0)))
    (fun _ _ => False)
    ?hI (fun _ _ _ h _ => h.elim) ⟨hC0, b0, b1⟩ ?a₁ ?assign ?body ?done (fun _ _ h _ => h.elim)
  case hI =>
    rintro pre A B ⟨hc, h1, h2⟩ hAB
    exact ⟨hc.trans2 hAB (by simp <;> omega), (hAB.block _ (Array.getElem?_eq_some_iff.1 h1).1 (by simp <;> omega)).trans h1, (hAB.block _ (Array.getElem?_eq_some_iff.1 h2).1 (by simp <;> omega)).trans h2⟩
  case a₁ => exact fun x => { tmps := #[I 2, U h, undef, undef, .pointer (some ⟨w.heap.size, 0, none⟩), .pointer (some ⟨w.heap.size + 1, 0, none⟩), I x.1, I x.2, I 2, U h, .func (.func 320) #[] #[.pointer (some ⟨w.heap.size + 1 + 1, 0, none⟩), .pointer (some ⟨w.heap.size + 1 + 1 + 1, 0, none⟩)], I x.1, I x.2, undef, undef, undef, undef], defers := [] }
  case assign =>
    intro x W K hK
    gi_wp2
    exact hK
  case body =>
    rintro pre x post W hx ⟨hc, h1, h2⟩ hsz
    have hx1 : x.1 < 64 := by
      have : x ∈ pairs2 g := by rw [hx]; simp
      unfold pairs2 at this
      simp only [List.mem_cons, List.not_mem_nil, or_false] at this
      rcases this with rfl | rfl <;> simp
    clear hx
    gi_wp2
    refine ⟨⟨hc.setCell (p := ⟨w.heap.size + 1, x.1, none⟩) (.inr (by simp)) _, ?_, ?_⟩, by simp [World.setCell], ?_⟩
    · simp only [zaa, h1]; simp
    · simp only [zaa, h2, if_true, Option.map_some, zae, rowCells_snoc]
    · intro b hb
      simp only [zaa]
      have hb' : b ≠ w.heap.size + 1 := by rcases hb with rfl | rfl | hb <;> simp at * <;> omega
      rw [if_neg hb']
  case done =>
    rintro W ⟨hc, h1, h2⟩ hd
    gi_wp2
    have hl := (Array.getElem?_eq_some_iff.1 h1).1
    have hc1 : Ch [] w (World.onObj W w.heap.size (laidAt 0 (rowCells (pairs2 g)))) := hc.onObj (.inr (Nat.le_refl _)) _
    refine marks_ret (v := .agg (rowCells (pairs2 g))) ?_ (results_cell_row Tryz.results302 _ _ w.heap.size 338 (rowCells (pairs2 g)) (0, 0) _ rfl ?_ Tryz.underlying338 rfl (by rw [rowCells_size]; kernel_rfl)) ⟨rfl, hc1.trans2 (zcg _ _ _) (by simp <;> omega)⟩
    · rw [zab, if_neg (by omega)]; exact hd
    · rw [heap_putObj, if_neg (by omega), zab, if_pos rfl, h1]
      simp only [Option.map_some, zak]
      rw [laid_whole _ _ (by rw [rowCells_size, rowCells_size])]
theorem row_any (h : BitVec 64) (w : World) :
    Calls Tryz.prog 259 #[I 2, U h] w fun e w' => ∃ v, e = .returned (.tuple #[v, I 0]) ∧ w'.ownsRow w.heap.size 3 1 v 2 [I (g0 h), I (1 - g0 h : Nat)] ∧ Ch [] w w' := by
  have hg := g0_lt h
  have A1 := fun w => of_any h w
  have hr : (rowCells (pairs2 (g0 h))).extract 0 2 = #[I (g0 h), I (1 - g0 h : Nat)] := by
    unfold g0; split <;> kernel_rfl
  have hr1 := rowCells_size (pairs2 (g0 h))
  have hr2 := rowCells_one (pairs2 (g0 h))
  generalize g0 h = g at *
  generalize rowCells (pairs2 g) = r at *
  go_enter Tryz.func259, Tryz.ntmps259
  go_wp2_with (first
    | (go_at_call 301; refine (pcheck2 _).mono ?_; rintro e w' ⟨rfl, rfl⟩)
    | (go_at_call 302; refine (A1 _).mono ?_; rintro e w1 ⟨rfl, hc1⟩))
  have hlay : (World.onObj (w1.alloc (.cells (rowCells []) 338)) w1.heap.size (laidAt 0 r)).heap[w1.heap.size]? = some (.cells r 338 (0, 0)) := by
    rw [zab, if_pos rfl, zac, if_pos rfl]
    simp only [Option.map_some, zak]
    rw [laid_whole _ _ (by rw [rowCells_size, hr1])]
  have hC2 : Ch [] w (World.onObj (w1.alloc (.cells (rowCells []) 338)) w1.heap.size (laidAt 0 r)) := (hc1.alloc _).onObj (.inr hc1.size) _
  obtain ⟨w2, hw2⟩ : ∃ w2, World.onObj (w1.alloc (.cells (rowCells []) 338)) w1.heap.size (laidAt 0 r) = w2 := ⟨_, rfl⟩
  rw [hw2] at hlay hC2 ⊢
  clear hw2 hr1 hr2
  refine (clone_int w1.heap.size 0 2 64 [(g : Int), (1 - g : Nat)] w2 (by simp) (by omega) ?_).mono ?_
  · intro j hj
    have e : r[j]? = some (.int .i64 ([(g : Int), ((1 - g : Nat) : Int)].getD j 0)) := by
      have h2 : (r.extract 0 2)[j]? = some (.int .i64 ([(g : Int), ((1 - g : Nat) : Int)].getD j 0)) := by
        rw [hr]
        match j, hj with
        | 0, _ => rfl
        | 1, _ => rfl
      rw [Array.getElem?_extract] at h2
      split at h2
      · simpa using h2
      · cases h2
    rw [zaw, hlay, Nat.zero_add]
    exact e
  rintro e w3 ⟨v, rfl, hown, hnn, hbel⟩
  clear A1
  go_wp2
  go_ret2
  exact ⟨v, rfl, own_mono hown hC2.size, hC2.trans (Ch.of_below hbel)⟩
end Go.Proofs.Hc
namespace Go.Proofs.Hc
open Go.RowKit
def MetAt (w : World) (bm n : Nat) (f : BitVec 64 → Int) : Prop :=
  ∃ D : DataW Unit, w.ownsMap Tryz.prog 22 (plainElem Tryz.prog 3) bm n D ∧ ∀ k : BitVec 64, D.atKey (.int .u64 (N k)) (.lit (.int .i64 0)) = .lit (.int .i64 (f k))
theorem keyLaw : Go.Maps.Keyed Tryz.prog 22 := Go.Maps.int_keyed Tryz.underlying22
theorem wf_u64 (k : BitVec 64) : (Lit.int .u64 (N k)).wf = true := by
  have h := k.isLt
  have h2 : (IntKind.u64.max : Int) = 18446744073709551615 := by decide
  have h3 : (IntKind.u64.min : Int) = 0 := by decide
  simp [Lit.wf, N, h2, h3]; omega
theorem zeroInt (w : World) : (zeroValue 3).run Tryz.prog w = .ok (.int .i64 0) w := by kernel_rfl
theorem met_made (w : World) : MetAt (w.alloc (.map #[] 0)) w.heap.size 0 fun _ => 0 :=
  ⟨.map [], World.ownsMap_made _ _ _ _, fun _ => rfl⟩
theorem met_look {w : World} {bm n : Nat} {f : BitVec 64 → Int} (h : MetAt w bm n f) (k : BitVec 64) :
    (Instr.lookup 252 (.map (some bm)) (U k) false).run Tryz.prog w = .ok (I (f k)) w := by
  obtain ⟨D, ho, hf⟩ := h
  obtain ⟨c, hr, hc, _⟩ := ho.lookup_int keyLaw Tryz.underlying252 Tryz.underlying3 (zeroInt _) (Go.Maps.keyOf_int_mk Tryz.underlying22 (wf_u64 k))
  rw [hf k] at hc
  have : f k = c := by simpa using hc
  rw [this]; exact hr
theorem met_put {w : World} {bm n : Nat} {f : BitVec 64 → Int} (h : MetAt w bm n f) (hn : n < 1000) (k : BitVec 64) (x : Int) (hx : (Lit.int .i64 x).wf = true) :
    ∃ w', (Instr.mapUpdate 252 (.map (some bm)) (U k) (I x)).run Tryz.prog w = .ok () w' ∧ MetAt w' bm (n + 1) (fun j => if j = k then x else f j) ∧ Ch [bm] w w' ∧ w'.heap.size = w.heap.size := by
  obtain ⟨D, ho, hf⟩ := h
  have hm : Go.Maps.IsMap D := ⟨_, ho.choose_spec.choose_spec.2.2.2⟩
  obtain ⟨es, clock, hb, F, hs, hD⟩ := ho
  obtain ⟨es', clock', hrun, F', hput, _⟩ := Go.Maps.fit_store (R' := plainElem Tryz.prog 3) keyLaw Tryz.underlying252 hb F (Nat.lt_of_le_of_lt hs (by unfold maxLen; omega)) (fun _ _ _ _ hz => hz) (Go.Maps.keyOf_int_mk Tryz.underlying22 (wf_u64 k)) (plainElem_int (H := Unit) Tryz.underlying3 hx)
  obtain ⟨w', hr, ho', hg⟩ := World.ownsMap.update ⟨es, clock, hb, F, hs, hD⟩ keyLaw Tryz.underlying252 (by unfold maxLen; omega) (Go.Maps.keyOf_int_mk Tryz.underlying22 (wf_u64 k)) (plainElem_int (H := Unit) Tryz.underlying3 hx)
  refine ⟨w', hr, ⟨_, ho', fun j => ?_⟩, Ch.of_grown hg (fun b hb => by simpa using hb.symm), ?_⟩
  · show _ = DataW.lit (Lit.int .i64 (if j = k then x else f j))
    by_cases hj : j = k
    · subst hj
      rw [if_pos rfl]
      exact Go.Maps.atKey_put_same hm (Go.Maps.Keyed.key keyLaw (Go.Maps.keyOf_int_mk Tryz.underlying22 (wf_u64 j))) _ _
    · have hne : Lit.int .u64 (N j) ≠ Lit.int .u64 (N k) := fun e => hj ((N_inj _ _).1 (by simpa using e))
      rw [if_neg hj, Go.Maps.atKey_put_other hne]
      exact hf j
  · have h1 := hrun.symm.trans hr
    have h2 : w' = _ := (Result.ok.inj h1).2.symm
    rw [h2]; simp [Go.ChangeMaps.setBlock]
theorem met_ch {w w' : World} {bm n : Nat} {f : BitVec 64 → Int} {S : List Nat} (h : MetAt w bm n f) (c : Ch S w w') (hS : bm ∉ S) : MetAt w' bm n f := by
  obtain ⟨D, ⟨es, clock, hb, r⟩, hf⟩ := h
  exact ⟨D, ⟨es, clock, (c.block bm (Array.getElem?_eq_some_iff.1 hb).1 hS).trans hb, r⟩, hf⟩
end Go.Proofs.Hc
namespace Go.Proofs.Hc
open Go.RowKit
structure LayT where
  ph : Int
  who : Int
  sl : Int
  seed : BitVec 64
  count : BitVec 64
  at_ : Int
  ws : Nat → BitVec 64
  bad : Bool
def zeroLay : LayT := ⟨0, 0, 0, 0#64, 0#64, 0, fun _ => 0#64, false⟩
def updW (ws : Nat → BitVec 64) (j : Nat) (x : BitVec 64) : Nat → BitVec 64 := fun i => if i = j then x else ws i
end Go.Proofs.Hc
namespace Go.Proofs.Hc
open Go.RowKit
attribute [local go_sem] zbv zcb zba zbf zbr zbd zbq zbs zbx signed64 signed8 zap BitVec.ofInt_add BitVec.ofInt_mul ofInt_sub' zbb zbc wide8 eqN neN zca shr1 shr7 shr56
attribute [local go_sem high] zbe zbw
attribute [local go_sem] shr8 zap
theorem ofInt8_mod (x : BitVec 64) : BitVec.ofInt 8 (N x % 256) = x.setWidth 8 := by
  unfold N
  apply BitVec.eq_of_toNat_eq
  rw [BitVec.toNat_ofInt, BitVec.toNat_setWidth]
  omega
theorem tdiv256 (x : BitVec 64) : (N x).tdiv 256 = N (x >>> 8) := by rw [Int.tdiv_eq_ediv_of_nonneg (N_nonneg x), shr8]
theorem tmod256 (x : BitVec 64) : (N x).tmod 256 = N x % 256 := by rw [Int.tmod_eq_emod_of_nonneg (N_nonneg x)]
attribute [local go_sem high] ofInt8_mod tdiv256 tmod256
theorem rAt_any (x : BitVec 64) (n : Nat) (hn : n ≤ 64) (w : World) : Calls Tryz.prog 88 #[U x, I n] w fun e w' => e = .returned (Y (byteAt x n)) ∧ w = w' := by
  go_enter Tryz.func88, Tryz.ntmps88
  go_wp2
  go_loop [0, 6] (fun v i => ∃ j : Nat, j ≤ n ∧ i = .int .i64 j ∧ v = U (x >>> (8 * j))) (fun _ i => n - (intOf i).toNat)
  case atStart => exact ⟨0, Nat.zero_le _, rfl, by rw [Nat.mul_zero, BitVec.ushiftRight_zero]⟩
  case round =>
    obtain ⟨j, hj, rfl, rfl⟩ := hrel
    have h0 := N_nonneg (x >>> (8 * j))
    by_cases hlt : j < n
    · have hs : x >>> (8 * j) >>> 8 = x >>> (8 * (j + 1)) := by rw [← BitVec.shiftRight_add, Nat.mul_succ]
      have HS := Lib.hid hs
      clear hs
      go_wp2
      go_round
      case rel => exact ⟨j + 1, by omega, by go_num, by rw [HS.out]⟩
      case measure => simp [intOf]; omega
    · have hjn : j = n := by omega
      have HJ := Lib.hid hjn
      clear hjn
      go_wp2
      go_ret
      refine ⟨?_, rfl⟩
      rw [← HJ.out]; rfl
end Go.Proofs.Hc
namespace Go.Proofs.Hc
open Go.RowKit
theorem own_form {W : World} {base n size : Nat} {e : TypeId} {v : Value} {xs : List Value} (h : W.ownsRow base e size v n xs) : ∃ a c, v = .slice a n c := by
  obtain ⟨_, ⟨rfl, h0⟩ | ⟨g, cap, cur, hv, _⟩⟩ := h
  · exact ⟨none, 0, by rw [h0]⟩
  · exact ⟨_, _, hv⟩
end Go.Proofs.Hc
namespace Go.Proofs.Hc
open Go.RowKit
attribute [local go_sem] zbv zcb zba zbf zbr zbd zbq zbs zbx signed64 signed8 zap BitVec.ofInt_add BitVec.ofInt_mul ofInt_sub' zbb zbc wide8 eqN neN zca shr1 shr7 shr56
attribute [local go_sem high] zbe zbw
attribute [local go_sem] zaw zby zaj zas zae zay zar zak zbn zam zax zaz
attribute [local go_sem] load26 load73 load23 store26 build73
attribute [local go_sem ↓] lrow26 lrow73 lrow23 srow26 zero26 brow73 zac zbk zbg zaa zab
attribute [local go_sem] zai zav zau zbj zbl zbo zaq zat zbp zbi zbh
attribute [local go_sem] nn2 nm2 nn3 nm3 nn4 nm4 nn5 nm5 nn6 nm6 nn7 nm7 nn8 nm8
section
attribute [local go_sem] zap
def bytesOf (x : BitVec 64) : List (BitVec 8) := (List.range 8).map (byteAt x)
def ycells (l : List (BitVec 8)) : List Value := l.map fun b => Y b
theorem infoY : (Tryz.prog.info? 5).map (fun i => (i.zero, i.size, i.bytes)) = some (some (.int .u8 0), 1, 1) := by kernel_rfl
theorem ycells_range (x : BitVec 64) (j : Nat) : ycells ((List.range (j + 1)).map (byteAt x)) = ycells ((List.range j).map (byteAt x)) ++ [Y (byteAt x j)] := by
  unfold ycells; rw [List.range_succ, List.map_append, List.map_append]; rfl
theorem rBytes_any (x : BitVec 64) (w : World) : Calls Tryz.prog 147 #[U x] w fun e w' => ∃ a c, e = .returned (.slice a 8 c) ∧ w'.ownsRow w.heap.size 5 1 (.slice a 8 c) 8 (ycells (bytesOf x)) ∧ Ch [] w w' := by
  obtain ⟨i0, hi, hz0, hz1, hz2⟩ := info_parts infoY
  go_enter Tryz.func147, Tryz.ntmps147
  go_wp2
  go_loopw [3, 5] (fun v i wr => ∃ j : Nat, i = .int .i64 j ∧ j ≤ 8 ∧ wr.ownsRow w.heap.size 5 1 v j (ycells ((List.range j).map (byteAt x))) ∧ Ch [] w wr) (fun _ i _ => 8 - (intOf i).toNat)
  case atStart => exact ⟨0, rfl, by omega, World.ownsRow_nil _ _ _ _, Ch.refl _ _⟩
  case round =>
    obtain ⟨j, hj, hj8, hown, hcr⟩ := hrel
    subst hj
    have hz := hcr.size
    by_cases hlt : j < 8
    · have A1 := fun w => rAt_any x j (by omega) w
      have HS := Lib.hid (ycells_range x j)
      have hob := own_block hown
      generalize ycells ((List.range j).map (byteAt x)) = ys at *
      go_wp2_with (first
        | (go_at_call 88; refine (A1 _).mono ?_; rintro e w' ⟨rfl, rfl⟩)
        | (at_builtin; refine wpList_append_own _ rfl _ _ 228 rfl w.heap.size 5 i0 (.int .u8 0) 1 1 Tryz.underlying228 hi hz0 hz1 hz2 rfl (by decide) _ _ _ rfl (hown.alloc _) ⟨wr.heap.size, 0, none⟩ 1 1 [Y (byteAt x j)] rfl rfl (cell_one_new _ _ _) (by simp [Value.oneCell']) (by unfold maxLen; omega) (by omega) (by simp; omega) ?_; intro v' w1 hown' hgrow _; have HO := Lib.hid hown'; have HG := Lib.hid hgrow; clear hown' hgrow))
      have hgr : (wr.alloc (.cells #[Y (byteAt x j)] 5)).grownBy w1 u3.ownBlock := HG.out
      have hW1 : Ch (u3.ownBlock.toList) wr w1 := (((Ch.refl [] wr).alloc (.cells #[Y (byteAt x j)] 5)).of_nil).trans2 (Ch.of_grown (S := u3.ownBlock.toList) hgr (fun k hk => by simp [hk])) (fun t ht => .inl ht)
      have hSS : ∀ s ∈ u3.ownBlock.toList, w.heap.size ≤ s := fun s hs => hob s (by simpa using hs)
      go_roundw
      case rel => exact ⟨j + 1, by go_num, hlt, by rw [HS.out]; exact HO.out, hcr.trans2 hW1 (fun t ht => .inr (hSS t ht))⟩
      case measure => simp [intOf]; omega
    · have hj8 : j = 8 := by omega
      subst hj8
      have HO := Lib.hid hown
      obtain ⟨a, c, rfl⟩ := own_form hown
      clear hown
      go_wp2
      go_ret
      exact ⟨a, c, rfl, HO.out, hcr⟩
end
section
attribute [local go_sem] zap
def accB (l : List (BitVec 8)) : BitVec 64 := l.foldr (fun b y => 256#64 * y + b.setWidth 64) 0#64
theorem acc_zero (y : BitVec 64) (b : BitVec 8) : byteAt (256#64 * y + b.setWidth 64) 0 = b := by
  apply BitVec.eq_of_toNat_eq
  rw [byteAt_nat, BitVec.toNat_add, BitVec.toNat_mul, BitVec.toNat_setWidth, BitVec.toNat_ofNat]
  have := b.isLt
  have := y.isLt
  omega
theorem acc_succ (y : BitVec 64) (b : BitVec 8) : ∀ n, n < 7 → byteAt (256#64 * y + b.setWidth 64) (n + 1) = byteAt y n := by
  intro n hn
  apply BitVec.eq_of_toNat_eq
  rw [byteAt_nat, byteAt_nat, BitVec.toNat_add, BitVec.toNat_mul, BitVec.toNat_setWidth, BitVec.toNat_ofNat]
  have hb := b.isLt
  have hy := y.isLt
  generalize b.toNat = b at *
  generalize y.toNat = y at *
  match n, hn with
  | 0, _ => omega
  | 1, _ => omega
  | 2, _ => omega
  | 3, _ => omega
  | 4, _ => omega
  | 5, _ => omega
  | 6, _ => omega
theorem acc_byte : ∀ (l : List (BitVec 8)) (n : Nat), n < 8 → byteAt (accB l) n = (l[n]?).getD 0#8
  | [], n, hn => by
    have e : accB [] = 0#64 := rfl
    rw [e]
    apply BitVec.eq_of_toNat_eq
    rw [byteAt_nat]; simp
  | b :: l, 0, _ => acc_zero (accB l) b
  | b :: l, n + 1, hn => by
    have e : accB (b :: l) = 256#64 * accB l + b.setWidth 64 := rfl
    rw [e, acc_succ _ _ _ (by omega), acc_byte l n (by omega)]
    simp
theorem bytesOf_len (x : BitVec 64) : (bytesOf x).length = 8 := by simp [bytesOf]
theorem bytesOf_get (x : BitVec 64) (n : Nat) (h : n < 8) : (bytesOf x)[n]? = some (byteAt x n) := by
  unfold bytesOf
  rw [List.getElem?_map, List.getElem?_range h]; rfl
theorem acc_put (x : BitVec 64) (n : Nat) (hn : n < 8) (b : BitVec 8) : accB ((bytesOf x).set n b) = withB x n b := by
  apply ext_bytes
  intro m hm
  rw [acc_byte _ m hm, byteAt_withB x n m b hn hm, List.getElem?_set]
  by_cases h : n = m
  · subst h
    rw [if_pos rfl, if_pos rfl, if_pos (by rw [bytesOf_len]; exact hn)]; rfl
  · rw [if_neg h, if_neg (fun e => h e.symm), bytesOf_get x m hm]; rfl
theorem acc_drop {l : List (BitVec 8)} {k : Nat} {b : BitVec 8} (h : l[k]? = some b) : accB (l.drop k) = 256#64 * accB (l.drop (k + 1)) + b.setWidth 64 := by
  have hk := (List.getElem?_eq_some_iff.1 h).1
  have e : l.drop k = b :: l.drop (k + 1) := by
    rw [List.drop_eq_getElem_cons hk]
    have := (List.getElem?_eq_some_iff.1 h).2
    rw [this]
  rw [e]; rfl
theorem rOf_any (l : List (BitVec 8)) (hl : l.length ≤ 8) (g c : Nat) (cur : Array Value) (w : World) (hW : w.heap[g]? = some (.cells cur 5 (0, 0))) (hcur : ∀ (j : Nat) (b : BitVec 8), l[j]? = some b → cur[j]? = some (Y b)) :
    Calls Tryz.prog 156 #[.slice (some ⟨g, 0, none⟩) l.length c] w fun e w' => e = .returned (U (accB l)) ∧ w = w' := by
  have HC := Lib.hid hcur
  clear hcur
  go_enter Tryz.func156, Tryz.ntmps156
  go_wp2
  go_loop [3, 4] (fun v i => ∃ (j : Nat) (x : Int), j ≤ l.length ∧ x + 1 = j ∧ i = .int .i64 x ∧ v = U (accB (l.drop j))) (fun _ i => (intOf i + 1).toNat)
  case atStart => exact ⟨l.length, _, Nat.le_refl _, by omega, rfl, by rw [List.drop_length]; rfl⟩
  case round =>
    obtain ⟨j, x, hj, hx, rfl, rfl⟩ := hrel
    cases j with
    | zero =>
      obtain rfl : x = -1 := by omega
      go_wp2
      go_ret
      exact ⟨rfl, rfl⟩
    | succ k =>
      obtain rfl : x = (k : Int) := by omega
      have hlt : k < l.length := by omega
      have hk8 : k < 8 := by omega
      obtain ⟨b, hb⟩ : ∃ b, l[k]? = some b := ⟨l[k]'hlt, List.getElem?_eq_getElem hlt⟩
      have hc := HC.out k b hb
      have HD := Lib.hid (acc_drop hb)
      clear hb hx
      go_wp2
      go_round
      case rel => exact ⟨k, _, by omega, by omega, rfl, by rw [HD.out]⟩
      case measure => simp [intOf]
end
end Go.Proofs.Hc
namespace Go.Proofs.Hc
open Go.RowKit
theorem zdd {w : World} {r b : Nat} {c d : Array Value} {T T' : TypeId} {fr fr' : Nat × Nat} (h1 : w.heap[r]? = some (.cells c T fr)) (h2 : w.heap[b]? = some (.cells d T' fr')) (hT : T ≠ T') : r ≠ b := by
  intro he
  subst he
  rw [h1] at h2
  have := Option.some.inj h2
  injection this with _ h3
  exact hT h3
theorem zan {w : World} {F b : Nat} (f : Obj → Obj) (h : ¬ b = F) : (World.onObj w F f).heap[b]? = w.heap[b]? := by rw [zab, if_neg h]
theorem setCell_other {w : World} {b : Nat} (p o : Nat) (v : Value) (h : b ≠ p) : (w.setCell ⟨p, o, none⟩ v).heap[b]? = w.heap[b]? := by rw [zaa, if_neg h]
theorem zad {w : World} {b : Nat} {o : Obj} (h : w.heap[b]? = some o) : b < w.heap.size := (Array.getElem?_eq_some_iff.1 h).1
end Go.Proofs.Hc
namespace Go.Proofs.Hc
open Go.RowKit
def LayT.cell (p : LayT) : Nat → Value
  | 0 => I p.ph
  | 1 => I p.who
  | 2 => I p.sl
  | 3 => U p.seed
  | 4 => U p.count
  | 5 => I p.at_
  | i + 6 => if i < 40 then U (p.ws i) else .bool p.bad
def layC (p : LayT) : Array Value := Array.ofFn (n := 47) fun i => p.cell i.1
def wsC (ws : Nat → BitVec 64) : Array Value := Array.ofFn (n := 40) fun i => U (ws i.1)
theorem layC_size (p : LayT) : (layC p).size = 47 := by simp [layC]
theorem layC_get (p : LayT) (i : Nat) : (layC p)[i]? = if i < 47 then some (p.cell i) else none := by
  unfold layC; rw [Array.getElem?_ofFn]; simp
theorem layCell_one (p : LayT) (i : Nat) : (p.cell i).oneCell' = true := by
  unfold LayT.cell; split <;> try rfl
  split <;> rfl
theorem layC_one (p : LayT) : allOne (layC p) = true := by
  unfold allOne
  simp only [layC, Array.all_eq_true_iff_forall_mem, Array.mem_ofFn]; rintro v ⟨i, rfl⟩; exact layCell_one ..
theorem layC_all (p : LayT) : (layC p).extract 0 47 = layC p := by
  have := Array.extract_size (xs := layC p); rwa [layC_size] at this
theorem wsC_get (ws : Nat → BitVec 64) (i : Nat) : (wsC ws)[i]? = if i < 40 then some (U (ws i)) else none := by
  unfold wsC; rw [Array.getElem?_ofFn]; simp
theorem layC_ws (p : LayT) : (layC p).extract 6 46 = wsC p.ws := by
  apply Array.ext_getElem?; intro i
  rw [Array.getElem?_extract, layC_get, wsC_get, layC_size]
  by_cases h : i < 40
  · rw [if_pos (by omega), if_pos (by omega), if_pos h, Nat.add_comm]
    simp [LayT.cell, h]
  · rw [if_neg (by omega), if_neg h]
theorem lay_g0 (p : LayT) : (layC p)[0]? = some (I p.ph) := by rw [layC_get]; rfl
theorem lay_g1 (p : LayT) : (layC p)[1]? = some (I p.who) := by rw [layC_get]; rfl
theorem lay_g2 (p : LayT) : (layC p)[2]? = some (I p.sl) := by rw [layC_get]; rfl
theorem lay_g3 (p : LayT) : (layC p)[3]? = some (U p.seed) := by rw [layC_get]; rfl
theorem lay_g4 (p : LayT) : (layC p)[4]? = some (U p.count) := by rw [layC_get]; rfl
theorem lay_g5 (p : LayT) : (layC p)[5]? = some (I p.at_) := by rw [layC_get]; rfl
theorem lay_g46 (p : LayT) : (layC p)[46]? = some (.bool p.bad) := by rw [layC_get]; rfl
theorem layC_idx (p : LayT) (i : Nat) (h : i < (layC p).size) : (layC p)[i] = p.cell i := by simp [layC]
theorem lcell0 (p : LayT) : p.cell 0 = I p.ph := rfl
theorem lcell1 (p : LayT) : p.cell 1 = I p.who := rfl
theorem lcell2 (p : LayT) : p.cell 2 = I p.sl := rfl
theorem lcell3 (p : LayT) : p.cell 3 = U p.seed := rfl
theorem lcell4 (p : LayT) : p.cell 4 = U p.count := rfl
theorem lcell5 (p : LayT) : p.cell 5 = I p.at_ := rfl
theorem lcell46 (p : LayT) : p.cell 46 = .bool p.bad := rfl
theorem lset {p p' : LayT} {j : Nat} {x : Value} (hj : j < 47) (hx : p'.cell j = x) (ho : ∀ i, i < 47 → i ≠ j → p'.cell i = p.cell i) :
    (layC p).setIfInBounds j x = layC p' := by
  apply Array.ext_getElem?; intro i
  rw [Array.getElem?_setIfInBounds, layC_get, layC_get, layC_size]
  by_cases h : j = i
  · subst h; simp [hj, hx]
  · rw [if_neg h]
    by_cases h2 : i < 47
    · simp only [h2, if_true]; rw [ho i h2 (fun e => h e.symm)]
    · simp [h2]
theorem lay_s0 (p : LayT) (x : Int) : (layC p).setIfInBounds 0 (I x) = layC { p with ph := x } :=
  lset (by omega) rfl (fun i _ h => by unfold LayT.cell; split <;> first | rfl | omega)
theorem lay_s4 (p : LayT) (x : BitVec 64) : (layC p).setIfInBounds 4 (U x) = layC { p with count := x } :=
  lset (by omega) rfl (fun i _ h => by unfold LayT.cell; split <;> first | rfl | omega)
theorem lay_s5 (p : LayT) (x : Int) : (layC p).setIfInBounds 5 (I x) = layC { p with at_ := x } :=
  lset (by omega) rfl (fun i _ h => by unfold LayT.cell; split <;> first | rfl | omega)
theorem lay_s46 (p : LayT) (x : Bool) : (layC p).setIfInBounds 46 (.bool x) = layC { p with bad := x } := by
  refine lset (by omega) rfl (fun i hi h => ?_)
  unfold LayT.cell
  split <;> first | rfl | skip
  rename_i i
  rw [if_pos (by omega), if_pos (by omega)]
theorem boxLay (p : LayT) (w : World) : (Instr.box 72 (.agg (layC p))).run Tryz.prog w = .ok (.pointer (some ⟨w.heap.size, 0, none⟩)) (w.alloc (.cells (layC p) 72)) := rfl
theorem loadLay (g o : Nat) (w : World) : (loadRow 72 ⟨g, o, none⟩).run Tryz.prog w = rowRes Tryz.prog 72 g o w ((w.heap[g]?).bind (rowAt o 47)) :=
  run_row Tryz.underlying72 rfl (by kernel_rfl) g o w
theorem storeLay (g o : Nat) (vs : Array Value) (w : World) : (storeRow 72 ⟨g, o, none⟩ (.agg vs)).run Tryz.prog w = layRes Tryz.prog 72 g o vs w (((w.heap[g]?).map (canLay o 47 vs)).getD false) :=
  run_lay (by kernel_rfl) g o vs w
theorem lrowLay (a : Addr) : loadVar 72 a = loadRow 72 a := rfl
theorem srowLay (a : Addr) (v : Value) : storeVar 72 a v = storeRow 72 a v := rfl
theorem browLay (ps : Array (Nat × Value)) : Instr.build 72 ps = buildRow 72 ps := rfl
theorem brow_lay (ps : Array (Nat × Value)) : Instr.build 163 ps = buildRow 163 ps := rfl
theorem build_lay (p : LayT) (w : World) : (buildRow 163 #[(0, .agg (layC p))]).run Tryz.prog w = .ok (.agg (layC p)) w := by kernel_rfl
theorem box_lay (p : LayT) (w : World) : (Instr.box 163 (.agg (layC p))).run Tryz.prog w = .ok (.pointer (some ⟨w.heap.size, 0, none⟩)) (w.alloc (.cells (layC p) 163)) := rfl
theorem zeroLay_run (w : World) : (zeroValue 72).run Tryz.prog w = .ok (.agg (layC zeroLay)) w := by kernel_rfl
theorem laidAt_lay (p q : LayT) (T : TypeId) (fr : Nat × Nat) : laidAt 0 (layC q) (.cells (layC p) T fr) = .cells (layC q) T fr := by
  rw [zak, laid_whole _ _ (by rw [layC_size, layC_size])]
theorem buildLay0 (w : World) : (buildRow 72 #[]).run Tryz.prog w = .ok (.agg (layC zeroLay)) w := by kernel_rfl
def firstL (who sl : Int) (seed : BitVec 64) : LayT := ⟨0, who, sl, seed, 0#64, 0, fun _ => 0#64, false⟩
theorem buildLay3 (who sl : Int) (seed : BitVec 64) (w : World) : (buildRow 72 #[(1, I who), (2, I sl), (3, U seed)]).run Tryz.prog w = .ok (.agg (layC (firstL who sl seed))) w := by kernel_rfl
theorem buildLay2 (sl : Int) (seed : BitVec 64) (w : World) : (buildRow 72 #[(2, I sl), (3, U seed)]).run Tryz.prog w = .ok (.agg (layC (firstL 0 sl seed))) w := by kernel_rfl
end Go.Proofs.Hc
namespace Go.Proofs.Hc
open Go.RowKit
theorem bool_under : Tryz.prog.underlying 4 = some .bool := by kernel_rfl
end Go.Proofs.Hc
namespace Go.Proofs.Hc
open Go.RowKit
attribute [local go_sem] zbv zcb zba zbf zbr zbd zbq zbs zbx signed64 signed8 zap BitVec.ofInt_add BitVec.ofInt_mul ofInt_sub' zbb zbc wide8 eqN neN zca shr1 shr7 shr56
attribute [local go_sem high] zbe zbw
attribute [local go_sem] zaw zby zaj zas zae zay zar zak zbn zam zax zaz
attribute [local go_sem] load26 load73 load23 store26 build73
attribute [local go_sem ↓] lrow26 lrow73 lrow23 srow26 zero26 brow73 zac zbk zbg zaa zab
attribute [local go_sem] zai zav zau zbj zbl zbo zaq zat zbp zbi zbh
attribute [local go_sem] nn2 nm2 nn3 nm3 nn4 nm4 nn5 nm5 nn6 nm6 nn7 nm7 nn8 nm8
theorem load2i (g o : Nat) (w : World) : (loadRow 45 ⟨g, o, none⟩).run Tryz.prog w = rowRes Tryz.prog 45 g o w ((w.heap[g]?).bind (rowAt o 2)) :=
  run_row Tryz.underlying45 rfl (by kernel_rfl) g o w
theorem lrow2i (a : Addr) : loadVar 45 a = loadRow 45 a := rfl
end Go.Proofs.Hc
