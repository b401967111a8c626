/- Package probe: the row of two groups. -/
import Derived.Test.YtcikopeddljgkaaGreatKHop
import Derived.Lib.Tables
import Derived.RangeFuncBox
import Derived.WalkLawsBesides
import Derived.WalkSpells
import Derived.Shelf.Slices.Clone
import Derived.Deep.Light
import Derived.Deep.RegionHeld
import Derived.Lib.AppendZerosOnto
import Derived.StillTailTactics
import Derived.Deep.OwnRows
import Derived.Laws.CopyOwn
set_option linter.unusedSimpArgs false
set_option linter.unusedVariables false
set_option maxRecDepth 100000
namespace Go.Proofs.Hc
open Go.RowKit
attribute [local go_sem] zbr zby zau zba zbl zay zbk zbm zbu signed64 signed8 zas BitVec.ofInt_add BitVec.ofInt_mul ofInt_sub' zaw zax wide8 eqN neN zbx shr1 shr7 shr56
attribute [local go_sem high] zaz zbt
attribute [local go_sem] nn2 nm2 nn3 nm3 nn4 nm4 nn5 nm5 nn6 nm6 nn7 nm7 nn8 nm8
attribute [local go_sem] Oper.semAt_some zak
attribute [local go_sem] zan zbv zae zal zad zaj
attribute [local go_sem ↓] zab zav zbb zaa
def g0 (h : BitVec 64) : Nat := if h &&& 1#64 = 0#64 then 0 else 1
theorem and_one (h : BitVec 64) : h &&& 1#64 = 0#64 ∨ h &&& 1#64 = 1#64 := by
  have e : (h &&& 1#64).toNat = h.toNat % 2 := by rw [BitVec.toNat_and]; exact Nat.and_one_is_mod _
  rcases Nat.mod_two_eq_zero_or_one h.toNat with h1 | h1
  · exact .inl (BitVec.eq_of_toNat_eq (by rw [e, h1]; rfl))
  · exact .inr (BitVec.eq_of_toNat_eq (by rw [e, h1]; rfl))
theorem g0_lt (h : BitVec 64) : g0 h < 2 := by unfold g0; split <;> omega
theorem pcheck2 (w : World) : Calls Tryz.prog 301 #[I 2] w fun e w' => e = .returned (I 0) ∧ w = w' := by
  go_enter Tryz.func301, Tryz.ntmps301
  go_wp2
  go_ret
  exact ⟨rfl, rfl⟩
theorem first2 (h : BitVec 64) (w : World) : Calls Tryz.prog 319 #[I 2, U h] w fun e w' => e = .returned (I (g0 h)) ∧ w = w' := by
  have h1 : BitVec.ofInt 64 1 = 1#64 := by decide
  go_enter Tryz.func319, Tryz.ntmps319
  rcases and_one h with e | e
  · have hg : g0 h = 0 := by unfold g0; rw [if_pos e]
    rw [hg]
    go_wp2
    go_ret
    exact ⟨by kernel_rfl, rfl⟩
  · have hg : g0 h = 1 := by unfold g0; rw [if_neg (by rw [e]; decide)]
    rw [hg]
    go_wp2
    go_ret
    exact ⟨by kernel_rfl, rfl⟩
theorem all_any2 (h : BitVec 64) (w : World) :
    Calls Tryz.prog 316 #[I 2, U h] w fun e w' => e = .returned (.func (.func 320) #[] #[.pointer (some ⟨w.heap.size, 0, none⟩), .pointer (some ⟨w.heap.size + 1, 0, none⟩)]) ∧
      w' = (w.alloc (.cells #[I 2] 3)).alloc (.cells #[U h] 22) := by
  go_enter Tryz.func316, Tryz.ntmps316
  go_wp2
  go_ret
  exact ⟨rfl, rfl⟩
theorem enters_all (args : Array Value) (w : World) : (callFunc 320 args).run Tryz.prog w = .ok (.enter 320 args) w := by kernel_rfl
def pairs2 (g : Nat) : List (Nat × Nat) := [(0, g), (1, 1 - g)]
theorem bits11 : bits .and .i64 1 1 = 1 := by kernel_rfl
theorem bits21 : bits .and .i64 2 1 = 0 := by kernel_rfl
theorem bits31 : bits .and .i64 3 1 = 1 := by kernel_rfl
attribute [local go_sem] bits11 bits21 bits31
theorem all_yields (h : BitVec 64) (b c : Nat) (w : World) (hb : w.heap[b]? = some (.cells #[I 2] 3 (0, 0))) (hc : w.heap[c]? = some (.cells #[U h] 22 (0, 0))) :
    Yields Tryz.prog 320 #[.pointer (some ⟨b, 0, none⟩), .pointer (some ⟨c, 0, none⟩)] (fun p : Nat × Nat => #[I p.1, I p.2]) (pairs2 (g0 h)) [] [b, c] w := by
  intro n l J Jx W hW hk hJ hJx hY h0
  have hb' := (hk b (by simp)).trans hb
  have hc' := (hk c (by simp)).trans hc
  have hg := g0_lt h
  have F1 := fun w => first2 h w
  generalize g0 h = g at *
  refine callsIn_of_wp Tryz.func320 rfl trivial ?_
  simp only [Tryz.ntmps320, List.size_toArray, List.length_cons, List.length_nil, Nat.reduceAdd, Nat.reduceSub, Array.replicate_succ, Array.replicate_zero, List.push_toArray, List.append_toArray, List.nil_append, List.cons_append]
  refine wpIn_wide.2 ?_
  apply wp_scope_straight
  refine (wpIn_wide (n := n + 1)).1 ?_
  gi_wp2_with (refine ⟨trivial, ?_⟩; gi_at_call 319; refine (callsIn_wide.2 (F1 _)).mono ?_; rintro e w' ⟨rfl, rfl⟩)
  apply wpIn_label
  gi_wp2
  refine wpIn_loop_rounds 3 ?_
  rw [roundsIn_succ]
  obtain ⟨fn, tmps, assign, body, hy, hR⟩ := hY [] (0, g) [(1, 1 - g)] W rfl h0
  have hy : Sem.run Tryz.prog (Instr.yield l #[.int .i64 0, I g]) W = .ok (.round l fn tmps assign body) W := hy
  gi_wp2
  refine hR.mono ?_
  clear hy hR
  rintro e W3 (⟨rfl, hJ3, hz3, hk3⟩ | ⟨rfl, hJx3⟩)
  · have hb3 := (hk3 b (by simp)).trans hb'
    clear hk3
    obtain ⟨fn2, tmps2, assign2, body2, hy2, hR2⟩ := hY [(0, g)] (1, 1 - g) [] W3 rfl hJ3
    have hy2 : Sem.run Tryz.prog (Instr.yield l #[.int .i64 1, I (1 - g : Nat)]) W3 = .ok (.round l fn2 tmps2 assign2 body2) W3 := hy2
    have hcase : g = 0 ∨ g = 1 := by omega
    rcases hcase with rfl | rfl
    · have hy2 : Sem.run Tryz.prog (Instr.yield l #[.int .i64 1, .int .i64 1]) W3 = .ok (.round l fn2 tmps2 assign2 body2) W3 := hy2
      gi_wp2
      rw [roundsIn_succ]
      gi_wp2
      refine hR2.mono ?_
      clear hy2 hR2
      rintro e W4 (⟨rfl, hJ4, hz4, hk4⟩ | ⟨rfl, hJx4⟩)
      · have hb4 := (hk4 b (by simp)).trans hb3
        clear hk4
        gi_wp2
        rw [roundsIn_succ]
        gi_wp2
        rw [Exit.noGoto_normal]
        refine bodyPost_end (results_none rfl _ _ _) rfl ?_
        exact ⟨⟨_, rfl⟩, .inl hJ4⟩
      · gi_wp2
        rw [Exit.noGoto_normal]
        refine bodyPost_end (results_none rfl _ _ _) rfl ?_
        exact ⟨⟨_, rfl⟩, .inr hJx4⟩
    · have hy2 : Sem.run Tryz.prog (Instr.yield l #[.int .i64 1, .int .i64 0]) W3 = .ok (.round l fn2 tmps2 assign2 body2) W3 := hy2
      gi_wp2
      rw [roundsIn_succ]
      gi_wp2
      refine hR2.mono ?_
      clear hy2 hR2
      rintro e W4 (⟨rfl, hJ4, hz4, hk4⟩ | ⟨rfl, hJx4⟩)
      · have hb4 := (hk4 b (by simp)).trans hb3
        clear hk4
        gi_wp2
        rw [roundsIn_succ]
        gi_wp2
        rw [Exit.noGoto_normal]
        refine bodyPost_end (results_none rfl _ _ _) rfl ?_
        exact ⟨⟨_, rfl⟩, .inl hJ4⟩
      · gi_wp2
        rw [Exit.noGoto_normal]
        refine bodyPost_end (results_none rfl _ _ _) rfl ?_
        exact ⟨⟨_, rfl⟩, .inr hJx4⟩
  · gi_wp2
    rw [Exit.noGoto_normal]
    refine bodyPost_end (results_none rfl _ _ _) rfl ?_
    exact ⟨⟨_, rfl⟩, .inr hJx3⟩
end Go.Proofs.Hc
namespace Go.Proofs
open Go.Shelf
def Tryz.laysClone_ren : Go.Shelf.Ren := ⟨fun | 15 => 303 | n => n, fun | 22 => 154 | 3 => 3 | 4 => 4 | n => n, fun n => n⟩
theorem Tryz.laysClone : Lays2.n15 Tryz.prog Tryz.laysClone_ren := {
  mixed := by kernel_rfl
  f15 := Tryz.func303.trans (congrArg some (by kernel_rfl))
  t3 := Tryz.underlying3
  a3 := Tryz.isAgg3
  z3 := Tryz.sizeOf3
  v3 := Tryz.zeroValue3
  t4 := Tryz.underlying4
  a4 := Tryz.isAgg4
  z4 := Tryz.sizeOf4
  v4 := Tryz.zeroValue4
  t22 := Tryz.underlying154
  a22 := Tryz.isAgg154
  z22 := Tryz.sizeOf154
  v22 := Tryz.zeroValue154
  i3 := by kernel_rfl }
end Go.Proofs
namespace Go.Proofs.Hc
open Go.RowKit
theorem clone_int (b off n c : Nat) (zs : List Int) (w : World) (hz : n ≤ zs.length) (hbig : n * 8 ≤ 140737488355328) (hc : ∀ j, j < zs.length → w.cell? ⟨b, off + j, none⟩ = some (.int .i64 (zs.getD j 0))) :
    Calls Tryz.prog 303 #[.slice (some ⟨b, off, none⟩) n c] w fun e w' => ∃ v', e = .returned v' ∧ w'.ownsRow w.heap.size 3 1 v' n ((zs.take n).map (Value.int .i64)) ∧ v' ≠ .slice none 0 0 ∧ Below w.heap.size w w' :=
  Any.slices_Clone_int Tryz.laysClone b off n c zs w hz hbig hc
end Go.Proofs.Hc
namespace Go.Proofs.Hc
open Go.RowKit
attribute [local go_sem] zbr zby zau zba zbl zay zbk zbm zbu signed64 signed8 zas BitVec.ofInt_add BitVec.ofInt_mul ofInt_sub' zaw zax wide8 eqN neN zbx shr1 shr7 shr56
attribute [local go_sem high] zaz zbt
attribute [local go_sem] nn2 nm2 nn3 nm3 nn4 nm4 nn5 nm5 nn6 nm6 nn7 nm7 nn8 nm8
attribute [local go_sem] Oper.semAt_some zak
attribute [local go_sem] zan zbv zae zal zad zaj
attribute [local go_sem ↓] zab zav zbb zaa
def zero64 : Array Value := Array.replicate 64 (I 0)
def rowCells (pre : List (Nat × Nat)) : Array Value := pre.foldl (fun a p => a.setIfInBounds p.1 (I p.2)) zero64
theorem zero64_size : zero64.size = 64 := by simp [zero64]
theorem rowCells_snoc (pre : List (Nat × Nat)) (x : Nat × Nat) : rowCells (pre ++ [x]) = (rowCells pre).setIfInBounds x.1 (I x.2) := by simp [rowCells]
theorem foldCells_size (pre : List (Nat × Nat)) : ∀ a : Array Value, (pre.foldl (fun a p => a.setIfInBounds p.1 (I p.2)) a).size = a.size := by
  induction pre with
  | nil => intro a; rfl
  | cons x l ih => intro a; simp [List.foldl_cons, ih]
theorem rowCells_size (pre : List (Nat × Nat)) : (rowCells pre).size = 64 := by unfold rowCells; rw [foldCells_size, zero64_size]
theorem allOne_set (a : Array Value) (h : allOne a = true) (j : Nat) (n : Int) : allOne (a.setIfInBounds j (I n)) = true := by
  unfold allOne at *
  rw [Array.all_eq_true_iff_forall_mem] at *
  intro v hv
  rcases Array.mem_or_eq_of_mem_setIfInBounds hv with h1 | h1
  · exact h v h1
  · rw [h1]; rfl
theorem rowCells_one (pre : List (Nat × Nat)) : allOne (rowCells pre) = true := by
  suffices ∀ (pre : List (Nat × Nat)) (a : Array Value), allOne a = true → allOne (pre.foldl (fun a p => a.setIfInBounds p.1 (I p.2)) a) = true from this pre _ (by decide +kernel)
  intro pre
  induction pre with
  | nil => intro a h; exact h
  | cons x l ih => intro a h; exact ih _ (allOne_set a h _ _)
theorem rowCells_all (pre : List (Nat × Nat)) : (rowCells pre).extract 0 64 = rowCells pre := by
  have := Array.extract_size (xs := rowCells pre); rwa [rowCells_size] at this
theorem lrowR (a : Addr) : loadVar 338 a = loadRow 338 a := rfl
theorem srowR (a : Addr) (v : Value) : storeVar 338 a v = storeRow 338 a v := rfl
theorem zeroR_run (w : World) : (zeroValue 338).run Tryz.prog w = .ok (.agg (rowCells [])) w := by kernel_rfl
theorem loadR (g o : Nat) (w : World) : (loadRow 338 ⟨g, o, none⟩).run Tryz.prog w = rowRes Tryz.prog 338 g o w ((w.heap[g]?).bind (rowAt o 64)) :=
  run_row Tryz.underlying338 rfl (by kernel_rfl) g o w
theorem storeR (g o : Nat) (vs : Array Value) (w : World) : (storeRow 338 ⟨g, o, none⟩ (.agg vs)).run Tryz.prog w = layRes Tryz.prog 338 g o vs w (((w.heap[g]?).map (canLay o 64 vs)).getD false) :=
  run_lay (by kernel_rfl) g o vs w
attribute [local go_sem] zbd zao zag zbj zbc zbe loadR storeR rowCells_size rowCells_one rowCells_all
attribute [local go_sem ↓] lrowR srowR zeroR_run zac
theorem of_any (h : BitVec 64) (w : World) :
    Calls Tryz.prog 302 #[I 2, U h] w fun e w' => e = .returned (.agg (rowCells (pairs2 (g0 h)))) ∧ Ch [] w w' := by
  have hg := g0_lt h
  have Y1 := fun b c w hb hc => all_yields h b c w hb hc
  have A1 := fun w => all_any2 h w
  generalize g0 h = g at *
  refine (callsIn_wide (n := 3)).1 ?_
  refine callsIn_of_wp_marks Tryz.func302 rfl trivial ?_
  simp only [Tryz.ntmps302, List.size_toArray, List.length_cons, List.length_nil, Nat.reduceAdd, Nat.reduceSub, Array.replicate_succ, Array.replicate_zero, List.push_toArray, List.append_toArray, List.nil_append, List.cons_append]
  gi_wp2_with (refine ⟨trivial, ?_⟩; gi_at_call 316; refine (callsIn_wide.2 (A1 _)).mono ?_; rintro e w' ⟨rfl, rfl⟩)
  obtain ⟨W0, hW0⟩ : ∃ W0, (((w.alloc (.cells (rowCells []) 338)).alloc (.cells (rowCells []) 338)).alloc (.cells #[I 2] 3)).alloc (.cells #[U h] 22) = W0 := ⟨_, rfl⟩
  have hs0 : W0.heap.size = w.heap.size + 4 := by rw [← hW0]; simp
  have hC0 : Ch [] w W0 := by rw [← hW0]; exact ((((Ch.refl [] w).alloc _).alloc _).alloc _).alloc _
  have b0 : W0.heap[w.heap.size]? = some (.cells (rowCells []) 338 (0, 0)) := by rw [← hW0]; simp [go_sem] <;> omega
  have b1 : W0.heap[w.heap.size + 1]? = some (.cells (rowCells []) 338 (0, 0)) := by rw [← hW0]; simp [go_sem] <;> omega
  have b2 : W0.heap[w.heap.size + 1 + 1]? = some (.cells #[I 2] 3 (0, 0)) := by rw [← hW0]; simp [go_sem] <;> omega
  have b3 : W0.heap[w.heap.size + 1 + 1 + 1]? = some (.cells #[U h] 22 (0, 0)) := by rw [← hW0]; simp [go_sem] <;> omega
  rw [hW0]
  clear hW0
  gi_wp2
  refine range_law (n := 1) (xs := pairs2 g) rfl enters_all (Y1 _ _ W0 b2 b3) (fun _ => rfl) (by simp) (by simp <;> omega)
    (fun pre W => Ch [] w W ∧ W.heap[w.heap.size]? = some (.cells (rowCells []) 338 (0, 0)) ∧ W.heap[w.heap.size + 1]? = some (.cells (rowCells pre) 338 (0, 0)))
    (fun _ _ => False)
    ?hI (fun _ _ _ h _ => h.elim) ⟨hC0, b0, b1⟩ ?a₁ ?assign ?body ?done (fun _ _ h _ => h.elim)
  case hI =>
    rintro pre A B ⟨hc, h1, h2⟩ hAB
    exact ⟨hc.trans2 hAB (by simp <;> omega), (hAB.block _ (Array.getElem?_eq_some_iff.1 h1).1 (by simp <;> omega)).trans h1, (hAB.block _ (Array.getElem?_eq_some_iff.1 h2).1 (by simp <;> omega)).trans h2⟩
  case a₁ => exact fun x => { tmps := #[I 2, U h, undef, undef, .pointer (some ⟨w.heap.size, 0, none⟩), .pointer (some ⟨w.heap.size + 1, 0, none⟩), I x.1, I x.2, I 2, U h, .func (.func 320) #[] #[.pointer (some ⟨w.heap.size + 1 + 1, 0, none⟩), .pointer (some ⟨w.heap.size + 1 + 1 + 1, 0, none⟩)], I x.1, I x.2, undef, undef, undef, undef], defers := [] }
  case assign =>
    intro x W K hK
    gi_wp2
    exact hK
  case body =>
    rintro pre x post W hx ⟨hc, h1, h2⟩ hsz
    have hx1 : x.1 < 64 := by
      have : x ∈ pairs2 g := by rw [hx]; simp
      unfold pairs2 at this
      simp only [List.mem_cons, List.not_mem_nil, or_false] at this
      rcases this with rfl | rfl <;> simp
    clear hx
    gi_wp2
    refine ⟨⟨hc.setCell (p := ⟨w.heap.size + 1, x.1, none⟩) (.inr (by simp)) _, ?_, ?_⟩, by simp [World.setCell], ?_⟩
    · simp only [zaa, h1]; simp
    · simp only [zaa, h2, if_true, Option.map_some, zad, rowCells_snoc]
    · intro b hb
      simp only [zaa]
      have hb' : b ≠ w.heap.size + 1 := by rcases hb with rfl | rfl | hb <;> simp at * <;> omega
      rw [if_neg hb']
  case done =>
    rintro W ⟨hc, h1, h2⟩ hd
    gi_wp2
    have hl := (Array.getElem?_eq_some_iff.1 h1).1
    have hc1 : Ch [] w (World.onObj W w.heap.size (laidAt 0 (rowCells (pairs2 g)))) := hc.onObj (.inr (Nat.le_refl _)) _
    refine marks_ret (v := .agg (rowCells (pairs2 g))) ?_ (results_cell_row Tryz.results302 _ _ w.heap.size 338 (rowCells (pairs2 g)) (0, 0) _ rfl ?_ Tryz.underlying338 rfl (by rw [rowCells_size]; kernel_rfl)) ⟨rfl, hc1.trans2 (zbs _ _ _) (by simp <;> omega)⟩
    · rw [zac, if_neg (by omega)]; exact hd
    · rw [zcr, if_neg (by omega), zac, if_pos rfl, h1]
      simp only [Option.map_some, zag]
      rw [zdf _ _ (by rw [rowCells_size, rowCells_size])]
theorem row_any (h : BitVec 64) (w : World) :
    Calls Tryz.prog 259 #[I 2, U h] w fun e w' => ∃ v, e = .returned (.tuple #[v, I 0]) ∧ w'.ownsRow w.heap.size 3 1 v 2 [I (g0 h), I (1 - g0 h : Nat)] ∧ Ch [] w w' := by
  have hg := g0_lt h
  have A1 := fun w => of_any h w
  have hr : (rowCells (pairs2 (g0 h))).extract 0 2 = #[I (g0 h), I (1 - g0 h : Nat)] := by
    unfold g0; split <;> kernel_rfl
  have hr1 := rowCells_size (pairs2 (g0 h))
  have hr2 := rowCells_one (pairs2 (g0 h))
  generalize g0 h = g at *
  generalize rowCells (pairs2 g) = r at *
  go_enter Tryz.func259, Tryz.ntmps259
  go_wp2_with (first
    | (go_at_call 301; refine (pcheck2 _).mono ?_; rintro e w' ⟨rfl, rfl⟩)
    | (go_at_call 302; refine (A1 _).mono ?_; rintro e w1 ⟨rfl, hc1⟩))
  have hlay : (World.onObj (w1.alloc (.cells (rowCells []) 338)) w1.heap.size (laidAt 0 r)).heap[w1.heap.size]? = some (.cells r 338 (0, 0)) := by
    rw [zac, if_pos rfl, zab, if_pos rfl]
    simp only [Option.map_some, zag]
    rw [zdf _ _ (by rw [rowCells_size, hr1])]
  have hC2 : Ch [] w (World.onObj (w1.alloc (.cells (rowCells []) 338)) w1.heap.size (laidAt 0 r)) := (hc1.alloc _).onObj (.inr hc1.size) _
  obtain ⟨w2, hw2⟩ : ∃ w2, World.onObj (w1.alloc (.cells (rowCells []) 338)) w1.heap.size (laidAt 0 r) = w2 := ⟨_, rfl⟩
  rw [hw2] at hlay hC2 ⊢
  clear hw2 hr1 hr2
  refine (clone_int w1.heap.size 0 2 64 [(g : Int), (1 - g : Nat)] w2 (by simp) (by omega) ?_).mono ?_
  · intro j hj
    have e : r[j]? = some (.int .i64 ([(g : Int), ((1 - g : Nat) : Int)].getD j 0)) := by
      have h2 : (r.extract 0 2)[j]? = some (.int .i64 ([(g : Int), ((1 - g : Nat) : Int)].getD j 0)) := by
        rw [hr]
        match j, hj with
        | 0, _ => rfl
        | 1, _ => rfl
      rw [Array.getElem?_extract] at h2
      split at h2
      · simpa using h2
      · cases h2
    rw [zan, hlay, Nat.zero_add]
    exact e
  rintro e w3 ⟨v, rfl, hown, hnn, hbel⟩
  clear A1
  go_wp2
  go_ret2
  exact ⟨v, rfl, own_mono hown hC2.size, hC2.trans (Ch.of_below hbel)⟩
end Go.Proofs.Hc
namespace Go.Proofs.Hc
open Go.RowKit
structure LayT where
  ph : Int
  who : Int
  sl : Int
  seed : BitVec 64
  count : BitVec 64
  at_ : Int
  ws : Nat → BitVec 64
  bad : Bool
def zeroLay : LayT := ⟨0, 0, 0, 0#64, 0#64, 0, fun _ => 0#64, false⟩
def updW (ws : Nat → BitVec 64) (j : Nat) (x : BitVec 64) : Nat → BitVec 64 := fun i => if i = j then x else ws i
end Go.Proofs.Hc
namespace Go.Proofs.Hc
open Go.RowKit
theorem own_form {W : World} {base n size : Nat} {e : TypeId} {v : Value} {xs : List Value} (h : W.ownsRow base e size v n xs) : ∃ a c, v = .slice a n c := by
  obtain ⟨_, ⟨rfl, h0⟩ | ⟨g, cap, cur, hv, _⟩⟩ := h
  · exact ⟨none, 0, by rw [h0]⟩
  · exact ⟨_, _, hv⟩
end Go.Proofs.Hc
namespace Go.Proofs.Hc
open Go.RowKit
def LayT.cell (p : LayT) : Nat → Value
  | 0 => I p.ph
  | 1 => I p.who
  | 2 => I p.sl
  | 3 => U p.seed
  | 4 => U p.count
  | 5 => I p.at_
  | i + 6 => if i < 40 then U (p.ws i) else .bool p.bad
def layC (p : LayT) : Array Value := Array.ofFn (n := 47) fun i => p.cell i.1
def wsC (ws : Nat → BitVec 64) : Array Value := Array.ofFn (n := 40) fun i => U (ws i.1)
theorem layC_size (p : LayT) : (layC p).size = 47 := by simp [layC]
theorem layC_get (p : LayT) (i : Nat) : (layC p)[i]? = if i < 47 then some (p.cell i) else none := by
  unfold layC; rw [Array.getElem?_ofFn]; simp
theorem layCell_one (p : LayT) (i : Nat) : (p.cell i).oneCell' = true := by
  unfold LayT.cell; split <;> try rfl
  split <;> rfl
theorem layC_one (p : LayT) : allOne (layC p) = true := by
  unfold allOne
  simp only [layC, Array.all_eq_true_iff_forall_mem, Array.mem_ofFn]; rintro v ⟨i, rfl⟩; exact layCell_one ..
theorem layC_all (p : LayT) : (layC p).extract 0 47 = layC p := by
  have := Array.extract_size (xs := layC p); rwa [layC_size] at this
theorem wsC_get (ws : Nat → BitVec 64) (i : Nat) : (wsC ws)[i]? = if i < 40 then some (U (ws i)) else none := by
  unfold wsC; rw [Array.getElem?_ofFn]; simp
theorem layC_ws (p : LayT) : (layC p).extract 6 46 = wsC p.ws := by
  apply Array.ext_getElem?; intro i
  rw [Array.getElem?_extract, layC_get, wsC_get, layC_size]
  by_cases h : i < 40
  · rw [if_pos (by omega), if_pos (by omega), if_pos h, Nat.add_comm]
    simp [LayT.cell, h]
  · rw [if_neg (by omega), if_neg h]
theorem lay_g0 (p : LayT) : (layC p)[0]? = some (I p.ph) := by rw [layC_get]; rfl
theorem lay_g1 (p : LayT) : (layC p)[1]? = some (I p.who) := by rw [layC_get]; rfl
theorem lay_g2 (p : LayT) : (layC p)[2]? = some (I p.sl) := by rw [layC_get]; rfl
theorem lay_g3 (p : LayT) : (layC p)[3]? = some (U p.seed) := by rw [layC_get]; rfl
theorem lay_g4 (p : LayT) : (layC p)[4]? = some (U p.count) := by rw [layC_get]; rfl
theorem lay_g5 (p : LayT) : (layC p)[5]? = some (I p.at_) := by rw [layC_get]; rfl
theorem lay_g46 (p : LayT) : (layC p)[46]? = some (.bool p.bad) := by rw [layC_get]; rfl
theorem layC_idx (p : LayT) (i : Nat) (h : i < (layC p).size) : (layC p)[i] = p.cell i := by simp [layC]
theorem lcell0 (p : LayT) : p.cell 0 = I p.ph := rfl
theorem lcell1 (p : LayT) : p.cell 1 = I p.who := rfl
theorem lcell2 (p : LayT) : p.cell 2 = I p.sl := rfl
theorem lcell3 (p : LayT) : p.cell 3 = U p.seed := rfl
theorem lcell4 (p : LayT) : p.cell 4 = U p.count := rfl
theorem lcell5 (p : LayT) : p.cell 5 = I p.at_ := rfl
theorem lcell46 (p : LayT) : p.cell 46 = .bool p.bad := rfl
theorem lset {p p' : LayT} {j : Nat} {x : Value} (hj : j < 47) (hx : p'.cell j = x) (ho : ∀ i, i < 47 → i ≠ j → p'.cell i = p.cell i) :
    (layC p).setIfInBounds j x = layC p' := by
  apply Array.ext_getElem?; intro i
  rw [Array.getElem?_setIfInBounds, layC_get, layC_get, layC_size]
  by_cases h : j = i
  · subst h; simp [hj, hx]
  · rw [if_neg h]
    by_cases h2 : i < 47
    · simp only [h2, if_true]; rw [ho i h2 (fun e => h e.symm)]
    · simp [h2]
theorem lay_s0 (p : LayT) (x : Int) : (layC p).setIfInBounds 0 (I x) = layC { p with ph := x } :=
  lset (by omega) rfl (fun i _ h => by unfold LayT.cell; split <;> first | rfl | omega)
theorem lay_s4 (p : LayT) (x : BitVec 64) : (layC p).setIfInBounds 4 (U x) = layC { p with count := x } :=
  lset (by omega) rfl (fun i _ h => by unfold LayT.cell; split <;> first | rfl | omega)
theorem lay_s5 (p : LayT) (x : Int) : (layC p).setIfInBounds 5 (I x) = layC { p with at_ := x } :=
  lset (by omega) rfl (fun i _ h => by unfold LayT.cell; split <;> first | rfl | omega)
theorem lay_s46 (p : LayT) (x : Bool) : (layC p).setIfInBounds 46 (.bool x) = layC { p with bad := x } := by
  refine lset (by omega) rfl (fun i hi h => ?_)
  unfold LayT.cell
  split <;> first | rfl | skip
  rename_i i
  rw [if_pos (by omega), if_pos (by omega)]
theorem boxLay (p : LayT) (w : World) : (Instr.box 72 (.agg (layC p))).run Tryz.prog w = .ok (.pointer (some ⟨w.heap.size, 0, none⟩)) (w.alloc (.cells (layC p) 72)) := rfl
theorem loadLay (g o : Nat) (w : World) : (loadRow 72 ⟨g, o, none⟩).run Tryz.prog w = rowRes Tryz.prog 72 g o w ((w.heap[g]?).bind (rowAt o 47)) :=
  run_row Tryz.underlying72 rfl (by kernel_rfl) g o w
theorem storeLay (g o : Nat) (vs : Array Value) (w : World) : (storeRow 72 ⟨g, o, none⟩ (.agg vs)).run Tryz.prog w = layRes Tryz.prog 72 g o vs w (((w.heap[g]?).map (canLay o 47 vs)).getD false) :=
  run_lay (by kernel_rfl) g o vs w
theorem lrowLay (a : Addr) : loadVar 72 a = loadRow 72 a := rfl
theorem srowLay (a : Addr) (v : Value) : storeVar 72 a v = storeRow 72 a v := rfl
theorem browLay (ps : Array (Nat × Value)) : Instr.build 72 ps = buildRow 72 ps := rfl
theorem brow_lay (ps : Array (Nat × Value)) : Instr.build 163 ps = buildRow 163 ps := rfl
theorem build_lay (p : LayT) (w : World) : (buildRow 163 #[(0, .agg (layC p))]).run Tryz.prog w = .ok (.agg (layC p)) w := by kernel_rfl
theorem box_lay (p : LayT) (w : World) : (Instr.box 163 (.agg (layC p))).run Tryz.prog w = .ok (.pointer (some ⟨w.heap.size, 0, none⟩)) (w.alloc (.cells (layC p) 163)) := rfl
theorem zeroLay_run (w : World) : (zeroValue 72).run Tryz.prog w = .ok (.agg (layC zeroLay)) w := by kernel_rfl
theorem laidAt_lay (p q : LayT) (T : TypeId) (fr : Nat × Nat) : laidAt 0 (layC q) (.cells (layC p) T fr) = .cells (layC q) T fr := by
  rw [zag, zdf _ _ (by rw [layC_size, layC_size])]
theorem buildLay0 (w : World) : (buildRow 72 #[]).run Tryz.prog w = .ok (.agg (layC zeroLay)) w := by kernel_rfl
def firstL (who sl : Int) (seed : BitVec 64) : LayT := ⟨0, who, sl, seed, 0#64, 0, fun _ => 0#64, false⟩
theorem buildLay3 (who sl : Int) (seed : BitVec 64) (w : World) : (buildRow 72 #[(1, I who), (2, I sl), (3, U seed)]).run Tryz.prog w = .ok (.agg (layC (firstL who sl seed))) w := by kernel_rfl
theorem buildLay2 (sl : Int) (seed : BitVec 64) (w : World) : (buildRow 72 #[(2, I sl), (3, U seed)]).run Tryz.prog w = .ok (.agg (layC (firstL 0 sl seed))) w := by kernel_rfl
end Go.Proofs.Hc
namespace Go.Proofs.Hc
open Go.RowKit
def SelfEq (d : Nat) (T : TypeId) (v : Value) : Prop := ∀ w, (Op.equalIn d T v v).run Tryz.prog w = .ok true w
theorem self_int (d : Nat) (T : TypeId) (k k' : IntKind) (a : Int) (h : Tryz.prog.underlying T = some (.int k')) : SelfEq (d + 1) T (.int k a) := fun w => by
  rw [run_equalIn_int w d T k k' a a h, beq_self_eq_true]
theorem self_items {d c : Nat} {e : TypeId} {xs : Array Value} : ∀ (is : List Nat), (∀ i ∈ is, ∃ a, (∀ w, (part e xs (i * c)).run Tryz.prog w = .ok a w) ∧ SelfEq d e a) → ∀ w, (Op.eqItems d e c xs xs is).run Tryz.prog w = .ok true w
  | [], _, w => by simp [Op.eqItems]
  | i :: is, h, w => by
    obtain ⟨a, h1, h2⟩ := h i (by simp)
    have ih := self_items is (fun j hj => h j (by simp [hj])) w
    simp only [Op.eqItems, Sem.run_bind, h1, h2 w, Result.andThen_ok, Bool.not_true, Bool.false_eq_true, if_false, ih]
theorem self_fields {d : Nat} {xs : Array Value} : ∀ (fs : List Field), (∀ f ∈ fs, ∃ a, (∀ w, (part f.type xs f.offset).run Tryz.prog w = .ok a w) ∧ SelfEq d f.type a) → ∀ w, (Op.eqFields d xs xs fs).run Tryz.prog w = .ok true w
  | [], _, w => by simp [Op.eqFields]
  | f :: fs, h, w => by
    obtain ⟨a, h1, h2⟩ := h f (by simp)
    have ih := self_fields fs (fun j hj => h j (by simp [hj])) w
    simp only [Op.eqFields]
    split
    · simp only [Sem.run_bind, h1, h2 w, Result.andThen_ok, Bool.not_true, Bool.false_eq_true, if_false, ih]
    · exact ih
theorem part_int {T : TypeId} {k : IntKind} (h : Tryz.prog.underlying T = some (.int k)) {xs : Array Value} {off : Nat} {v : Value} (hx : xs[off]? = some v) (w : World) : (part T xs off).run Tryz.prog w = .ok v w :=
  run_part_plain w (by simp [Program.plainKey, h]) hx
theorem part_arr {T e : TypeId} {n : Nat} (h : Tryz.prog.underlying T = some (.array n e)) {i : TypeInfo} (hi : Tryz.prog.info? T = some i) (hs : Tryz.prog.cellsOf T = n) (xs : Array Value) (off : Nat) (w : World) : (part T xs off).run Tryz.prog w = .ok (.agg (xs.extract off (off + n))) w := by
  simp [part, isAgg, run_underlying h, run_sizeOf w hi, hs]
theorem self_words {d n : Nat} {T : TypeId} (h : Tryz.prog.underlying T = some (.array n 22)) (xs : Array Value) (hx : ∀ i, i < n → ∃ b : BitVec 64, xs[i]? = some (U b)) : SelfEq (d + 2) T (.agg xs) := fun w => by
  obtain ⟨i, hi⟩ : ∃ i, Tryz.prog.info? 22 = some i := info_of_underlying Tryz.underlying22
  rw [run_equalIn_array w (d + 1) xs xs h hi]
  have hc : Tryz.prog.cellsOf 22 = 1 := by kernel_rfl
  rw [hc]
  refine self_items _ (fun j hj => ?_) w
  obtain ⟨b, hb⟩ := hx j (by simpa using hj)
  exact ⟨U b, fun w => part_int Tryz.underlying22 (by rw [Nat.mul_one]; exact hb) w, self_int d _ _ _ _ Tryz.underlying22⟩
theorem c2_cells : Tryz.prog.cellsOf 23 = 2 := by kernel_rfl
theorem c16_cells : Tryz.prog.cellsOf 24 = 16 := by kernel_rfl
end Go.Proofs.Hc
