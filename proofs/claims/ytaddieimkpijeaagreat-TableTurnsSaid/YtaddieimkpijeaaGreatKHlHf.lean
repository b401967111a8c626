/- Lanes of a mask, one by one. -/
import Derived.Test.YtaddieimkpijeaaGreatKHrHro
import Derived.Lib.Tables
set_option linter.unusedSimpArgs false
set_option linter.unusedVariables false
namespace Go.Proofs.Hc
open Go.RowKit
attribute [local go_sem] wrap_u64 wrap_u8 bits_xor64 bits_and64 bits_or64 bits_not64 bits_xor8 bits_and8 bits_or8 signed64 signed8 ofInt_N BitVec.ofInt_add BitVec.ofInt_mul ofInt_sub' ofInt8_N64 ofInt64_N8 wide8 eqN neN shr_pow shr1 shr7 shr56
attribute [local go_sem high] bits_com64 shl_wrap
/-- The lanes of a mask, rising. -/
def lanesOf (m : BitVec 8) : List Nat := (List.range 8).filter fun i => m.getLsbD i
def tz (m : BitVec 8) : Nat := (((Lib.ntz8tab[m.toNat]?).getD 0).toNat)
theorem ntz_N (m : BitVec 8) : Lib.ntz8 (N m) = (tz m : Int) := by unfold Lib.ntz8 tz N; simp
theorem lanes_step : ∀ m : BitVec 8, m ≠ 0#8 → lanesOf m = tz m :: lanesOf (m &&& (m - 1#8)) := by decide +kernel
theorem lanes_zero : lanesOf 0#8 = [] := by decide +kernel
set_option maxRecDepth 100000 in
theorem tz8_any (b : BitVec 8) (w : World) :
    Calls Tryz.prog 155 #[Y b] w fun e w' => e = .returned (I (tz b)) ∧ w = w' := by
  have h0 := N_nonneg b
  have h1 : N b ≤ 255 := by have := N8_lt b; omega
  have h2 : 0 ≤ Lib.ntz8 (N b) := by unfold Lib.ntz8; omega
  have h3 : Lib.ntz8 (N b) < 256 := by unfold Lib.ntz8; have := ((Lib.ntz8tab[(N b).toNat]?).getD 0).toNat_lt; omega
  go_enter Tryz.func155, Tryz.ntmps155
  go_wp2
  go_ret
  exact ⟨by rw [← ntz_N]; rfl, rfl⟩

attribute [local go_sem] Oper.semAt_some
attribute [local go_sem] cell_heap ice_heap cellAt_cells iceAt_cells setAt_cells size_setCell
attribute [local go_sem ↓] heap_alloc heap_drew heap_drewN heap_setCell
/-- How many lanes are left, read off the iterator's cell. -/
def lanesLeft (bm : Nat) (w : World) : Nat :=
  match w.heap[bm]? with
  | some (.cells cs _ _) => match cs[0]? with
    | some (Value.int _ n) => (lanesOf (BitVec.ofInt 8 n)).length
    | _ => 0
  | _ => 0
theorem lanesLeft_eq {bm : Nat} {w : World} {m : BitVec 8} {t : TypeId} {fr : Nat × Nat} (h : w.heap[bm]? = some (.cells #[Y m] t fr)) : lanesLeft bm w = (lanesOf m).length := by
  simp [lanesLeft, h, ofInt_N]
theorem each_yields (m : BitVec 8) (bm : Nat) (w : World) (hb : w.heap[bm]? = some (.cells #[Y m] 128 (0, 0))) :
    Yields Tryz.prog 154 #[.pointer (some ⟨bm, 0, none⟩)] (fun i : Nat => #[I i]) (lanesOf m) [bm] [bm] w := by
  intro n l J Jx W hW hk hJ hJx hY h0
  have hb' := (hk bm (by simp)).trans hb
  refine callsIn_of_wp Tryz.func154 rfl trivial ?_
  simp only [Tryz.ntmps154, List.size_toArray, List.length_cons, List.length_nil, Nat.reduceAdd, Nat.reduceSub, Array.replicate_succ, Array.replicate_zero, List.push_toArray, List.append_toArray, List.nil_append, List.cons_append]
  gi_wp2
  gi_loopw [3] (fun _ wr => ∃ pre m', wr.heap[bm]? = some (.cells #[Y m'] 128 (0, 0)) ∧ lanesOf m = pre ++ lanesOf m' ∧ J pre wr) (fun _ wr => lanesLeft bm wr)
  case atStart => exact ⟨[], m, hb', rfl, h0⟩
  case round =>
    obtain ⟨pre, m', hm, hx, hj⟩ := hrel
    by_cases hz : m' = 0#8
    · subst hz
      have hz : (N (0#8) != 0) = false := by decide
      have HX := Lib.hid hx
      clear hx
      gi_wp2
      refine bodyPost_end (results_none rfl _ _ _) rfl ?_
      exact ⟨⟨_, rfl⟩, .inl (by rw [HX.out, lanes_zero, List.append_nil]; exact hj)⟩
    · have hne : (N m' != 0) = true := by
        rw [bne_iff_ne]; intro h; exact hz ((N_inj m' 0#8).1 (by rw [h]; rfl))
      have hst := lanes_step m' hz
      obtain ⟨fn, tmps, assign, body, hy, hR⟩ := hY pre (tz m') (lanesOf (m' &&& (m' - 1#8))) wr (by rw [hx, hst]) hj
      have HX := Lib.hid hx
      have HS := Lib.hid hst
      clear hx hst hz
      gi_wp2_with (refine ⟨trivial, ?_⟩; gi_at_call 155; refine (callsIn_wide.2 (tz8_any _ _)).mono ?_; rintro e w' ⟨rfl, rfl⟩)
      refine hR.mono ?_
      rintro e W3 (⟨rfl, hJ3, hz3, hk3⟩ | ⟨rfl, hJx3⟩)
      · have hm3 := (hk3 bm (by simp)).trans hm
        clear hk3 hy
        gi_wp2
        go_roundw
        case rel =>
          refine ⟨pre ++ [tz m'], m' &&& (m' - 1#8), ?_, by rw [HX.out, HS.out]; simp, hJ _ _ _ hJ3 ((Ch.refl _ _).setCell (.inl (by simp)) _)⟩
          rw [heap_setCell, if_pos rfl, hm3]; rfl
        case measure =>
          rw [lanesLeft_eq hm, HS.out, lanesLeft_eq (m := m' &&& (m' - 1#8)) (by rw [heap_setCell, if_pos rfl, hm3]; rfl)]
          simp
      · gi_wp2
        refine bodyPost_ret (results_none rfl _ _ _) rfl ?_
        exact ⟨⟨_, rfl⟩, .inr hJx3⟩
end Go.Proofs.Hc
/- The least lane, and all lanes, of a mask. -/
namespace Go.Proofs.Hc
open Go.RowKit
attribute [local go_sem] wrap_u64 wrap_u8 bits_xor64 bits_and64 bits_or64 bits_not64 bits_xor8 bits_and8 bits_or8 signed64 signed8 ofInt_N BitVec.ofInt_add BitVec.ofInt_mul ofInt_sub' ofInt8_N64 ofInt64_N8 wide8 eqN neN shr_pow shr1 shr7 shr56
attribute [local go_sem high] bits_com64 shl_wrap
attribute [local go_sem] Oper.semAt_some make_func1
attribute [local go_sem] cell_heap ice_heap cellAt_cells iceAt_cells setAt_cells size_setCell
attribute [local go_sem ↓] heap_alloc heap_drew heap_drewN heap_setCell

theorem each_any (m : BitVec 8) (w : World) :
    Calls Tryz.prog 130 #[Y m] w fun e w' => e = .returned (.func (.func 154) #[] #[.pointer (some ⟨w.heap.size, 0, none⟩)]) ∧ w' = w.alloc (.cells #[Y m] 128) := by
  go_enter Tryz.func130, Tryz.ntmps130
  go_wp2
  go_ret
  exact ⟨rfl, rfl⟩
def firstV (m : BitVec 8) : Value := match lanesOf m with
  | [] => .tuple #[I 0, .bool false]
  | x :: _ => .tuple #[I x, .bool true]
theorem enters_each (args : Array Value) (w : World) : (callFunc 154 args).run Tryz.prog w = .ok (.enter 154 args) w := by kernel_rfl
theorem first_any (m : BitVec 8) (w : World) :
    Calls Tryz.prog 95 #[Y m] w fun e w' => e = .returned (firstV m) ∧ Ch [] w w' := by
  refine (callsIn_wide (n := 3)).1 ?_
  refine callsIn_of_wp_marks Tryz.func95 rfl trivial ?_
  simp only [Tryz.ntmps95, List.size_toArray, List.length_cons, List.length_nil, Nat.reduceAdd, Nat.reduceSub, Array.replicate_succ, Array.replicate_zero, List.push_toArray, List.append_toArray, List.nil_append, List.cons_append]
  gi_wp2_with (refine ⟨trivial, ?_⟩; gi_at_call 130; refine (callsIn_wide.2 (each_any _ _)).mono ?_; rintro e w' ⟨rfl, rfl⟩)
  obtain ⟨W0, hW0⟩ : ∃ W0, ((w.alloc (.cells #[.int .i64 0] 3)).alloc (.cells #[.bool false] 4)).alloc (.cells #[Y m] 128) = W0 := ⟨_, rfl⟩
  have hs0 : W0.heap.size = w.heap.size + 3 := by rw [← hW0]; simp
  have hC0 : Ch [] w W0 := by rw [← hW0]; exact (((Ch.refl [] w).alloc _).alloc _).alloc _
  have b0 : W0.heap[w.heap.size]? = some (.cells #[I 0] 3 (0, 0)) := by rw [← hW0]; simp [go_sem] <;> omega
  have b1 : W0.heap[w.heap.size + 1]? = some (.cells #[.bool false] 4 (0, 0)) := by rw [← hW0]; simp [go_sem] <;> omega
  have b2 : W0.heap[w.heap.size + 1 + 1]? = some (.cells #[Y m] 128 (0, 0)) := by rw [← hW0]; simp [go_sem] <;> omega
  rw [hW0]
  clear hW0
  refine range_law (n := 1) (xs := lanesOf m) rfl enters_each (each_yields m _ W0 b2) (fun _ => rfl) (by simp <;> omega) (by simp <;> omega)
    (fun pre W => pre = [] ∧ Ch [] w W ∧ W.heap[w.heap.size]? = some (.cells #[I 0] 3 (0, 0)) ∧ W.heap[w.heap.size + 1]? = some (.cells #[.bool false] 4 (0, 0)))
    (fun c W => c = .ret ∧ ∃ x post, lanesOf m = x :: post ∧ Ch [] w W ∧ W.heap[w.heap.size]? = some (.cells #[I (x : Nat)] 3 (0, 0)) ∧ W.heap[w.heap.size + 1]? = some (.cells #[.bool true] 4 (0, 0)))
    ?hI ?hIx ⟨rfl, hC0, b0, b1⟩ ?a₁ ?assign ?body ?done ?stop
  case hI =>
    rintro pre A B ⟨rfl, hc, h1, h2⟩ hAB
    exact ⟨rfl, hc.trans2 hAB (by simp <;> omega), (hAB.block _ (Array.getElem?_eq_some_iff.1 h1).1 (by simp <;> omega)).trans h1, (hAB.block _ (Array.getElem?_eq_some_iff.1 h2).1 (by simp <;> omega)).trans h2⟩
  case hIx =>
    rintro c A B ⟨rfl, x, post, hx, hc, h1, h2⟩ hAB
    exact ⟨rfl, x, post, hx, hc.trans2 hAB (by simp <;> omega), (hAB.block _ (Array.getElem?_eq_some_iff.1 h1).1 (by simp <;> omega)).trans h1, (hAB.block _ (Array.getElem?_eq_some_iff.1 h2).1 (by simp <;> omega)).trans h2⟩
  case a₁ => exact fun x => { tmps := #[Y m, undef, .pointer (some ⟨w.heap.size, 0, none⟩), .pointer (some ⟨w.heap.size + 1, 0, none⟩), I x, Y m, .func (.func 154) #[] #[.pointer (some ⟨w.heap.size + 1 + 1, 0, none⟩)], I x, undef], defers := [] }
  case assign =>
    intro x W K hK
    gi_wp2
    exact hK
  case body =>
    rintro pre x post W hx ⟨rfl, hc, h1, h2⟩ hsz
    gi_wp2
    have hlt := hc.size
    have hl1 := (Array.getElem?_eq_some_iff.1 h1).1
    refine ⟨⟨rfl, x, post, hx, (hc.setCell (p := ⟨w.heap.size, 0, none⟩) (.inr (Nat.le_refl _)) _).setCell (p := ⟨w.heap.size + 1, 0, none⟩) (.inr (by simp)) _, ?_, ?_⟩, ?_⟩
    · simp only [heap_setCell, h1]; simp [setAt_cells]
    · simp only [heap_setCell, h2]; simp [setAt_cells]
    · intro b hb
      simp only [heap_setCell]
      have hb' : b ≠ w.heap.size ∧ b ≠ w.heap.size + 1 := by rcases hb with rfl | rfl | hb <;> simp at * <;> omega
      rw [if_neg hb'.2, if_neg hb'.1]
  case done =>
    rintro W ⟨hx, hc, h1, h2⟩ hd
    gi_wp2
    refine marks_ret (v := .tuple #[I 0, .bool false]) ?_ (results_cell2 Tryz.results95 _ _ _ _ rfl rfl (load_one Tryz.underlying3 rfl _ _ (fr := (0, 0)) (t := 3) ?_) (load_one Tryz.underlying4 rfl _ _ (fr := (0, 0)) (t := 4) ?_)) ⟨by rw [firstV, hx], ?_⟩
    · simp only [heap_setCell]; rw [if_neg (by omega), if_neg (by omega)]; exact hd
    · simp only [heap_putObj, heap_setCell, h1]; rw [if_neg (by omega)]; simp [setAt_cells]
    · simp only [heap_putObj, heap_setCell, h2]; rw [if_neg (by omega)]; simp [setAt_cells]
    · exact ((hc.setCell (p := ⟨w.heap.size, 0, none⟩) (.inr (Nat.le_refl _)) _).setCell (p := ⟨w.heap.size + 1, 0, none⟩) (.inr (by simp)) _).trans2 (ch_putObj _ _ _) (by simp <;> omega)
  case stop =>
    rintro c W ⟨rfl, x, post, hx, hc, h1, h2⟩ hd
    gi_wp2
    refine marks_ret (v := .tuple #[I x, .bool true]) hd (results_cell2 Tryz.results95 _ _ _ _ rfl rfl (load_one Tryz.underlying3 rfl _ _ (fr := (0, 0)) (t := 3) ?_) (load_one Tryz.underlying4 rfl _ _ (fr := (0, 0)) (t := 4) ?_)) ⟨by rw [firstV, hx], ?_⟩
    · rw [heap_putObj, if_neg (by omega)]; exact h1
    · rw [heap_putObj, if_neg (by omega)]; exact h2
    · exact hc.trans2 (ch_putObj _ _ _) (by simp <;> omega)
end Go.Proofs.Hc
