/- Lanes of a mask, one by one. -/
import Derived.Test.YtcikopeddljgkaaGreatKHrw
set_option linter.unusedSimpArgs false
set_option linter.unusedVariables false
set_option maxHeartbeats 4000000
set_option maxRecDepth 100000
namespace Go.Proofs.Hc
open Go.RowKit
attribute [local go_sem] zbv zcb zba zbf zbr zbd zbq zbs zbx signed64 signed8 zap BitVec.ofInt_add BitVec.ofInt_mul ofInt_sub' zbb zbc wide8 eqN neN zca shr1 shr7 shr56
attribute [local go_sem high] zbe zbw
def lanesOf (m : BitVec 8) : List Nat := (List.range 8).filter fun i => m.getLsbD i
def tz (m : BitVec 8) : Nat := (((Lib.ntz8tab[m.toNat]?).getD 0).toNat)
theorem ntz_N (m : BitVec 8) : Lib.ntz8 (N m) = (tz m : Int) := by unfold Lib.ntz8 tz N; simp
theorem lanes_step : ∀ m : BitVec 8, m ≠ 0#8 → lanesOf m = tz m :: lanesOf (m &&& (m - 1#8)) := by decide +kernel
theorem lanes_zero : lanesOf 0#8 = [] := by decide +kernel
theorem tz8_any (b : BitVec 8) (w : World) :
    Calls Tryz.prog 278 #[Y b] w fun e w' => e = .returned (I (tz b)) ∧ w = w' := by
  have h0 := N_nonneg b
  have h1 : N b ≤ 255 := by have := N8_lt b; omega
  have h2 : 0 ≤ Lib.ntz8 (N b) := by unfold Lib.ntz8; omega
  have h3 : Lib.ntz8 (N b) < 256 := by unfold Lib.ntz8; have := ((Lib.ntz8tab[(N b).toNat]?).getD 0).toNat_lt; omega
  go_enter Tryz.func278, Tryz.ntmps278
  go_wp2
  go_ret
  exact ⟨by rw [← ntz_N]; rfl, rfl⟩
attribute [local go_sem] Oper.semAt_some
attribute [local go_sem] zaw zby zaj zas zae zam
attribute [local go_sem ↓] zac zbk zbg zaa
def lanesLeft (bm : Nat) (w : World) : Nat :=
  match w.heap[bm]? with
  | some (.cells cs _ _) => match cs[0]? with
    | some (Value.int _ n) => (lanesOf (BitVec.ofInt 8 n)).length
    | _ => 0
  | _ => 0
theorem lanesLeft_eq {bm : Nat} {w : World} {m : BitVec 8} {t : TypeId} {fr : Nat × Nat} (h : w.heap[bm]? = some (.cells #[Y m] t fr)) : lanesLeft bm w = (lanesOf m).length := by
  simp [lanesLeft, h, zap]
theorem each_yields (m : BitVec 8) (bm : Nat) (w : World) (hb : w.heap[bm]? = some (.cells #[Y m] 121 (0, 0))) :
    Yields Tryz.prog 277 #[.pointer (some ⟨bm, 0, none⟩)] (fun i : Nat => #[I i]) (lanesOf m) [bm] [bm] w := by
  intro n l J Jx W hW hk hJ hJx hY h0
  have hb' := (hk bm (by simp)).trans hb
  refine callsIn_of_wp Tryz.func277 rfl trivial ?_
  simp only [Tryz.ntmps277, List.size_toArray, List.length_cons, List.length_nil, Nat.reduceAdd, Nat.reduceSub, Array.replicate_succ, Array.replicate_zero, List.push_toArray, List.append_toArray, List.nil_append, List.cons_append]
  gi_wp2
  gi_loopw [3] (fun _ wr => ∃ pre m', wr.heap[bm]? = some (.cells #[Y m'] 121 (0, 0)) ∧ lanesOf m = pre ++ lanesOf m' ∧ J pre wr) (fun _ wr => lanesLeft bm wr)
  case atStart => exact ⟨[], m, hb', rfl, h0⟩
  case round =>
    obtain ⟨pre, m', hm, hx, hj⟩ := hrel
    by_cases hz : m' = 0#8
    · subst hz
      have hz : (N (0#8) != 0) = false := by decide
      have HX := Lib.hid hx
      clear hx
      gi_wp2
      refine bodyPost_end (results_none rfl _ _ _) rfl ?_
      exact ⟨⟨_, rfl⟩, .inl (by rw [HX.out, lanes_zero, List.append_nil]; exact hj)⟩
    · have hne : (N m' != 0) = true := by
        rw [bne_iff_ne]; intro h; exact hz ((N_inj m' 0#8).1 (by rw [h]; rfl))
      have hst := lanes_step m' hz
      obtain ⟨fn, tmps, assign, body, hy, hR⟩ := hY pre (tz m') (lanesOf (m' &&& (m' - 1#8))) wr (by rw [hx, hst]) hj
      have HX := Lib.hid hx
      have HS := Lib.hid hst
      clear hx hst hz
      gi_wp2_with (refine ⟨trivial, ?_⟩; gi_at_call 278; refine (callsIn_wide.2 (tz8_any _ _)).mono ?_; rintro e w' ⟨rfl, rfl⟩)
      refine hR.mono ?_
      rintro e W3 (⟨rfl, hJ3, hz3, hk3⟩ | ⟨rfl, hJx3⟩)
      · have hm3 := (hk3 bm (by simp)).trans hm
        clear hk3 hy
        gi_wp2
        go_roundw
        case rel =>
          refine ⟨pre ++ [tz m'], m' &&& (m' - 1#8), ?_, by rw [HX.out, HS.out]; simp, hJ _ _ _ hJ3 ((Ch.refl _ _).setCell (.inl (by simp)) _)⟩
          rw [zaa, if_pos rfl, hm3]; rfl
        case measure =>
          rw [lanesLeft_eq hm, HS.out, lanesLeft_eq (m := m' &&& (m' - 1#8)) (by rw [zaa, if_pos rfl, hm3]; rfl)]
          simp
      · gi_wp2
        refine bodyPost_ret (results_none rfl _ _ _) rfl ?_
        exact ⟨⟨_, rfl⟩, .inr hJx3⟩
end Go.Proofs.Hc
namespace Go.Proofs.Hc
open Go.RowKit
attribute [local go_sem] zbv zcb zba zbf zbr zbd zbq zbs zbx signed64 signed8 zap BitVec.ofInt_add BitVec.ofInt_mul ofInt_sub' zbb zbc wide8 eqN neN zca shr1 shr7 shr56
attribute [local go_sem high] zbe zbw
attribute [local go_sem] Oper.semAt_some zao
attribute [local go_sem] zaw zby zaj zas zae zam
attribute [local go_sem ↓] zac zbk zbg zaa
theorem each_any (m : BitVec 8) (w : World) :
    Calls Tryz.prog 229 #[Y m] w fun e w' => e = .returned (.func (.func 277) #[] #[.pointer (some ⟨w.heap.size, 0, none⟩)]) ∧ w' = w.alloc (.cells #[Y m] 121) := by
  go_enter Tryz.func229, Tryz.ntmps229
  go_wp2
  go_ret
  exact ⟨rfl, rfl⟩
def firstV (m : BitVec 8) : Value := match lanesOf m with
  | [] => .tuple #[I 0, .bool false]
  | x :: _ => .tuple #[I x, .bool true]
theorem enters_each (args : Array Value) (w : World) : (callFunc 277 args).run Tryz.prog w = .ok (.enter 277 args) w := by kernel_rfl
theorem first_any (m : BitVec 8) (w : World) :
    Calls Tryz.prog 266 #[Y m] w fun e w' => e = .returned (firstV m) ∧ Ch [] w w' := by
  refine (callsIn_wide (n := 3)).1 ?_
  refine callsIn_of_wp_marks Tryz.func266 rfl trivial ?_
  simp only [Tryz.ntmps266, List.size_toArray, List.length_cons, List.length_nil, Nat.reduceAdd, Nat.reduceSub, Array.replicate_succ, Array.replicate_zero, List.push_toArray, List.append_toArray, List.nil_append, List.cons_append]
  gi_wp2_with (refine ⟨trivial, ?_⟩; gi_at_call 229; refine (callsIn_wide.2 (each_any _ _)).mono ?_; rintro e w' ⟨rfl, rfl⟩)
  obtain ⟨W0, hW0⟩ : ∃ W0, ((w.alloc (.cells #[.int .i64 0] 3)).alloc (.cells #[.bool false] 4)).alloc (.cells #[Y m] 121) = W0 := ⟨_, rfl⟩
  have hs0 : W0.heap.size = w.heap.size + 3 := by rw [← hW0]; simp
  have hC0 : Ch [] w W0 := by rw [← hW0]; exact (((Ch.refl [] w).alloc _).alloc _).alloc _
  have b0 : W0.heap[w.heap.size]? = some (.cells #[I 0] 3 (0, 0)) := by rw [← hW0]; simp [go_sem] <;> omega
  have b1 : W0.heap[w.heap.size + 1]? = some (.cells #[.bool false] 4 (0, 0)) := by rw [← hW0]; simp [go_sem] <;> omega
  have b2 : W0.heap[w.heap.size + 1 + 1]? = some (.cells #[Y m] 121 (0, 0)) := by rw [← hW0]; simp [go_sem] <;> omega
  rw [hW0]
  clear hW0
  refine range_law (n := 1) (xs := lanesOf m) rfl enters_each (each_yields m _ W0 b2) (fun _ => rfl) (by simp <;> omega) (by simp <;> omega)
    (fun pre W => pre = [] ∧ Ch [] w W ∧ W.heap[w.heap.size]? = some (.cells #[I 0] 3 (0, 0)) ∧ W.heap[w.heap.size + 1]? = some (.cells #[.bool false] 4 (0, 0)))
    (fun c W => c = .ret ∧ ∃ x post, lanesOf m = x :: post ∧ Ch [] w W ∧ W.heap[w.heap.size]? = some (.cells #[I (x : Nat)] 3 (0, 0)) ∧ W.heap[w.heap.size + 1]? = some (.cells #[.bool true] 4 (0, 0)))
    ?hI ?hIx ⟨rfl, hC0, b0, b1⟩ ?a₁ ?assign ?body ?done ?stop
  case hI =>
    rintro pre A B ⟨rfl, hc, h1, h2⟩ hAB
    exact ⟨rfl, hc.trans2 hAB (by simp <;> omega), (hAB.block _ (Array.getElem?_eq_some_iff.1 h1).1 (by simp <;> omega)).trans h1, (hAB.block _ (Array.getElem?_eq_some_iff.1 h2).1 (by simp <;> omega)).trans h2⟩
  case hIx =>
    rintro c A B ⟨rfl, x, post, hx, hc, h1, h2⟩ hAB
    exact ⟨rfl, x, post, hx, hc.trans2 hAB (by simp <;> omega), (hAB.block _ (Array.getElem?_eq_some_iff.1 h1).1 (by simp <;> omega)).trans h1, (hAB.block _ (Array.getElem?_eq_some_iff.1 h2).1 (by simp <;> omega)).trans h2⟩
  case a₁ => exact fun x => { tmps := #[Y m, undef, .pointer (some ⟨w.heap.size, 0, none⟩), .pointer (some ⟨w.heap.size + 1, 0, none⟩), I x, Y m, .func (.func 277) #[] #[.pointer (some ⟨w.heap.size + 1 + 1, 0, none⟩)], I x, undef], defers := [] }
  case assign =>
    intro x W K hK
    gi_wp2
    exact hK
  case body =>
    rintro pre x post W hx ⟨rfl, hc, h1, h2⟩ hsz
    gi_wp2
    have hlt := hc.size
    have hl1 := (Array.getElem?_eq_some_iff.1 h1).1
    refine ⟨⟨rfl, x, post, hx, (hc.setCell (p := ⟨w.heap.size, 0, none⟩) (.inr (Nat.le_refl _)) _).setCell (p := ⟨w.heap.size + 1, 0, none⟩) (.inr (by simp)) _, ?_, ?_⟩, ?_⟩
    · simp only [zaa, h1]; simp [zae]
    · simp only [zaa, h2]; simp [zae]
    · intro b hb
      simp only [zaa]
      have hb' : b ≠ w.heap.size ∧ b ≠ w.heap.size + 1 := by rcases hb with rfl | rfl | hb <;> simp at * <;> omega
      rw [if_neg hb'.2, if_neg hb'.1]
  case done =>
    rintro W ⟨hx, hc, h1, h2⟩ hd
    gi_wp2
    refine marks_ret (v := .tuple #[I 0, .bool false]) ?_ (results_cell2 Tryz.results266 _ _ _ _ rfl rfl (load_one Tryz.underlying3 rfl _ _ (fr := (0, 0)) (t := 3) ?_) (load_one Tryz.underlying4 rfl _ _ (fr := (0, 0)) (t := 4) ?_)) ⟨by rw [firstV, hx], ?_⟩
    · simp only [zaa]; rw [if_neg (by omega), if_neg (by omega)]; exact hd
    · simp only [heap_putObj, zaa, h1]; rw [if_neg (by omega)]; simp [zae]
    · simp only [heap_putObj, zaa, h2]; rw [if_neg (by omega)]; simp [zae]
    · exact ((hc.setCell (p := ⟨w.heap.size, 0, none⟩) (.inr (Nat.le_refl _)) _).setCell (p := ⟨w.heap.size + 1, 0, none⟩) (.inr (by simp)) _).trans2 (zcg _ _ _) (by simp <;> omega)
  case stop =>
    rintro c W ⟨rfl, x, post, hx, hc, h1, h2⟩ hd
    gi_wp2
    refine marks_ret (v := .tuple #[I x, .bool true]) hd (results_cell2 Tryz.results266 _ _ _ _ rfl rfl (load_one Tryz.underlying3 rfl _ _ (fr := (0, 0)) (t := 3) ?_) (load_one Tryz.underlying4 rfl _ _ (fr := (0, 0)) (t := 4) ?_)) ⟨by rw [firstV, hx], ?_⟩
    · rw [heap_putObj, if_neg (by omega)]; exact h1
    · rw [heap_putObj, if_neg (by omega)]; exact h2
    · exact hc.trans2 (zcg _ _ _) (by simp <;> omega)
end Go.Proofs.Hc
namespace Go.Proofs.Hc
open Go.RowKit
attribute [local go_sem] zbv zcb zba zbf zbr zbd zbq zbs zbx signed64 signed8 zap BitVec.ofInt_add BitVec.ofInt_mul ofInt_sub' zbb zbc wide8 eqN neN zca shr1 shr7 shr56
attribute [local go_sem high] zbe zbw
attribute [local go_sem] Oper.semAt_some zao
attribute [local go_sem] zaw zby zaj zas zae zam
attribute [local go_sem ↓] zac zbk zbg zaa
theorem infoInt : (Tryz.prog.info? 3).map (fun i => (i.zero, i.size, i.bytes)) = some (some (I 0), 1, 8) := by kernel_rfl
theorem lanes_le (m : BitVec 8) : (lanesOf m).length ≤ 8 := by
  unfold lanesOf; exact Nat.le_trans (List.length_filter_le _ _) (by simp)
theorem all_any (m : BitVec 8) (w : World) :
    Calls Tryz.prog 167 #[Y m] w fun e w' => ∃ v, e = .returned v ∧ w'.ownsRow w.heap.size 3 1 v (lanesOf m).length ((lanesOf m).map fun i : Nat => I i) ∧ Ch [] w w' := by
  obtain ⟨i0, hi, hz0, hz1, hz2⟩ := info_parts infoInt
  refine (callsIn_wide (n := 3)).1 ?_
  refine callsIn_of_wp_marks Tryz.func167 rfl trivial ?_
  simp only [Tryz.ntmps167, List.size_toArray, List.length_cons, List.length_nil, Nat.reduceAdd, Nat.reduceSub, Array.replicate_succ, Array.replicate_zero, List.push_toArray, List.append_toArray, List.nil_append, List.cons_append]
  gi_wp2_with (refine ⟨trivial, ?_⟩; gi_at_call 229; refine (callsIn_wide.2 (each_any _ _)).mono ?_; rintro e w' ⟨rfl, rfl⟩)
  obtain ⟨W0, hW0⟩ : ∃ W0, (w.alloc (.cells #[.slice none 0 0] 154)).alloc (.cells #[Y m] 121) = W0 := ⟨_, rfl⟩
  have hs0 : W0.heap.size = w.heap.size + 2 := by rw [← hW0]; simp
  have hC0 : Ch [] w W0 := by rw [← hW0]; exact ((Ch.refl [] w).alloc _).alloc _
  have b0 : W0.heap[w.heap.size]? = some (.cells #[.slice none 0 0] 154 (0, 0)) := by rw [← hW0]; simp [go_sem] <;> omega
  have b2 : W0.heap[w.heap.size + 1]? = some (.cells #[Y m] 121 (0, 0)) := by rw [← hW0]; simp [go_sem] <;> omega
  rw [hW0]
  clear hW0
  refine range_law (n := 1) (xs := lanesOf m) rfl enters_each (each_yields m _ W0 b2) (fun _ => rfl) (by simp <;> omega) (by simp <;> omega)
    (fun pre W => Ch [] w W ∧ ∃ v, W.heap[w.heap.size]? = some (.cells #[v] 154 (0, 0)) ∧ W.ownsRow (W0.heap.size + 2) 3 1 v pre.length (pre.map fun i : Nat => I i))
    (fun _ _ => False)
    ?hI (fun _ _ _ h _ => h.elim) ⟨hC0, _, b0, World.ownsRow_nil _ _ _ _⟩ ?a₁ ?assign ?body ?done (fun _ _ h _ => h.elim)
  case hI =>
    rintro pre A B ⟨hc, v, h1, h2⟩ hAB
    exact ⟨hc.trans2 hAB (by simp <;> omega), v, (hAB.block _ (Array.getElem?_eq_some_iff.1 h1).1 (by simp <;> omega)).trans h1, own_ch h2 hAB (by simp <;> omega)⟩
  case a₁ => exact fun x => { tmps := #[Y m, undef, .slice none 0 0, .pointer (some ⟨w.heap.size, 0, none⟩), I x, Y m, .func (.func 277) #[] #[.pointer (some ⟨w.heap.size + 1, 0, none⟩)], I x, undef, undef, undef, undef, undef], defers := [] }
  case assign =>
    intro x W K hK
    gi_wp2
    exact hK
  case body =>
    rintro pre x post W hx ⟨hc, v, h1, h2⟩ hsz
    have hlen : pre.length + 1 ≤ 8 := by have := lanes_le m; rw [hx] at this; simp at this; omega
    have HX := Lib.hid hx
    clear hx
    gi_wp2_with (gi_at_builtin; go_must (refine wpListIn_append_own _ rfl _ _ 154 rfl (W0.heap.size + 2) 3 i0 (I 0) 1 8 Tryz.underlying154 hi hz0 hz1 hz2 rfl (by decide) _ _ _ rfl (h2.alloc _) ⟨W.heap.size, 0, none⟩ 1 1 [I x] rfl rfl (cell_one_new _ _ _) (by simp [Value.oneCell']) (by unfold maxLen; omega) (by omega) (by simp; omega) ?_; intro v' w1 hown' hgrow _; obtain ⟨g', cap', rfl⟩ := ownsRow_succ hown'; have hgr : (W.alloc (.cells #[I x] 3)).grownBy w1 v.ownBlock := hgrow; clear hgrow; have h1' : w1.heap[w.heap.size]? = some (.cells #[v] 154 (0, 0)) := (hgr.block w.heap.size (by simp; omega) (fun e => by have := own_block h2 _ e.symm; omega)).trans (by rw [zac, if_neg (by omega)]; exact h1)))
    have hz := hc.size
    have hob := own_block h2
    have hW1 : Ch (v.ownBlock.toList) W w1 := ((Ch.refl [] W).alloc _).of_nil.trans2 (Ch.of_grown (S := v.ownBlock.toList) hgr (fun k hk => by simp [hk])) (fun t ht => .inl ht)
    have hS : ∀ s ∈ v.ownBlock.toList, W0.heap.size + 2 ≤ s := fun s hs => hob s (by simpa using hs)
    have hc1 : Ch [] w w1 := hc.trans2 hW1 (fun t ht => .inr (by have := hS t ht; omega))
    have hw1 := hW1.size
    refine ⟨⟨hc1.setCell (p := ⟨w.heap.size, 0, none⟩) (.inr (Nat.le_refl _)) _, .slice (some ⟨g', 0, none⟩) (pre.length + 1) cap', ?_, ?_⟩, by simp [World.setCell]; omega, ?_⟩
    · simp only [zaa, h1']; simp [zae]
    · have := own_ch (S := [w.heap.size]) hown' ((Ch.refl _ w1).setCell (p := ⟨w.heap.size, 0, none⟩) (.inl (by simp)) (.slice (some ⟨g', 0, none⟩) (pre.length + 1) cap')) (by simp; omega)
      simpa using this
    · intro b hb
      have hb' : b ≠ w.heap.size ∧ b < W0.heap.size + 2 := by rcases hb with rfl | rfl | hb <;> simp at * <;> omega
      rw [zaa, if_neg hb'.1]
      exact hW1.block b (by omega) (fun hs => by have := hS b hs; omega)
  case done =>
    rintro W ⟨hc, v, h1, h2⟩ hd
    gi_wp2
    refine marks_ret (v := v) hd (results_tmp Tryz.results167 _ _ _) ⟨v, rfl, ?_, hc.trans2 (zcg _ _ _) (by simp <;> omega)⟩
    exact own_mono (own_ch h2 (zcg _ _ _) (by simp <;> omega)) (by omega)
end Go.Proofs.Hc
namespace Go.Proofs.Hc
open Go.RowKit
attribute [local go_sem] zbv zcb zba zbf zbr zbd zbq zbs zbx signed64 signed8 zap BitVec.ofInt_add BitVec.ofInt_mul ofInt_sub' zbb zbc wide8 eqN neN zca shr1 shr7 shr56
attribute [local go_sem high] zbe zbw
attribute [local go_sem] zaw zby zaj zas zae zay zar zak zbn zam zax zaz
attribute [local go_sem] load26 load73 load23 store26 build73
attribute [local go_sem ↓] lrow26 lrow73 lrow23 srow26 zero26 brow73 zac zbk zbg zaa zab
attribute [local go_sem] zai zav zau zbj zbl zbo zaq zat zbp zbi zbh
attribute [local go_sem] nn2 nm2 nn3 nm3 nn4 nm4 nn5 nm5 nn6 nm6 nn7 nm7 nn8 nm8
section
attribute [local go_sem] Oper.semAt_some zao
attribute [local go_sem] box26 zcc cell0 cell1 cell2 cell3 cell4 zcn zcm
attribute [local go_sem] cell5 cell6
theorem index2_0 (x y : BitVec 64) (w : World) : (Instr.index 23 (.agg #[U x, U y]) (.int .i64 0)).run Tryz.prog w = .ok (U x) w := by kernel_rfl
theorem index2_1 (x y : BitVec 64) (w : World) : (Instr.index 23 (.agg #[U x, U y]) (.int .i64 1)).run Tryz.prog w = .ok (U y) w := by kernel_rfl
attribute [local go_sem] index2_0 index2_1
theorem own_slice {W : World} {base n : Nat} {e : TypeId} {v : Value} {xs : List Value} (h : W.ownsRow base e 1 v n xs) :
    ∃ a cap cur, v = .slice a n cap ∧ (∀ (i : Nat) (x : Value), xs[i]? = some x → cur[i]? = some x ∧ ∃ g, a = some ⟨g, 0, none⟩) ∧ ∀ g, a = some ⟨g, 0, none⟩ → base ≤ g ∧ W.heap[g]? = some (.cells cur e (0, 0)) := by
  obtain ⟨hl, ⟨rfl, rfl⟩ | ⟨g, cap, cur, hv, hg, hW, _, _, _, hx⟩⟩ := h
  · refine ⟨none, 0, #[], rfl, fun i x hi => ?_, fun g hg => by cases hg⟩
    have : xs = [] := List.eq_nil_of_length_eq_zero (by simpa using hl)
    rw [this] at hi; cases hi
  · refine ⟨_, cap, cur, hv, fun i x hi => ⟨?_, g, rfl⟩, fun g' hg' => by obtain rfl : g = g' := by simpa using hg'
                                                                          exact ⟨hg, hW⟩⟩
    rw [← hx, List.getElem?_take] at hi
    split at hi
    · simpa using hi
    · cases hi
theorem one_addr {r g : Nat} (h : (some ⟨r, 0, none⟩ : Option Addr) = some ⟨g, 0, none⟩) : r = g := by simpa using h
theorem wrap_small (x : Nat) (h : x < 8) : IntKind.i64.wrap (x : Int) = x := by rw [IntKind.wrap_i64]; omega
theorem wrap_small2 (x : Nat) (h : x < 8) : IntKind.i64.wrap (8 + (x : Int)) = 8 + x := by rw [IntKind.wrap_i64]; omega
theorem take_round {l0 : List Nat} {m : Nat} {cur : Array Value} {a : Option Addr} {g : Nat} (h : m < l0.length) (hx : ∀ (i : Nat) (x : Value), (l0.map fun i : Nat => I i)[i]? = some x → cur[i]? = some x ∧ ∃ r, a = some ⟨r, 0, none⟩) (hb : ∀ x ∈ l0, x < 8) (ys : List (Nat × Nat)) :
    ∃ x : Nat, x < 8 ∧ (cur[m]? = some (I x) ∧ ∃ r, a = some ⟨r, 0, none⟩) ∧ (l0.take m).map (fun l => (8 * g + l, g)) ++ [(8 * g + x, g)] = (l0.take (m + 1)).map (fun l => (8 * g + l, g)) ∧
      (l0.map fun l => (8 * g + l, g)) ++ ys = (l0.take m).map (fun l => (8 * g + l, g)) ++ (8 * g + x, g) :: ((l0.drop (m + 1)).map (fun l => (8 * g + l, g)) ++ ys) := by
  refine ⟨l0[m]'h, hb _ (List.getElem_mem h), hx m _ (by rw [List.getElem?_map, List.getElem?_eq_getElem h]; rfl), ?_, ?_⟩
  · rw [List.take_succ_eq_append_getElem h, List.map_append]; rfl
  · conv => lhs; rw [← List.take_append_drop m l0, List.drop_eq_getElem_cons h]
    rw [List.map_append, List.map_cons, List.append_assoc, List.cons_append]
def slotsOf (t : Tab) (g : Nat) : List (Nat × Nat) := (lanesOf (fullM (t.c g))).map fun l => (8 * g + l, g)
def slotsT (t : Tab) : List (Nat × Nat) := slotsOf t 0 ++ slotsOf t 1
theorem enters_slots (args : Array Value) (w : World) : (callFunc 217 args).run Tryz.prog w = .ok (.enter 217 args) w := by kernel_rfl
theorem slots_yields (t : Tab) (s : BitVec 64) (b p : Nat) (w : World) (hok0 : ctrlOk (t.c 0) = true) (hok1 : ctrlOk (t.c 1) = true) (hb : w.heap[b]? = some (.cells (hcells t s) 141 (0, 0)))
    (hp : w.heap[p]? = some (.cells #[.pointer (some ⟨b, 0, none⟩)] 137 (0, 0))) :
    YieldsO Tryz.prog 217 #[.pointer (some ⟨p, 0, none⟩)] (fun x : Nat × Nat => #[I x.1, I x.2]) (slotsT t) [] [b, p] w := by
  intro n l J Jx W O0 hW hk hO' hJ hJx hY' h0
  have hO := Lib.hid hO'
  have hY := Lib.hid hY'
  clear hO' hY'
  have hb' := (hk b (by simp)).trans hb
  have hp' := (hk p (by simp)).trans hp
  clear hb hp hk hW
  have S0 := fun w => sets_ok (t.c 0) hok0 w
  have S1 := fun w => sets_ok (t.c 1) hok1 w
  have A0 := fun w => all_any (fullM (t.c 0)) w
  have A1 := fun w => all_any (fullM (t.c 1)) w
  have B0 : ∀ x ∈ lanesOf (fullM (t.c 0)), x < 8 := fun x hx => by unfold lanesOf at hx; simpa using (List.mem_filter.1 hx).1
  have B1 : ∀ x ∈ lanesOf (fullM (t.c 1)), x < 8 := fun x hx => by unfold lanesOf at hx; simpa using (List.mem_filter.1 hx).1
  have L0 := lanes_le (fullM (t.c 0))
  have L1 := lanes_le (fullM (t.c 1))
  unfold slotsT slotsOf at hY ⊢
  generalize fullM (t.c 0) = f0 at *
  generalize fullM (t.c 1) = f1 at *
  generalize emptyM (t.c 0) = e0 at *
  generalize emptyM (t.c 1) = e1 at *
  generalize delM (t.c 0) = d0 at *
  generalize delM (t.c 1) = d1 at *
  generalize lanesOf f0 = l0 at *
  generalize lanesOf f1 = l1 at *
  clear hok0 hok1
  have ob0 : ¬ O0 b := fun h => (hO.out _ _ _ h0 b h).2 (by simp)
  have op0 : ¬ O0 p := fun h => (hO.out _ _ _ h0 p h).2 (by simp)
  refine callsIn_of_wp Tryz.func217 rfl trivial ?_
  simp only [Tryz.ntmps217, List.size_toArray, List.length_cons, List.length_nil, Nat.reduceAdd, Nat.reduceSub, Array.replicate_succ, Array.replicate_zero, List.push_toArray, List.append_toArray, List.nil_append, List.cons_append]
  gi_wp2
  refine wpIn_loop_rounds 3 ?_
  rw [roundsIn_succ]
  gi_wp2_with (first
    | (refine ⟨trivial, ?_⟩; gi_at_call 166; refine (callsIn_wide.2 (S0 _)).mono ?_; rintro e W10 ⟨rfl, hc1⟩)
    | (refine ⟨trivial, ?_⟩; gi_at_call 167; refine (callsIn_wide.2 (A0 _)).mono ?_; rintro e W20 ⟨v, rfl, hown, hc2⟩; obtain ⟨a0, cap0, cur0, rfl, hx0', hl0'⟩ := own_slice hown; clear hown))
  have hC2 : Ch [] W W20 := hc1.trans hc2
  have hb2 := (hC2.block b (Array.getElem?_eq_some_iff.1 hb').1 (by simp)).trans hb'
  have hp2 := (hC2.block p (Array.getElem?_eq_some_iff.1 hp').1 (by simp)).trans hp'
  have hJ2 := hJ _ _ _ _ h0 hC2
  have hx0 := Lib.hid hx0'
  have og0 : ∀ g, a0 = some ⟨g, 0, none⟩ → ¬ O0 g ∧ W20.heap[g]? = some (.cells cur0 3 (0, 0)) := fun g hg => ⟨fun h => by have := (hO.out _ _ _ h0 g h).1; have := hc1.size; have := (hl0' g hg).1; omega, (hl0' g hg).2⟩
  have OG := Lib.hid og0
  clear hb' hp' hc2 hc1 hx0' hl0' og0 h0
  gi_loopw [28] (fun i wr => ∃ (m : Nat) (O : Nat → Prop), i = .int .i64 m ∧ m ≤ l0.length ∧ J ((l0.take m).map (fun l => (8 * 0 + l, 0))) O wr ∧ (¬ O b ∧ ¬ O p) ∧
    (∀ g, a0 = some ⟨g, 0, none⟩ → ¬ O g ∧ wr.heap[g]? = some (.cells cur0 3 (0, 0))) ∧ wr.heap[b]? = some (.cells (hcells t s) 141 (0, 0)) ∧ wr.heap[p]? = some (.cells #[.pointer (some ⟨b, 0, none⟩)] 137 (0, 0))) (fun i _ => l0.length - (intOf i).toNat)
  case atStart => exact ⟨0, O0, rfl, Nat.zero_le _, by simpa using hJ2, ⟨ob0, op0⟩, OG.out, hb2, hp2⟩
  case round =>
    obtain ⟨m, O, hm, hml, hjm, ⟨ob, op⟩, hg', hbr, hpr⟩ := hrel
    subst hm
    have hg := Lib.hid hg'
    clear hb2 hp2 hJ2 OG hg'
    rcases Nat.lt_or_ge m l0.length with hlt | hge
    · obtain ⟨x, hx8, ⟨hxm, r, hr⟩, hnext, hsplit⟩ := take_round (g := 0) hlt hx0.out B0 (l1.map fun l => (8 * 1 + l, 1))
      subst hr
      obtain ⟨or, hrr⟩ := hg.out r rfl
      obtain ⟨fn, tmps, assign, body, hy, hR⟩ := hY.out _ O _ _ wr hsplit hjm
      have hy : Sem.run Tryz.prog (Instr.yield l #[I x, .int .i64 0]) wr = .ok (.round l fn tmps assign body) wr := by rw [← hy]; simp
      have HR := Lib.hid hR
      have HN := Lib.hid hnext
      clear hsplit hR hnext hg
      have hwr : IntKind.i64.wrap (x : Int) = x := wrap_small x hx8
      have hwr2 : IntKind.i64.wrap (8 + (x : Int)) = 8 + x := wrap_small2 x hx8
      have hdec : decide ((m : Int) < (l0.length : Int)) = true := by simpa using hlt
      gi_wp2
      refine HR.out.mono ?_
      clear hy HR
      rintro e W4 (⟨rfl, ⟨O', hJ4, hO'⟩, hz4, hk4⟩ | ⟨rfl, hJx4⟩)
      · have hb4 := (hk4 b (Array.getElem?_eq_some_iff.1 hbr).1 ob).trans hbr
        have hp4 := (hk4 p (Array.getElem?_eq_some_iff.1 hpr).1 op).trans hpr
        have hr4 := (hk4 r (Array.getElem?_eq_some_iff.1 hrr).1 or).trans hrr
        have hl3 : b < wr.heap.size ∧ p < wr.heap.size ∧ r < wr.heap.size := ⟨(Array.getElem?_eq_some_iff.1 hbr).1, (Array.getElem?_eq_some_iff.1 hpr).1, (Array.getElem?_eq_some_iff.1 hrr).1⟩
        have bO' : ¬ O' b ∧ ¬ O' p ∧ ¬ O' r := ⟨fun h => (hO' b h).elim ob (fun h => Nat.lt_irrefl _ (Nat.lt_of_lt_of_le hl3.1 h)), fun h => (hO' p h).elim op (fun h => Nat.lt_irrefl _ (Nat.lt_of_lt_of_le hl3.2.1 h)), fun h => (hO' r h).elim or (fun h => Nat.lt_irrefl _ (Nat.lt_of_lt_of_le hl3.2.2 h))⟩
        clear hk4 hl3 hO' hbr hpr hrr
        gi_wp2
        go_roundw
        case rel => exact ⟨m + 1, O', by go_num, hlt, by rw [← HN.out]; exact hJ4, ⟨bO'.1, bO'.2.1⟩, fun g hg => one_addr hg ▸ ⟨bO'.2.2, hr4⟩, hb4, hp4⟩
        case measure => simp [intOf]; omega
      · gi_wp2
        refine bodyPost_ret (results_none rfl _ _ _) rfl ?_
        exact ⟨⟨_, rfl⟩, .inr hJx4⟩
    · have hme : m = l0.length := Nat.le_antisymm hml hge
      have hdec : decide (m < l0.length) = false := by simpa using hge
      have hJf := hjm
      rw [hme, List.take_length] at hJf
      clear hjm hg hme hge hml
      gi_wp2
      rw [roundsIn_succ]
      obtain ⟨Wq, rfl⟩ : ∃ Wq : World, Wq = wr := ⟨_, rfl⟩
      obtain ⟨O1, rfl⟩ : ∃ O1 : Nat → Prop, O1 = O := ⟨_, rfl⟩
      have hb' := hbr
      have hp' := hpr
      have h0 := hJf
      have ob0 := ob
      have op0 := op
      clear hbr hpr hJf ob op
      gi_wp2_with (first
        | (refine ⟨trivial, ?_⟩; gi_at_call 166; refine (callsIn_wide.2 (S1 _)).mono ?_; rintro e W11 ⟨rfl, hc1⟩)
        | (refine ⟨trivial, ?_⟩; gi_at_call 167; refine (callsIn_wide.2 (A1 _)).mono ?_; rintro e W21 ⟨v, rfl, hown, hc2⟩; obtain ⟨a1, cap1, cur1, rfl, hx1', hl1'⟩ := own_slice hown; clear hown))
      have hC2 : Ch [] Wq W21 := hc1.trans hc2
      have hb2 := (hC2.block b (Array.getElem?_eq_some_iff.1 hb').1 (by simp)).trans hb'
      have hp2 := (hC2.block p (Array.getElem?_eq_some_iff.1 hp').1 (by simp)).trans hp'
      have hJ2 := hJ _ _ _ _ h0 hC2
      have hx1 := Lib.hid hx1'
      have og0 : ∀ g, a1 = some ⟨g, 0, none⟩ → ¬ O1 g ∧ W21.heap[g]? = some (.cells cur1 3 (0, 0)) := fun g hg => ⟨fun h => by have := (hO.out _ _ _ h0 g h).1; have := hc1.size; have := (hl1' g hg).1; omega, (hl1' g hg).2⟩
      have OG := Lib.hid og0
      clear hb' hp' hc2 hc1 hx1' hl1' og0 h0
      gi_loopw [28] (fun i wr => ∃ (m : Nat) (O : Nat → Prop), i = .int .i64 m ∧ m ≤ l1.length ∧ J ((l0.map fun l => (8 * 0 + l, 0)) ++ (l1.take m).map (fun l => (8 * 1 + l, 1))) O wr ∧ (¬ O b ∧ ¬ O p) ∧
        (∀ g, a1 = some ⟨g, 0, none⟩ → ¬ O g ∧ wr.heap[g]? = some (.cells cur1 3 (0, 0))) ∧ wr.heap[b]? = some (.cells (hcells t s) 141 (0, 0)) ∧ wr.heap[p]? = some (.cells #[.pointer (some ⟨b, 0, none⟩)] 137 (0, 0))) (fun i _ => l1.length - (intOf i).toNat)
      case atStart => exact ⟨0, O1, rfl, Nat.zero_le _, by simpa using hJ2, ⟨ob0, op0⟩, OG.out, hb2, hp2⟩
      case round =>
        obtain ⟨m, O, hm, hml, hjm, ⟨ob, op⟩, hg', hbr, hpr⟩ := hrel
        subst hm
        have hg := Lib.hid hg'
        clear hb2 hp2 hJ2 OG hg'
        rcases Nat.lt_or_ge m l1.length with hlt | hge
        · obtain ⟨x, hx8, ⟨hxm, r, hr⟩, hnext, hsplit⟩ := take_round (g := 1) hlt hx1.out B1 ([])
          subst hr
          obtain ⟨or, hrr⟩ := hg.out r rfl
          obtain ⟨fn, tmps, assign, body, hy, hR⟩ := hY.out _ O _ _ wr (by rw [List.append_assoc, ← hsplit, List.append_nil]) hjm
          have hy : Sem.run Tryz.prog (Instr.yield l #[.int .i64 (8 + x), .int .i64 1]) wr = .ok (.round l fn tmps assign body) wr := by rw [← hy]; simp
          have HR := Lib.hid hR
          have HN := Lib.hid hnext
          clear hsplit hR hnext hg
          have hwr : IntKind.i64.wrap (x : Int) = x := wrap_small x hx8
          have hwr2 : IntKind.i64.wrap (8 + (x : Int)) = 8 + x := wrap_small2 x hx8
          have hdec : decide ((m : Int) < (l1.length : Int)) = true := by simpa using hlt
          gi_wp2
          refine HR.out.mono ?_
          clear hy HR
          rintro e W4 (⟨rfl, ⟨O', hJ4, hO'⟩, hz4, hk4⟩ | ⟨rfl, hJx4⟩)
          · have hb4 := (hk4 b (Array.getElem?_eq_some_iff.1 hbr).1 ob).trans hbr
            have hp4 := (hk4 p (Array.getElem?_eq_some_iff.1 hpr).1 op).trans hpr
            have hr4 := (hk4 r (Array.getElem?_eq_some_iff.1 hrr).1 or).trans hrr
            have hl3 : b < wr.heap.size ∧ p < wr.heap.size ∧ r < wr.heap.size := ⟨(Array.getElem?_eq_some_iff.1 hbr).1, (Array.getElem?_eq_some_iff.1 hpr).1, (Array.getElem?_eq_some_iff.1 hrr).1⟩
            have bO' : ¬ O' b ∧ ¬ O' p ∧ ¬ O' r := ⟨fun h => (hO' b h).elim ob (fun h => Nat.lt_irrefl _ (Nat.lt_of_lt_of_le hl3.1 h)), fun h => (hO' p h).elim op (fun h => Nat.lt_irrefl _ (Nat.lt_of_lt_of_le hl3.2.1 h)), fun h => (hO' r h).elim or (fun h => Nat.lt_irrefl _ (Nat.lt_of_lt_of_le hl3.2.2 h))⟩
            clear hk4 hl3 hO' hbr hpr hrr
            gi_wp2
            go_roundw
            case rel => exact ⟨m + 1, O', by go_num, hlt, by rw [← HN.out, ← List.append_assoc]; exact hJ4, ⟨bO'.1, bO'.2.1⟩, fun g hg => one_addr hg ▸ ⟨bO'.2.2, hr4⟩, hb4, hp4⟩
            case measure => simp [intOf]; omega
          · gi_wp2
            refine bodyPost_ret (results_none rfl _ _ _) rfl ?_
            exact ⟨⟨_, rfl⟩, .inr hJx4⟩
        · have hme : m = l1.length := Nat.le_antisymm hml hge
          have hdec : decide (m < l1.length) = false := by simpa using hge
          have hJf := hjm
          rw [hme, List.take_length] at hJf
          clear hjm hg hme hge hml
          gi_wp2
          rw [roundsIn_succ]
          gi_wp2
          refine bodyPost_end (results_none rfl _ _ _) rfl ?_
          exact ⟨⟨_, rfl⟩, .inl ⟨_, hJf⟩⟩
end
section
attribute [local go_sem] zap
def tri : Nat → Nat
  | 0 => 0
  | j + 1 => tri j + j
theorem g0_mod (h : BitVec 64) : h.toNat % 2 = g0 h := by
  unfold g0
  have hb : h.toNat % 2 = (h &&& 1#64).toNat := by
    rw [BitVec.toNat_and]
    show h.toNat % 2 = h.toNat &&& (2 ^ 1 - 1)
    rw [Nat.and_two_pow_sub_one_eq_mod]
  by_cases hz : h &&& 1#64 = 0#64
  · rw [if_pos hz, hb, hz]; rfl
  · rw [if_neg hz]
    have : (h &&& 1#64).toNat ≠ 0 := fun e => hz (BitVec.eq_of_toNat_eq (by rw [e]; rfl))
    omega
theorem g0_rem (h : BitVec 64) : (N h).tmod 2 = (g0 h : Int) := by
  rw [Int.tmod_eq_emod_of_nonneg (N_nonneg h), ← g0_mod]
  unfold N
  rfl
theorem N_two : N 2#64 = 2 := rfl
attribute [local go_sem] N_two
theorem g0_lt2 (h : BitVec 64) : g0 h < 2 := by rw [← g0_mod]; omega
theorem rAt8_any (h : BitVec 64) (n : Nat) (hn : n < 2) (w : World) : Calls Tryz.prog 221 #[.int .i64 2, U h, I n] w fun e w' => e = .returned (I (((g0 h + n) % 2 : Nat) : Int)) ∧ w = w' := by
  have h1 := g0_rem h
  have h2 := g0_lt2 h
  have h3 : ((g0 h : Nat) : Int) < 2 := by omega
  generalize g0 h = g at *
  go_enter Tryz.func221, Tryz.ntmps221
  go_wp2
  go_loop [7, 16] (fun v i => ∃ j : Nat, j ≤ n + 1 ∧ i = .int .i64 j ∧ v = I ((g + tri j : Nat) : Int)) (fun _ i => n + 1 - (intOf i).toNat)
  case atStart => exact ⟨0, by omega, rfl, rfl⟩
  case round =>
    obtain ⟨j, hj, rfl, rfl⟩ := hrel
    by_cases hlt : j < n + 1
    · have HS : Hid (tri (j + 1) = tri j + j) := Lib.hid rfl
      have ht : tri j < 4 := by
        match j, hlt with
        | 0, _ => decide
        | 1, _ => decide
        | j + 2, h => omega
      generalize tri j = m at *
      go_wp2
      go_round
      case rel => exact ⟨j + 1, by omega, by go_num, by rw [HS.out]; go_num⟩
      case measure => simp [intOf]; omega
    · have hjn : j = n + 1 := by omega
      have ht : tri j = n := by
        subst hjn
        match n, hn with
        | 0, _ => rfl
        | 1, _ => rfl
      rw [ht]
      go_wp2
      go_ret
      exact ⟨rfl, rfl⟩
def icells (l : List Nat) : List Value := l.map fun (n : Nat) => I (n : Int)
theorem icells_snoc (l : List Nat) (n : Nat) : icells (l ++ [n]) = icells l ++ [I (n : Int)] := by unfold icells; rw [List.map_append]; rfl
def grp (g j : Nat) : List Nat := (List.range j).map fun i => (g + i) % 2
theorem grp_succ (g j : Nat) : icells (grp g (j + 1)) = icells (grp g j) ++ [I (((g + j) % 2 : Nat) : Int)] := by
  unfold grp; rw [List.range_succ, List.map_append]; exact icells_snoc _ _
theorem grp_two (g : Nat) (hg : g < 2) : grp g 2 = [g, 1 - g] := by
  match g, hg with
  | 0, _ => rfl
  | 1, _ => rfl
theorem rRow8_any (h : BitVec 64) (w : World) : Calls Tryz.prog 153 #[.int .i64 2, U h] w fun e w' => ∃ a c, e = .returned (.slice a 2 c) ∧ w'.ownsRow w.heap.size 3 1 (.slice a 2 c) 2 (icells (grp (g0 h) 2)) ∧ Ch [] w w' := by
  obtain ⟨i0, hi, hz0, hz1, hz2⟩ := info_parts infoInt
  go_enter Tryz.func153, Tryz.ntmps153
  go_wp2
  go_loopw [5, 8] (fun v i wr => ∃ j : Nat, i = .int .i64 j ∧ j ≤ 2 ∧ wr.ownsRow w.heap.size 3 1 v j (icells (grp (g0 h) j)) ∧ Ch [] w wr) (fun _ i _ => 2 - (intOf i).toNat)
  case atStart => exact ⟨0, rfl, by omega, World.ownsRow_nil _ _ _ _, Ch.refl _ _⟩
  case round =>
    obtain ⟨j, hj, hj8, hown, hcr⟩ := hrel
    subst hj
    have hz := hcr.size
    by_cases hlt : j < 2
    · have A1 := fun w => rAt8_any h j hlt w
      have HS := Lib.hid (grp_succ (g0 h) j)
      have hob := own_block hown
      generalize icells (grp (g0 h) j) = ys at *
      generalize (g0 h + j) % 2 = gj at *
      go_wp2_with (first
        | (go_at_call 221; refine (A1 _).mono ?_; rintro e w' ⟨rfl, rfl⟩)
        | (at_builtin; refine wpList_append_own _ rfl _ _ 154 rfl w.heap.size 3 i0 (.int .i64 0) 1 8 Tryz.underlying154 hi hz0 hz1 hz2 rfl (by decide) _ _ _ rfl (hown.alloc _) ⟨wr.heap.size, 0, none⟩ 1 1 [I (gj : Int)] rfl rfl (cell_one_new _ _ _) (by simp [Value.oneCell']) (by unfold maxLen; omega) (by omega) (by simp; omega) ?_; intro v' w1 hown' hgrow _; have HO := Lib.hid hown'; have HG := Lib.hid hgrow; clear hown' hgrow))
      have hgr : (wr.alloc (.cells #[I (gj : Int)] 3)).grownBy w1 u5.ownBlock := HG.out
      have hW1 : Ch (u5.ownBlock.toList) wr w1 := (((Ch.refl [] wr).alloc (.cells #[I (gj : Int)] 3)).of_nil).trans2 (Ch.of_grown (S := u5.ownBlock.toList) hgr (fun k hk => by simp [hk])) (fun t ht => .inl ht)
      have hSS : ∀ s ∈ u5.ownBlock.toList, w.heap.size ≤ s := fun s hs => hob s (by simpa using hs)
      go_roundw
      case rel => exact ⟨j + 1, by go_num, hlt, by rw [HS.out]; exact HO.out, hcr.trans2 hW1 (fun t ht => .inr (hSS t ht))⟩
      case measure => simp [intOf]; omega
    · have hj8 : j = 2 := by omega
      subst hj8
      have HO := Lib.hid hown
      obtain ⟨a, c, rfl⟩ := own_form hown
      clear hown
      go_wp2
      go_ret
      exact ⟨a, c, rfl, HO.out, hcr⟩
end
end Go.Proofs.Hc
