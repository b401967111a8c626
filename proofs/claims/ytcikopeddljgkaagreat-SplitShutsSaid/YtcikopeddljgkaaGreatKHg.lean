/- Lanes of a mask, one by one. -/
import Derived.Test.YtcikopeddljgkaaGreatKHr
import Derived.Lib.Tables
import Derived.RangeFuncBox
import Derived.WalkSpells
set_option linter.unusedSimpArgs false
set_option linter.unusedVariables false
set_option maxRecDepth 100000
namespace Go.Proofs.Hc
open Go.RowKit
attribute [local go_sem] zbr zby zau zba zbl zay zbk zbm zbu signed64 signed8 zas BitVec.ofInt_add BitVec.ofInt_mul ofInt_sub' zaw zax wide8 eqN neN zbx shr1 shr7 shr56
attribute [local go_sem high] zaz zbt
def lanesOf (m : BitVec 8) : List Nat := (List.range 8).filter fun i => m.getLsbD i
def tz (m : BitVec 8) : Nat := (((Lib.ntz8tab[m.toNat]?).getD 0).toNat)
theorem ntz_N (m : BitVec 8) : Lib.ntz8 (N m) = (tz m : Int) := by unfold Lib.ntz8 tz N; simp
theorem lanes_step : ∀ m : BitVec 8, m ≠ 0#8 → lanesOf m = tz m :: lanesOf (m &&& (m - 1#8)) := by decide +kernel
theorem lanes_zero : lanesOf 0#8 = [] := by decide +kernel
theorem tz8_any (b : BitVec 8) (w : World) :
    Calls Tryz.prog 278 #[Y b] w fun e w' => e = .returned (I (tz b)) ∧ w = w' := by
  have h0 := N_nonneg b
  have h1 : N b ≤ 255 := by have := N8_lt b; omega
  have h2 : 0 ≤ Lib.ntz8 (N b) := by unfold Lib.ntz8; omega
  have h3 : Lib.ntz8 (N b) < 256 := by unfold Lib.ntz8; have := ((Lib.ntz8tab[(N b).toNat]?).getD 0).toNat_lt; omega
  go_enter Tryz.func278, Tryz.ntmps278
  go_wp2
  go_ret
  exact ⟨by rw [← ntz_N]; rfl, rfl⟩
attribute [local go_sem] Oper.semAt_some
attribute [local go_sem] zan zbv zae zal zad zaj
attribute [local go_sem ↓] zab zav zbb zaa
def lanesLeft (bm : Nat) (w : World) : Nat :=
  match w.heap[bm]? with
  | some (.cells cs _ _) => match cs[0]? with
    | some (Value.int _ n) => (lanesOf (BitVec.ofInt 8 n)).length
    | _ => 0
  | _ => 0
theorem lanesLeft_eq {bm : Nat} {w : World} {m : BitVec 8} {t : TypeId} {fr : Nat × Nat} (h : w.heap[bm]? = some (.cells #[Y m] t fr)) : lanesLeft bm w = (lanesOf m).length := by
  simp [lanesLeft, h, zas]
theorem each_yields (m : BitVec 8) (bm : Nat) (w : World) (hb : w.heap[bm]? = some (.cells #[Y m] 121 (0, 0))) :
    Yields Tryz.prog 277 #[.pointer (some ⟨bm, 0, none⟩)] (fun i : Nat => #[I i]) (lanesOf m) [bm] [bm] w := by
  intro n l J Jx W hW hk hJ hJx hY h0
  have hb' := (hk bm (by simp)).trans hb
  refine callsIn_of_wp Tryz.func277 rfl trivial ?_
  simp only [Tryz.ntmps277, List.size_toArray, List.length_cons, List.length_nil, Nat.reduceAdd, Nat.reduceSub, Array.replicate_succ, Array.replicate_zero, List.push_toArray, List.append_toArray, List.nil_append, List.cons_append]
  gi_wp2
  gi_loopw [3] (fun _ wr => ∃ pre m', wr.heap[bm]? = some (.cells #[Y m'] 121 (0, 0)) ∧ lanesOf m = pre ++ lanesOf m' ∧ J pre wr) (fun _ wr => lanesLeft bm wr)
  case atStart => exact ⟨[], m, hb', rfl, h0⟩
  case round =>
    obtain ⟨pre, m', hm, hx, hj⟩ := hrel
    by_cases hz : m' = 0#8
    · subst hz
      have hz : (N (0#8) != 0) = false := by decide
      have HX := Lib.hid hx
      clear hx
      gi_wp2
      refine bodyPost_end (results_none rfl _ _ _) rfl ?_
      exact ⟨⟨_, rfl⟩, .inl (by rw [HX.out, lanes_zero, List.append_nil]; exact hj)⟩
    · have hne : (N m' != 0) = true := by
        rw [bne_iff_ne]; intro h; exact hz ((N_inj m' 0#8).1 (by rw [h]; rfl))
      have hst := lanes_step m' hz
      obtain ⟨fn, tmps, assign, body, hy, hR⟩ := hY pre (tz m') (lanesOf (m' &&& (m' - 1#8))) wr (by rw [hx, hst]) hj
      have HX := Lib.hid hx
      have HS := Lib.hid hst
      clear hx hst hz
      gi_wp2_with (refine ⟨trivial, ?_⟩; gi_at_call 278; refine (callsIn_wide.2 (tz8_any _ _)).mono ?_; rintro e w' ⟨rfl, rfl⟩)
      refine hR.mono ?_
      rintro e W3 (⟨rfl, hJ3, hz3, hk3⟩ | ⟨rfl, hJx3⟩)
      · have hm3 := (hk3 bm (by simp)).trans hm
        clear hk3 hy
        gi_wp2
        go_roundw
        case rel =>
          refine ⟨pre ++ [tz m'], m' &&& (m' - 1#8), ?_, by rw [HX.out, HS.out]; simp, hJ _ _ _ hJ3 ((Ch.refl _ _).setCell (.inl (by simp)) _)⟩
          rw [zaa, if_pos rfl, hm3]; rfl
        case measure =>
          rw [lanesLeft_eq hm, HS.out, lanesLeft_eq (m := m' &&& (m' - 1#8)) (by rw [zaa, if_pos rfl, hm3]; rfl)]
          simp
      · gi_wp2
        refine bodyPost_ret (results_none rfl _ _ _) rfl ?_
        exact ⟨⟨_, rfl⟩, .inr hJx3⟩
end Go.Proofs.Hc
namespace Go.Proofs.Hc
open Go.RowKit
attribute [local go_sem] zbr zby zau zba zbl zay zbk zbm zbu signed64 signed8 zas BitVec.ofInt_add BitVec.ofInt_mul ofInt_sub' zaw zax wide8 eqN neN zbx shr1 shr7 shr56
attribute [local go_sem high] zaz zbt
attribute [local go_sem] Oper.semAt_some zak
attribute [local go_sem] zan zbv zae zal zad zaj
attribute [local go_sem ↓] zab zav zbb zaa
theorem each_any (m : BitVec 8) (w : World) :
    Calls Tryz.prog 229 #[Y m] w fun e w' => e = .returned (.func (.func 277) #[] #[.pointer (some ⟨w.heap.size, 0, none⟩)]) ∧ w' = w.alloc (.cells #[Y m] 121) := by
  go_enter Tryz.func229, Tryz.ntmps229
  go_wp2
  go_ret
  exact ⟨rfl, rfl⟩
def firstV (m : BitVec 8) : Value := match lanesOf m with
  | [] => .tuple #[I 0, .bool false]
  | x :: _ => .tuple #[I x, .bool true]
theorem enters_each (args : Array Value) (w : World) : (callFunc 277 args).run Tryz.prog w = .ok (.enter 277 args) w := by kernel_rfl
theorem first_any (m : BitVec 8) (w : World) :
    Calls Tryz.prog 266 #[Y m] w fun e w' => e = .returned (firstV m) ∧ Ch [] w w' := by
  refine (callsIn_wide (n := 3)).1 ?_
  refine callsIn_of_wp_marks Tryz.func266 rfl trivial ?_
  simp only [Tryz.ntmps266, List.size_toArray, List.length_cons, List.length_nil, Nat.reduceAdd, Nat.reduceSub, Array.replicate_succ, Array.replicate_zero, List.push_toArray, List.append_toArray, List.nil_append, List.cons_append]
  gi_wp2_with (refine ⟨trivial, ?_⟩; gi_at_call 229; refine (callsIn_wide.2 (each_any _ _)).mono ?_; rintro e w' ⟨rfl, rfl⟩)
  obtain ⟨W0, hW0⟩ : ∃ W0, ((w.alloc (.cells #[.int .i64 0] 3)).alloc (.cells #[.bool false] 4)).alloc (.cells #[Y m] 121) = W0 := ⟨_, rfl⟩
  have hs0 : W0.heap.size = w.heap.size + 3 := by rw [← hW0]; simp
  have hC0 : Ch [] w W0 := by rw [← hW0]; exact (((Ch.refl [] w).alloc _).alloc _).alloc _
  have b0 : W0.heap[w.heap.size]? = some (.cells #[I 0] 3 (0, 0)) := by rw [← hW0]; simp [go_sem] <;> omega
  have b1 : W0.heap[w.heap.size + 1]? = some (.cells #[.bool false] 4 (0, 0)) := by rw [← hW0]; simp [go_sem] <;> omega
  have b2 : W0.heap[w.heap.size + 1 + 1]? = some (.cells #[Y m] 121 (0, 0)) := by rw [← hW0]; simp [go_sem] <;> omega
  rw [hW0]
  clear hW0
  refine range_law (n := 1) (xs := lanesOf m) rfl enters_each (each_yields m _ W0 b2) (fun _ => rfl) (by simp <;> omega) (by simp <;> omega)
    (fun pre W => pre = [] ∧ Ch [] w W ∧ W.heap[w.heap.size]? = some (.cells #[I 0] 3 (0, 0)) ∧ W.heap[w.heap.size + 1]? = some (.cells #[.bool false] 4 (0, 0)))
    (fun c W => c = .ret ∧ ∃ x post, lanesOf m = x :: post ∧ Ch [] w W ∧ W.heap[w.heap.size]? = some (.cells #[I (x : Nat)] 3 (0, 0)) ∧ W.heap[w.heap.size + 1]? = some (.cells #[.bool true] 4 (0, 0)))
    ?hI ?hIx ⟨rfl, hC0, b0, b1⟩ ?a₁ ?assign ?body ?done ?stop
  case hI =>
    rintro pre A B ⟨rfl, hc, h1, h2⟩ hAB
    exact ⟨rfl, hc.trans2 hAB (by simp <;> omega), (hAB.block _ (Array.getElem?_eq_some_iff.1 h1).1 (by simp <;> omega)).trans h1, (hAB.block _ (Array.getElem?_eq_some_iff.1 h2).1 (by simp <;> omega)).trans h2⟩
  case hIx =>
    rintro c A B ⟨rfl, x, post, hx, hc, h1, h2⟩ hAB
    exact ⟨rfl, x, post, hx, hc.trans2 hAB (by simp <;> omega), (hAB.block _ (Array.getElem?_eq_some_iff.1 h1).1 (by simp <;> omega)).trans h1, (hAB.block _ (Array.getElem?_eq_some_iff.1 h2).1 (by simp <;> omega)).trans h2⟩
  case a₁ => exact fun x => { tmps := #[Y m, undef, .pointer (some ⟨w.heap.size, 0, none⟩), .pointer (some ⟨w.heap.size + 1, 0, none⟩), I x, Y m, .func (.func 277) #[] #[.pointer (some ⟨w.heap.size + 1 + 1, 0, none⟩)], I x, undef], defers := [] }
  case assign =>
    intro x W K hK
    gi_wp2
    exact hK
  case body =>
    rintro pre x post W hx ⟨rfl, hc, h1, h2⟩ hsz
    gi_wp2
    have hlt := hc.size
    have hl1 := (Array.getElem?_eq_some_iff.1 h1).1
    refine ⟨⟨rfl, x, post, hx, (hc.setCell (p := ⟨w.heap.size, 0, none⟩) (.inr (Nat.le_refl _)) _).setCell (p := ⟨w.heap.size + 1, 0, none⟩) (.inr (by simp)) _, ?_, ?_⟩, ?_⟩
    · simp only [zaa, h1]; simp [zad]
    · simp only [zaa, h2]; simp [zad]
    · intro b hb
      simp only [zaa]
      have hb' : b ≠ w.heap.size ∧ b ≠ w.heap.size + 1 := by rcases hb with rfl | rfl | hb <;> simp at * <;> omega
      rw [if_neg hb'.2, if_neg hb'.1]
  case done =>
    rintro W ⟨hx, hc, h1, h2⟩ hd
    gi_wp2
    refine marks_ret (v := .tuple #[I 0, .bool false]) ?_ (results_cell2 Tryz.results266 _ _ _ _ rfl rfl (load_one Tryz.underlying3 rfl _ _ (fr := (0, 0)) (t := 3) ?_) (load_one Tryz.underlying4 rfl _ _ (fr := (0, 0)) (t := 4) ?_)) ⟨by rw [firstV, hx], ?_⟩
    · simp only [zaa]; rw [if_neg (by omega), if_neg (by omega)]; exact hd
    · simp only [zcr, zaa, h1]; rw [if_neg (by omega)]; simp [zad]
    · simp only [zcr, zaa, h2]; rw [if_neg (by omega)]; simp [zad]
    · exact ((hc.setCell (p := ⟨w.heap.size, 0, none⟩) (.inr (Nat.le_refl _)) _).setCell (p := ⟨w.heap.size + 1, 0, none⟩) (.inr (by simp)) _).trans2 (zbs _ _ _) (by simp <;> omega)
  case stop =>
    rintro c W ⟨rfl, x, post, hx, hc, h1, h2⟩ hd
    gi_wp2
    refine marks_ret (v := .tuple #[I x, .bool true]) hd (results_cell2 Tryz.results266 _ _ _ _ rfl rfl (load_one Tryz.underlying3 rfl _ _ (fr := (0, 0)) (t := 3) ?_) (load_one Tryz.underlying4 rfl _ _ (fr := (0, 0)) (t := 4) ?_)) ⟨by rw [firstV, hx], ?_⟩
    · rw [zcr, if_neg (by omega)]; exact h1
    · rw [zcr, if_neg (by omega)]; exact h2
    · exact hc.trans2 (zbs _ _ _) (by simp <;> omega)
end Go.Proofs.Hc
namespace Go.Proofs.Hc
open Go.RowKit
attribute [local go_sem] zbr zby zau zba zbl zay zbk zbm zbu signed64 signed8 zas BitVec.ofInt_add BitVec.ofInt_mul ofInt_sub' zaw zax wide8 eqN neN zbx shr1 shr7 shr56
attribute [local go_sem high] zaz zbt
attribute [local go_sem] Oper.semAt_some zak
attribute [local go_sem] zan zbv zae zal zad zaj
attribute [local go_sem ↓] zab zav zbb zaa
theorem infoInt : (Tryz.prog.info? 3).map (fun i => (i.zero, i.size, i.bytes)) = some (some (I 0), 1, 8) := by kernel_rfl
theorem lanes_le (m : BitVec 8) : (lanesOf m).length ≤ 8 := by
  unfold lanesOf; exact Nat.le_trans (List.length_filter_le _ _) (by simp)
theorem all_any (m : BitVec 8) (w : World) :
    Calls Tryz.prog 167 #[Y m] w fun e w' => ∃ v, e = .returned v ∧ w'.ownsRow w.heap.size 3 1 v (lanesOf m).length ((lanesOf m).map fun i : Nat => I i) ∧ Ch [] w w' := by
  obtain ⟨i0, hi, hz0, hz1, hz2⟩ := info_parts infoInt
  refine (callsIn_wide (n := 3)).1 ?_
  refine callsIn_of_wp_marks Tryz.func167 rfl trivial ?_
  simp only [Tryz.ntmps167, List.size_toArray, List.length_cons, List.length_nil, Nat.reduceAdd, Nat.reduceSub, Array.replicate_succ, Array.replicate_zero, List.push_toArray, List.append_toArray, List.nil_append, List.cons_append]
  gi_wp2_with (refine ⟨trivial, ?_⟩; gi_at_call 229; refine (callsIn_wide.2 (each_any _ _)).mono ?_; rintro e w' ⟨rfl, rfl⟩)
  obtain ⟨W0, hW0⟩ : ∃ W0, (w.alloc (.cells #[.slice none 0 0] 154)).alloc (.cells #[Y m] 121) = W0 := ⟨_, rfl⟩
  have hs0 : W0.heap.size = w.heap.size + 2 := by rw [← hW0]; simp
  have hC0 : Ch [] w W0 := by rw [← hW0]; exact ((Ch.refl [] w).alloc _).alloc _
  have b0 : W0.heap[w.heap.size]? = some (.cells #[.slice none 0 0] 154 (0, 0)) := by rw [← hW0]; simp [go_sem] <;> omega
  have b2 : W0.heap[w.heap.size + 1]? = some (.cells #[Y m] 121 (0, 0)) := by rw [← hW0]; simp [go_sem] <;> omega
  rw [hW0]
  clear hW0
  refine range_law (n := 1) (xs := lanesOf m) rfl enters_each (each_yields m _ W0 b2) (fun _ => rfl) (by simp <;> omega) (by simp <;> omega)
    (fun pre W => Ch [] w W ∧ ∃ v, W.heap[w.heap.size]? = some (.cells #[v] 154 (0, 0)) ∧ W.ownsRow (W0.heap.size + 2) 3 1 v pre.length (pre.map fun i : Nat => I i))
    (fun _ _ => False)
    ?hI (fun _ _ _ h _ => h.elim) ⟨hC0, _, b0, World.ownsRow_nil _ _ _ _⟩ ?a₁ ?assign ?body ?done (fun _ _ h _ => h.elim)
  case hI =>
    rintro pre A B ⟨hc, v, h1, h2⟩ hAB
    exact ⟨hc.trans2 hAB (by simp <;> omega), v, (hAB.block _ (Array.getElem?_eq_some_iff.1 h1).1 (by simp <;> omega)).trans h1, own_ch h2 hAB (by simp <;> omega)⟩
  case a₁ => exact fun x => { tmps := #[Y m, undef, .slice none 0 0, .pointer (some ⟨w.heap.size, 0, none⟩), I x, Y m, .func (.func 277) #[] #[.pointer (some ⟨w.heap.size + 1, 0, none⟩)], I x, undef, undef, undef, undef, undef], defers := [] }
  case assign =>
    intro x W K hK
    gi_wp2
    exact hK
  case body =>
    rintro pre x post W hx ⟨hc, v, h1, h2⟩ hsz
    have hlen : pre.length + 1 ≤ 8 := by have := lanes_le m; rw [hx] at this; simp at this; omega
    have HX := Lib.hid hx
    clear hx
    gi_wp2_with (gi_at_builtin; go_must (refine wpListIn_append_own _ rfl _ _ 154 rfl (W0.heap.size + 2) 3 i0 (I 0) 1 8 Tryz.underlying154 hi hz0 hz1 hz2 rfl (by decide) _ _ _ rfl (h2.alloc _) ⟨W.heap.size, 0, none⟩ 1 1 [I x] rfl rfl (cell_one_new _ _ _) (by simp [Value.oneCell']) (by unfold maxLen; omega) (by omega) (by simp; omega) ?_; intro v' w1 hown' hgrow _; obtain ⟨g', cap', rfl⟩ := ownsRow_succ hown'; have hgr : (W.alloc (.cells #[I x] 3)).grownBy w1 v.ownBlock := hgrow; clear hgrow; have h1' : w1.heap[w.heap.size]? = some (.cells #[v] 154 (0, 0)) := (hgr.block w.heap.size (by simp; omega) (fun e => by have := own_block h2 _ e.symm; omega)).trans (by rw [zab, if_neg (by omega)]; exact h1)))
    have hz := hc.size
    have hob := own_block h2
    have hW1 : Ch (v.ownBlock.toList) W w1 := ((Ch.refl [] W).alloc _).of_nil.trans2 (Ch.of_grown (S := v.ownBlock.toList) hgr (fun k hk => by simp [hk])) (fun t ht => .inl ht)
    have hS : ∀ s ∈ v.ownBlock.toList, W0.heap.size + 2 ≤ s := fun s hs => hob s (by simpa using hs)
    have hc1 : Ch [] w w1 := hc.trans2 hW1 (fun t ht => .inr (by have := hS t ht; omega))
    have hw1 := hW1.size
    refine ⟨⟨hc1.setCell (p := ⟨w.heap.size, 0, none⟩) (.inr (Nat.le_refl _)) _, .slice (some ⟨g', 0, none⟩) (pre.length + 1) cap', ?_, ?_⟩, by simp [World.setCell]; omega, ?_⟩
    · simp only [zaa, h1']; simp [zad]
    · have := own_ch (S := [w.heap.size]) hown' ((Ch.refl _ w1).setCell (p := ⟨w.heap.size, 0, none⟩) (.inl (by simp)) (.slice (some ⟨g', 0, none⟩) (pre.length + 1) cap')) (by simp; omega)
      simpa using this
    · intro b hb
      have hb' : b ≠ w.heap.size ∧ b < W0.heap.size + 2 := by rcases hb with rfl | rfl | hb <;> simp at * <;> omega
      rw [zaa, if_neg hb'.1]
      exact hW1.block b (by omega) (fun hs => by have := hS b hs; omega)
  case done =>
    rintro W ⟨hc, v, h1, h2⟩ hd
    gi_wp2
    refine marks_ret (v := v) hd (results_tmp Tryz.results167 _ _ _) ⟨v, rfl, ?_, hc.trans2 (zbs _ _ _) (by simp <;> omega)⟩
    exact own_mono (own_ch h2 (zbs _ _ _) (by simp <;> omega)) (by omega)
end Go.Proofs.Hc
