/- Package split: on. -/
import Derived.Test.YtcikopeddljgkaaGreatKPe
import Derived.Test.YtcikopeddljgkaaGreatKPg
import Derived.Test.YtcikopeddljgkaaGreatKPr
import Derived.Test.YtcikopeddljgkaaGreatK0
set_option linter.unusedSimpArgs false
set_option linter.unusedVariables false
set_option maxHeartbeats 4000000
set_option maxRecDepth 100000
namespace Go.Proofs.Hc
open Go.RowKit
attribute [local go_sem] zbr zcd zat zaz zbn zax zbm zbo zbw signed64 signed8 zar BitVec.ofInt_add BitVec.ofInt_mul ofInt_sub' zav zaw wide8 eqN neN zcc shr1 shr7 shr56
attribute [local go_sem high] zay zbv
attribute [local go_sem] zau zbx zai zal zac zbd zan zah zbk zaj zbc zbe
attribute [local go_sem] load26 load73 load23 store26 build73
attribute [local go_sem ↓] lrow26 lrow73 lrow23 srow26 zero26 brow73 zab zba zbb zaa zae
attribute [local go_sem] zag zap zaf zbf zbi zbp zam zaq zbq zbh zbg
attribute [local go_sem] nn2 nm2 nn3 nm3 nn4 nm4 nn5 nm5 nn6 nm6 nn7 nm7 nn8 nm8
section
attribute [local go_sem] zar zbj
attribute [local go_sem] Oper.semAt_some zak
attribute [local go_sem] zci pacell0 pacell1 pacell2 pacell3 pacell4 pacell5 pacell6 pacell7 pacell42
attribute [local go_sem] zcv zdi zdc zcy zcx zdb zdh zda zcf zct part_s6 zdg zco zbl zch zcj boxPart loadPart storePart zce zcq buildPart0 buildPart4
attribute [local go_sem ↓] lrowPart srowPart browPart zck zbs
attribute [local go_sem high] zas
attribute [local irreducible] partC
theorem next_told (p : PartT) (f : Nat) : nextS p f = (toldS (gotS p) f 16).head? := by
  unfold nextS toldS
  rw [List.head?_filter]
theorem on_none (p : PartT) (f : Nat) (h : toldS (gotS p) f 16 = []) : onS p f = match halvesS p with | some ws => { p with ws := ws, ph := 5 } | none => { p with ph := 9 } := by
  rw [onS_def, next_told, h]
  generalize halvesS p = hv
  cases hv <;> rfl
theorem on_some (p : PartT) (f j : Nat) (r : List Nat) (h : toldS (gotS p) f 16 = j :: r) : onS p f = { p with at_ := (j : Int), ph := 3 } := by
  rw [onS_def, next_told, h]; rfl
theorem halves_ph (p : PartT) (x : Int) : halvesS { p with ph := x } = halvesS p := rfl
theorem s22on_any (p : PartT) (f : Nat) (hf : f ≤ 16) (g : Nat) (w : World) (hg : w.heap[g]? = some (.cells (partC p) 179 (0, 0))) :
    Calls Tryz.prog 234 #[.pointer (some ⟨g, 0, none⟩), I (f : Int)] w fun e w' => e = .returned (.tuple #[]) ∧ w'.heap[g]? = some (.cells (partC (onS p f)) 179 (0, 0)) ∧ Ch [g] w w' := by
  have F1 := fun w h => s22full_any g (f : Int) w h
  have Y1 := full_yields p f hf g
  have HN := Lib.hid (on_none p f)
  have HS := Lib.hid (on_some p f)
  have H9 := fun w h => s22halves_any { p with ph := 9 } g w h
  rw [halves_ph] at H9
  generalize halvesS p = hv at *
  generalize onS p f = q at *
  generalize toldS (gotS p) f 16 = xs at *
  obtain ⟨W0, hW0⟩ : ∃ W0, (w.alloc (.cells #[.pointer (some ⟨g, 0, none⟩)] 177)) = W0 := ⟨_, rfl⟩
  have hs0 : Hid (W0.heap.size = w.heap.size + 1) := Lib.hid (by rw [← hW0]; simp)
  have C0 : Ch [] w W0 := by rw [← hW0]; exact (Ch.refl [] w).alloc _
  have a0 : W0.heap[w.heap.size]? = some (.cells #[.pointer (some ⟨g, 0, none⟩)] 177 (0, 0)) := by rw [← hW0]; simp [go_sem]
  have g0 := hkeep C0 hg
  have hgB := Lib.hid (Array.getElem?_eq_some_iff.1 hg).1
  clear hg
  refine (callsIn_wide (n := 3)).1 ?_
  refine callsIn_of_wp_marks Tryz.func234 rfl trivial ?_
  simp only [Tryz.ntmps234, List.size_toArray, List.length_cons, List.length_nil, Nat.reduceAdd, Nat.reduceSub, Array.replicate_succ, Array.replicate_zero, List.push_toArray, List.append_toArray, List.nil_append, List.cons_append]
  gi_wp2_with fail
  try rw [hW0]
  clear hW0
  refine ⟨trivial, ?_⟩
  gi_at_call 280
  refine (inW (F1 _ (by have := hs0.out; have := hgB.out; omega))).mono ?_
  rintro e w1 ⟨q1, q2, rfl, h1, h2, k1, k2, hc1⟩
  have a1 := hkeep hc1 a0
  have g1 := hkeep hc1 g0
  have C1 := C0.trans hc1
  obtain ⟨B, hB⟩ : ∃ B, w.heap.size = B := ⟨_, rfl⟩
  have lB0 := zad a0
  rw [hB] at lB0
  have hgB2 : g < B := by rw [← hB]; exact hgB.out
  rw [hB] at a1
  try rw [hB]
  have hBw : w.heap.size ≤ B := by omega
  have lg := zad g1
  have l1 := zad h1
  have l2 := zad h2
  have lB := zad a1
  have n1 : B ≠ q1 := by omega
  have n2 : B ≠ q2 := by omega
  have Y2 := Lib.hid (Y1 q1 q2 w1 g1 h1 h2)
  clear F1 Y1 a0 g0 C0 hc1 h1 h2 hB hgB hs0
  gi_wp2
  refine range_lawX (n := 1) (xs := xs) rfl enters_full22 Y2.out (fun _ => rfl) (by simp) (by simp; omega)
    (fun b => b = g) (by rintro b rfl; omega)
    (fun pre O W => (∀ x, ¬ O x) ∧ pre = [] ∧ Ch [] w W ∧ W.heap[B]? = some (.cells #[.pointer (some ⟨g, 0, none⟩)] 177 (0, 0)) ∧ W.heap[g]? = some (.cells (partC p) 179 (0, 0)))
    (fun c W => c = .ret ∧ (∃ j r, xs = j :: r ∧ W.heap[g]? = some (.cells (partC { p with at_ := (j : Int), ph := 3 }) 179 (0, 0))) ∧ Ch [g] w W)
    (fun _ => False) ?hIO ?hI ?hIx ⟨fun _ h => h, rfl, C1, a1, g1⟩ ?a₁ ?assign ?body ?done ?stop
  case assign =>
    intro x W K hK
    gi_wp2
    exact hK
  case hIO =>
    rintro pre O A ⟨h, _⟩ x hx
    exact (h x hx).elim
  case hI =>
    rintro pre O A B' ⟨h, hp, hc, k1, k2⟩ hAB
    exact ⟨h, hp, hc.trans2 hAB (by simp <;> omega), hkeepS hAB (by simp; omega) k1, hkeepS hAB (by simp; omega) k2⟩
  case hIx =>
    rintro c A B' ⟨hc, ⟨j, r, hx, hj⟩, hC⟩ hAB
    exact ⟨hc, ⟨j, r, hx, hkeepS hAB (by simp; omega) hj⟩, hC.trans2 hAB (by simp <;> omega)⟩
  case body =>
    rintro pre O x post W hx ⟨h, hp, hc, k1, k2⟩ hsz
    subst hp
    go_light
    rw [List.nil_append] at hx
    have HX := Lib.hid hx
    have H42 := zco p (x : Int)
    have H0 := zct { p with at_ := (x : Int) } 3
    have n2' : ¬ B = g := by omega
    obtain ⟨c0, hc0⟩ : ∃ c, partC p = c := ⟨_, rfl⟩
    obtain ⟨c1, hc1⟩ : ∃ c, partC { p with at_ := (x : Int) } = c := ⟨_, rfl⟩
    obtain ⟨c2, hc2⟩ : ∃ c, partC { p with at_ := (x : Int), ph := 3 } = c := ⟨_, rfl⟩
    have e0 : ∃ o, c0[42]? = some o := by rw [← hc0]; exact ⟨_, zcf p⟩
    have e1 : ∃ o, c1[0]? = some o := by rw [← hc1]; exact ⟨_, zcv _⟩
    obtain ⟨o0, e0⟩ := e0
    obtain ⟨o1, e1⟩ := e1
    rw [hc0, hc1] at H42
    rw [hc1] at H0
    have H0' : c1.setIfInBounds 0 (I 3) = c2 := H0.trans hc2
    have HC2 := Lib.hid hc2
    rw [hc0] at k2
    clear hx hc0 hc1 H0 hc2 Y2 H9 HN HS g1 a1 C1
    gi_wp2
    refine rr_held (fun W' => W'.heap[B]? = some (.cells #[.pointer (some ⟨g, 0, none⟩)] 177 (0, 0))) (by kernel_rfl) (by kernel_rfl) (by rintro ⟨a, w, h⟩; exact h) k1 ?_
    intro hS
    simp only [List.size_toArray, List.length_cons, List.length_nil, Nat.reduceAdd]
    have g2 : W.drew.heap[g]? = some (.cells c0 179 (0, 0)) := k2
    have C2 : Ch [g] w W.drew := hc.of_nil.drew
    have hW : Ch [g] W W.drew := (Ch.refl [g] W).drew
    have hz : W.heap.size ≤ W.drew.heap.size := Nat.le_refl _
    obtain ⟨w2, hw2⟩ : ∃ W2, W.drew = W2 := ⟨_, rfl⟩
    rw [hw2] at g2 C2 hW hS hz ⊢
    clear hw2 k1 k2
    refine tk 0 9 ?_ rfl hS ?_ ?_; rotate_left
    · intro _ _; go_simp; try with_reducible rfl
    try go_frame
    refine tk 1 10 ?_ rfl hS ?_ ?_; rotate_left
    · intro _ _; go_simp; try with_reducible rfl
    try go_frame
    refine tk 2 11 ?_ rfl hS ?_ ?_; rotate_left
    · intro _ _; go_simp; try with_reducible rfl
    try go_frame
    refine tk 3 12 ?_ rfl hS ?_ ?_; rotate_left
    · intro _ _; go_simp; try with_reducible rfl
    try go_frame
    refine tk 4 13 ?_ rfl hS ?_ ?_; rotate_left
    · intro _ _; go_simp; try with_reducible rfl
    try go_frame
    refine tk 5 14 ?_ rfl hS ?_ ?_; rotate_left
    · intro _ _; go_simp; try with_reducible rfl
    try go_frame
    refine rd 6 rfl (fun K hK => ?_); go_simp
    have g3 : (w2.setCell ⟨g, 42, none⟩ (I (x : Int))).heap[g]? = some (.cells c1 179 (0, 0)) := by rw [zaa, if_pos rfl, g2, Option.map_some, zac, H42]
    have s3 : (w2.setCell ⟨g, 42, none⟩ (I (x : Int))).heap[B]? = some (.cells #[.pointer (some ⟨g, 0, none⟩)] 177 (0, 0)) := by rw [zaa, if_neg n2']; exact hS
    have C3 : Ch [g] w (w2.setCell ⟨g, 42, none⟩ (I (x : Int))) := C2.setCell (p := ⟨g, 42, none⟩) (.inl (by simp)) _
    have hW3 : Ch [g] W (w2.setCell ⟨g, 42, none⟩ (I (x : Int))) := hW.setCell (p := ⟨g, 42, none⟩) (.inl (by simp)) _
    refine hK.out _ _ s3 (fun _ => ?_)
    clear hK K hS g2 C2 hW
    obtain ⟨w3, hw3⟩ : ∃ W3, w2.setCell ⟨g, 42, none⟩ (I (x : Int)) = W3 := ⟨_, rfl⟩
    rw [hw3] at g3 s3 C3 hW3 ⊢
    clear hw3
    refine tk 7 15 ?_ rfl s3 ?_ ?_; rotate_left
    · intro _ _; go_simp; try with_reducible rfl
    try go_frame
    refine tk 8 16 ?_ rfl s3 ?_ ?_; rotate_left
    · intro _ _; go_simp; try with_reducible rfl
    try go_frame
    refine tk 9 17 ?_ rfl s3 ?_ ?_; rotate_left
    · intro _ _; go_simp; try with_reducible rfl
    try go_frame
    refine rd 10 rfl (fun K hK => ?_); go_simp
    have g4 : (w3.setCell ⟨g, 0, none⟩ (I 3)).heap[g]? = some (.cells c2 179 (0, 0)) := by rw [zaa, if_pos rfl, g3, Option.map_some, zac, H0']
    have s4 : (w3.setCell ⟨g, 0, none⟩ (I 3)).heap[B]? = some (.cells #[.pointer (some ⟨g, 0, none⟩)] 177 (0, 0)) := by rw [zaa, if_neg n2']; exact s3
    have C4 : Ch [g] w (w3.setCell ⟨g, 0, none⟩ (I 3)) := C3.setCell (p := ⟨g, 0, none⟩) (.inl (by simp)) _
    have hW4 : Ch [g] W (w3.setCell ⟨g, 0, none⟩ (I 3)) := hW3.setCell (p := ⟨g, 0, none⟩) (.inl (by simp)) _
    refine hK.out _ _ s4 (fun _ => ?_)
    clear hK K
    generalize w3.setCell ⟨g, 0, none⟩ (I 3) = w4 at *
    refine wpAnyH_done (by kernel_rfl) ?_ _
    gi_wp2
    exact ⟨⟨rfl, ⟨x, post, HX.out, by rw [HC2.out]; exact g4⟩, C4⟩, fun b hb _ hn => hW4.block b hb (by simpa using hn)⟩
  case done =>
    rintro O W ⟨_, hx, hc, k1, k2⟩ hd
    have g9 : (W.setCell ⟨g, 0, none⟩ (I 9)).heap[g]? = some (.cells (partC { p with ph := 9 }) 179 (0, 0)) := by rw [zaa, if_pos rfl, k2, Option.map_some, zac, zct]
    have a9 : (W.setCell ⟨g, 0, none⟩ (I 9)).heap[B]? = some (.cells #[.pointer (some ⟨g, 0, none⟩)] 177 (0, 0)) := by rw [zaa, if_neg (by omega)]; exact k1
    have d9 : (W.setCell ⟨g, 0, none⟩ (I 9)).heap[w1.heap.size]? = some (.deferred (some [])) := by rw [zaa, if_neg (by omega)]; exact hd
    have C9 : Ch [g] w (W.setCell ⟨g, 0, none⟩ (I 9)) := hc.of_nil.setCell (p := ⟨g, 0, none⟩) (.inl (by simp)) _
    have HQ := HN.out hx
    clear HN HS Y2 hx
    gi_wp2_with fail
    refine ⟨trivial, ?_⟩
    gi_at_call 281
    refine (inW (H9 _ g9)).mono ?_
    rintro e w5 ⟨rfl, g5, hc5⟩
    have hn5 : ∀ {q : Nat} {o : Obj}, ¬ q = g → (W.setCell ⟨g, 0, none⟩ (I 9)).heap[q]? = some o → w5.heap[q]? = some o := fun {q o} hq h => (hc5.block q (zad h) (by simpa using hq)).trans h
    have a5 := hn5 (by omega) a9
    have d5 := hn5 (by omega) d9
    have C5 : Ch [g] w w5 := C9.trans hc5
    have nD : ¬ g = w1.heap.size := by omega
    clear hn5 hc5 g9 a9 d9 C9 H9 k1 k2 hc hd g1 a1 C1
    cases hv with
    | none =>
      dsimp only at HQ
      subst HQ
      gi_wp2
      refine marks_end (v := .tuple #[]) d5 (results_none rfl _ _ _) ⟨rfl, ?_, C5.trans2 (zby _ _ _) (by simp; omega)⟩
      rw [heap_putObj, if_neg nD]; exact g5
    | some ws =>
      dsimp only at HQ
      subst HQ
      gi_wp2
      have g6 : (w5.setCell ⟨g, 0, none⟩ (I 5)).heap[g]? = some (.cells (partC { p with ws := ws, ph := 5 }) 179 (0, 0)) := by rw [zaa, if_pos rfl, g5, Option.map_some, zac]; exact congrArg (fun c => some (Obj.cells c 179 (0, 0))) (zct { p with ws := ws, ph := 9 } 5)
      have d6 : (w5.setCell ⟨g, 0, none⟩ (I 5)).heap[w1.heap.size]? = some (.deferred (some [])) := by rw [zaa, if_neg (by omega)]; exact d5
      have C6 : Ch [g] w (w5.setCell ⟨g, 0, none⟩ (I 5)) := C5.setCell (p := ⟨g, 0, none⟩) (.inl (by simp)) _
      refine marks_end (v := .tuple #[]) d6 (results_none rfl _ _ _) ⟨rfl, ?_, C6.trans2 (zby _ _ _) (by simp; omega)⟩
      rw [heap_putObj, if_neg nD]; exact g6
  case stop =>
    rintro c W ⟨rfl, ⟨j, r, hx, hj⟩, hC⟩ hd
    have HQ := HS.out j r hx
    subst HQ
    have nD : ¬ g = w1.heap.size := by omega
    clear HN HS Y2 hx H9
    gi_wp2
    refine marks_ret (v := .tuple #[]) hd (results_none rfl _ _ _) ⟨rfl, ?_, hC.trans2 (zby _ _ _) (by simp; omega)⟩
    rw [heap_putObj, if_neg nD]; exact hj
end
section
attribute [local go_sem] acc_g0 acc_g1 acc_g2 acc_g4 acc_s0 acc_s1 acc_s2 acc_s4 accC_size accC_one accC_all loadAcc storeAcc bacc0 bacc2 bacc3 bacc3u bacc4
attribute [local go_sem ↓] lrowAcc srowAcc browAcc zeroAcc_run
attribute [local go_sem high] laidAt_acc
attribute [local go_sem] zar zbj
attribute [local go_sem] Oper.semAt_some zak
attribute [local go_sem] zci pacell0 pacell1 pacell2 pacell3 pacell4 pacell5 pacell6 pacell7 pacell42
attribute [local go_sem] zcv zdi zdc zcy zcx zdb zdh zda zcf zct part_s6 zdg zco zbl zch zcj boxPart loadPart storePart zce zcq buildPart0 buildPart4
attribute [local go_sem ↓] lrowPart srowPart browPart zck zbs
attribute [local go_sem high] zas
attribute [local irreducible] partC
attribute [local irreducible] accC
theorem s22need_any (p : PartT) (a : AccT) (h : needS p = some a) (g : Nat) (w : World) (hg : w.heap[g]? = some (.cells (partC p) 179 (0, 0))) :
    Calls Tryz.prog 114 #[.pointer (some ⟨g, 0, none⟩)] w fun e w' => e = .returned (.agg (accC p.who a.kind a.at_ (N a.new))) ∧ Ch [] w w' := by
  obtain ⟨R, h6, rfl⟩ := needS_right h
  have h0 := R.ph0
  dsimp only
  by_cases h5 : p.ph = 5
  · rw [if_pos (Or.inl h5), if_pos h5, show whereS p = 16 + 40 * p.sl by unfold whereS; rw [h5]; rfl]
    exact s22Need_shut p R h5 g w hg
  · by_cases h6' : p.ph = 6
    · rw [if_pos (Or.inr h6'), if_neg h5, if_pos h6']
      have ha := R.at6 h6'
      have hw : whereS p = 16 + 40 * (if p.at_.toNat < 40 then p.t0 else p.t1) + ((p.at_.toNat % 40 : Nat) : Int) := by
        have e1 : p.at_ % 40 = ((p.at_.toNat % 40 : Nat) : Int) := by omega
        unfold whereS
        rw [h6', e1]
        by_cases h40 : p.at_ < 40
        · rw [if_pos h40, if_pos (show p.at_.toNat < 40 by omega)]; rfl
        · rw [if_neg h40, if_neg (show ¬ p.at_.toNat < 40 by omega)]; rfl
      rw [hw]
      exact s22Need_lay p R h6' p.at_.toNat _ _ (by omega) (by omega) rfl rfl _ rfl g w hg
    · rw [if_neg (by omega), if_neg h5, if_neg h6']
      exact s22Need_load p R p.ph.toNat (by omega) (by omega) g w hg
def needSV (who : Int) : Option AccT → Value
  | none => .tuple #[.agg (accC 0 0 0 0), .bool false]
  | some x => .tuple #[.agg (accC who x.kind x.at_ (N x.new)), .bool true]
theorem snew_part (p : PartT) (w : World) : ∃ W, (w.alloc (.cells (partC p) 51)).alloc (.cells (accC 0 0 0 0) 87) = W ∧ Ch [] w W ∧ W.heap[w.heap.size]? = some (.cells (partC p) 51 (0, 0)) ∧ W.heap[w.heap.size + 1]? = some (.cells (accC 0 0 0 0) 87 (0, 0)) :=
  ⟨_, rfl, ((Ch.refl [] w).alloc _).alloc _, by rw [zab, if_neg (by simp), zab, if_pos rfl], by rw [zab, if_pos (by simp)]⟩
theorem acct_results {fn : Func} {p q : Tmp} (h : fn.results = #[.cell p 87, .tmp q]) (tmps : Array Value) (b : Nat) (w : World) (x y z u : Int) (v : Value) (hp : tmps.getD p undef = .pointer (some ⟨b, 0, none⟩)) (hq : tmps.getD q undef = v)
    (hb : w.heap[b]? = some (.cells (accC x y z u) 87 (0, 0))) : (results fn tmps).run Tryz.prog w = .ok (.tuple #[.agg (accC x y z u), v]) w := by
  have hl := run_loadVar_row (P := Tryz.prog) w b 87 87 (accC x y z u) (0, 0) _ hb Tryz.underlying87 rfl (by rw [accC_size]; kernel_rfl)
  have hp' : tmps[p]?.getD undef = .pointer (some ⟨b, 0, none⟩) := by simpa using hp
  have hq' : tmps[q]?.getD undef = v := by simpa using hq
  simp [results, h, hp', hq', asAddr, hl]
theorem s22Need_no (p : PartT) (h : needS p = none) (w : World) : Calls Tryz.prog 47 #[.agg (partC p)] w fun e w' => e = .returned (.tuple #[.agg (accC 0 0 0 0), .bool false]) ∧ Ch [] w w' := by
  have C1 := fun w => pCheck_any p w
  have hc : checkS p = 320 ∨ checkS p = 0 ∧ 6 < p.ph := by
    unfold needS at h
    unfold checkS
    cases hr : rightS p with
    | false => left; rfl
    | true =>
      right
      rw [hr, Bool.true_and] at h
      refine ⟨rfl, ?_⟩
      by_cases h6 : p.ph ≤ 6
      · rw [decide_eq_true h6, if_pos rfl] at h; cases h
      · omega
  obtain ⟨c, hcc⟩ : ∃ c, checkS p = c := ⟨_, rfl⟩
  rw [hcc] at C1 hc
  clear hcc h
  obtain ⟨w0, hw0, C0, b0, z0⟩ := snew_part p w
  rcases hc with rfl | ⟨rfl, h6⟩
  all_goals
    go_enter Tryz.func47, Tryz.ntmps47
    go_wp2_with fail
    try rw [hw0]
    clear hw0
    obtain ⟨B, hB⟩ : ∃ B, w.heap.size = B := ⟨_, rfl⟩
    rw [hB] at b0 z0 ⊢
    have hBw : w.heap.size ≤ B := by omega
    clear hB
    refine (C1 _).mono ?_
    rintro e w1 ⟨rfl, hc1⟩
    have b1 := hkeep hc1 b0
    have z1 := hkeep hc1 z0
    have D1 := C0.trans hc1
    clear b0 z0 C0 hc1 C1
    go_wp2
    refine bodyPost_ret (acct_results Tryz.results47 _ (B + 1) _ 0 0 0 0 _ rfl rfl ?_) rfl ⟨rfl, D1.onObj (p := B + 1) (.inr (by omega)) _⟩
    rw [zae, if_pos rfl, z1, Option.map_some, laidAt_acc]
theorem s22Need_yes (p : PartT) (a : AccT) (h : needS p = some a) (w : World) : Calls Tryz.prog 47 #[.agg (partC p)] w fun e w' => e = .returned (.tuple #[.agg (accC p.who a.kind a.at_ (N a.new)), .bool true]) ∧ Ch [] w w' := by
  have C1 := fun w => pCheck_any p w
  obtain ⟨R, h6, _⟩ := needS_right h
  rw [show checkS p = 0 by unfold checkS; rw [(rightS_iff p).2 R]; rfl] at C1
  have N1 := fun g w hg => s22need_any p a h g w hg
  obtain ⟨w0, hw0, C0, b0, z0⟩ := snew_part p w
  obtain ⟨wh, hwh⟩ : ∃ x, p.who = x := ⟨_, rfl⟩
  obtain ⟨kd, hkd⟩ : ∃ x, a.kind = x := ⟨_, rfl⟩
  obtain ⟨at_, hat_⟩ : ∃ x, a.at_ = x := ⟨_, rfl⟩
  obtain ⟨nw, hnw⟩ : ∃ x, N a.new = x := ⟨_, rfl⟩
  rw [hwh, hkd, hat_, hnw] at N1 ⊢
  clear hwh hkd hat_ hnw h R
  go_enter Tryz.func47, Tryz.ntmps47
  go_wp2_with fail
  try rw [hw0]
  clear hw0
  obtain ⟨B, hB⟩ : ∃ B, w.heap.size = B := ⟨_, rfl⟩
  rw [hB] at b0 z0 ⊢
  have hBw : w.heap.size ≤ B := by omega
  clear hB
  refine (C1 _).mono ?_
  rintro e w1 ⟨rfl, hc1⟩
  have b1 := hkeep hc1 b0
  have z1 := hkeep hc1 z0
  have D1 := C0.trans hc1
  clear b0 z0 C0 hc1 C1
  go_wp2_with fail
  have hc2 : Ch [] w1 (w1.alloc (.cells (partC p) 179)) := (Ch.refl [] w1).alloc _
  have g2 : (w1.alloc (.cells (partC p) 179)).heap[w1.heap.size]? = some (.cells (partC p) 179 (0, 0)) := by rw [zab, if_pos rfl]
  have z2 := hkeep hc2 z1
  have D2 := D1.trans hc2
  refine (N1 _ _ g2).mono ?_
  rintro e w3 ⟨rfl, hc3⟩
  have z3 := hkeep hc3 z2
  have D3 := D2.trans hc3
  clear b1 z1 D1 hc2 g2 z2 D2 hc3 N1
  go_wp2
  refine bodyPost_ret (acct_results Tryz.results47 _ (B + 1) _ wh kd at_ nw _ rfl rfl ?_) rfl ⟨rfl, D3.onObj (p := B + 1) (.inr (by omega)) _⟩
  rw [zae, if_pos rfl, z3, Option.map_some, laidAt_acc]
theorem s22Need_any (p : PartT) (w : World) : Calls Tryz.prog 47 #[.agg (partC p)] w fun e w' => e = .returned (needSV p.who (needS p)) ∧ Ch [] w w' := by
  cases h : needS p with
  | none => exact s22Need_no p h w
  | some a => exact s22Need_yes p a h w
end
end Go.Proofs.Hc
