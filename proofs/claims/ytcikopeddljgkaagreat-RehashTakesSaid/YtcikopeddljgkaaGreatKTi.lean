/- Package cells: Do, as a model. -/
import Derived.Test.YtcikopeddljgkaaGreatKHce
import Derived.Test.YtcikopeddljgkaaGreatKTc
import Derived.Test.YtcikopeddljgkaaGreatKTd
import Derived.Test.YtcikopeddljgkaaGreatK0
set_option linter.unusedSimpArgs false
set_option linter.unusedVariables false
set_option maxHeartbeats 4000000
set_option maxRecDepth 100000
namespace Go.Proofs.Hc
open Go.RowKit
variable {me : Int}
attribute [local go_sem] zbs zca zax zbc zbn zba zbm zbo zbu signed64 signed8 zar BitVec.ofInt_add BitVec.ofInt_mul ofInt_sub' zay zaz wide8 eqN neN zbz shr1 shr7 shr56
attribute [local go_sem high] zbb zbt
attribute [local go_sem] zag zbw zah zas zad zbe zaq zal zbl zan zbd zbf
attribute [local go_sem] load26 load73 load23 store26 build73
attribute [local go_sem ↓] lrow26 lrow73 lrow23 srow26 zero26 brow73 zac zaw zbg zaa zab
attribute [local go_sem] zai zav zat zbj zbk zbp zao zau zbq zbi zbh
attribute [local go_sem] nn2 nm2 nn3 nm3 nn4 nm4 nn5 nm5 nn6 nm6 nn7 nm7 nn8 nm8
attribute [local go_sem] acc_g0 acc_g1 acc_g2 acc_g4 acc_s0 acc_s1 acc_s2 acc_s4 zcv accC_one accC_all loadAcc storeAcc bacc0 bacc2 bacc3 bacc3u bacc4
attribute [local go_sem ↓] lrowAcc srowAcc browAcc zcn
attribute [local go_sem high] zak
attribute [local go_sem] loadAcs storeAcs buildAcs boxAcs boxAcc meth_load meth_swap
attribute [local go_sem ↓] lrowAcs srowAcs browAcs zeroAcs_run
attribute [local go_sem] zcq seenC_one seenC_all seenC_g0 loadSeen storeSeen buildSeen buildSeen0
attribute [local go_sem ↓] lrowSeen srowSeen browSeen zcr
attribute [local go_sem high] zam
attribute [local irreducible] seenC
attribute [local go_sem] Oper.semAt_some zap zar
attribute [local irreducible] accC
theorem Do_bad (hm0 : 0 ≤ me) (hm7 : me < 8) (k : Int) (a d : Int) (n g c : Nat) (w : World) (hk : 1 ≤ k) (hk4 : k ≤ 4) (ha : (n : Int) ≤ a) (hn1 : 1 ≤ n) (hl : n ≤ 8192) :
    Calls Tryz.prog 118 #[.slice (some ⟨g, 0, none⟩) n c, .agg (accC me k a d)] w fun e w' => e = .returned (.tuple #[.slice none 0 0, .agg (seenC 0 false), I 2]) ∧ Ch [] w w' := by
  have K1 := fun w => cCheck_at hm0 hm7 k a n d hk hk4 (by omega) ha (by omega) (by omega) w
  have C0 : Ch [] w (World.onObj (((w.alloc (.cells (accC me k a d) 87)).alloc (.cells (seenC 0 false) 93)).alloc (.cells (accC 0 0 0 0) 264)) (w.heap.size + 1 + 1) (laidAt 0 (accC me k a d))) := ((((Ch.refl [] w).alloc _).alloc _).alloc _).onObj (p := w.heap.size + 1 + 1) (.inr (by omega)) _
  have z0 : (World.onObj (((w.alloc (.cells (accC me k a d) 87)).alloc (.cells (seenC 0 false) 93)).alloc (.cells (accC 0 0 0 0) 264)) (w.heap.size + 1 + 1) (laidAt 0 (accC me k a d))).heap[w.heap.size + 1]? = some (.cells (seenC 0 false) 93 (0, 0)) := by
    rw [zab, if_neg (by omega), zac, if_neg (by simp), zac, if_pos (by simp)]
  clear hk hk4 ha hn1 hl
  go_enter Tryz.func118, Tryz.ntmps118
  go_wp2_with fail
  generalize World.onObj (((w.alloc (.cells (accC me k a d) 87)).alloc (.cells (seenC 0 false) 93)).alloc (.cells (accC 0 0 0 0) 264)) (w.heap.size + 1 + 1) (laidAt 0 (accC me k a d)) = W0 at *
  refine (K1 _).mono ?_
  rintro e w1 ⟨rfl, hc1⟩
  have z1 := hkeep hc1 z0
  have C1 := C0.trans hc1
  go_wp2
  refine bodyPost_ret (do_results Tryz.results118 _ (w.heap.size + 1) _ 0 false _ _ rfl rfl rfl ?_) rfl ⟨rfl, C1.onObj (p := w.heap.size + 1) (.inr (by omega)) _⟩
  simp [go_sem, z1]
def RowAt_ (w0 w : World) (R : Nat) (l : List (BitVec 64)) : Prop := w0.heap.size ≤ R ∧ w.heap[R]? = some (.cells (wcells l) 22 (0, 0))
def DoPost (w : World) (l : List (BitVec 64)) (a : AccT) (e : Ending) (w' : World) : Prop :=
  match doP l a with
  | none => e = .returned (.tuple #[.slice none 0 0, .agg (seenC 0 false), I 2]) ∧ Ch [] w w'
  | some y => ∃ R, e = .returned (.tuple #[.slice (some ⟨R, 0, none⟩) l.length l.length, .agg (seenC (N y.2) true), I 0]) ∧ RowAt_ w w' R y.1 ∧ y.1.length = l.length ∧ Ch [] w w'
theorem Do_who (hm0 : 0 ≤ me) (hm7 : me < 8) (l : List (BitVec 64)) (a : AccT) (g c : Nat) (cur : Array Value) (w : World) (hk : a.kind = 1 ∨ a.kind = 2 ∨ a.kind = 4) (ha : 0 ≤ a.at_) (h1 : 1 ≤ l.length) (hl : l.length ≤ 8192)
    (hb : w.heap[g]? = some (.cells cur 22 (0, 0))) (hw : WordsAt cur l) :
    Calls Tryz.prog 118 #[.slice (some ⟨g, 0, none⟩) l.length c, .agg (accC me a.kind a.at_ (N a.new))] w (DoPost w l a) := by
  obtain ⟨kd, at_, new⟩ := a
  simp only at hk ha ⊢
  obtain ⟨j, rfl⟩ := Int.eq_ofNat_of_zero_le ha
  rcases Nat.lt_or_ge j l.length with hj | hj
  · obtain ⟨x, hx⟩ : ∃ x, l[j]? = some x := ⟨l[j]'hj, List.getElem?_eq_getElem hj⟩
    have key : ∀ (k : Nat) (z : BitVec 64), kd = (k : Int) → 1 ≤ k → k ≤ 4 → (doP l ⟨kd, (j : Int), new⟩ = some (l.set j z, x)) →
        (∀ (r : Nat) (w : World), w.heap[r]? = some (.cells (wcells l) 22 (0, 0)) → Calls Tryz.prog 185 #[.agg (accC me k j (N new)), .iface 268 (.agg #[.slice (some ⟨r, j, none⟩) 1 1])] w (DoesPost w r j (wcells l) x z)) →
        Calls Tryz.prog 118 #[.slice (some ⟨g, 0, none⟩) l.length c, .agg (accC me kd j (N new))] w (DoPost w l ⟨kd, (j : Int), new⟩) := by
      intro k z hkd h1k h4k hd hX
      subst hkd
      refine (Do_core hm0 hm7 k j (N new) x z l g c cur w h1k h4k hj hl hx hb hw hX).mono ?_
      rintro e w' ⟨R, rfl, hR, hRow, hC⟩
      unfold DoPost
      rw [hd]
      exact ⟨R, rfl, ⟨hR, hRow⟩, by simp, hC⟩
    have hset : l.set j x = l := by
      apply List.ext_getElem?
      intro i
      rw [List.getElem?_set]
      by_cases h : j = i
      · subst h; rw [if_pos rfl, if_pos hj, hx]
      · rw [if_neg h]
    rcases hk with rfl | rfl | rfl
    · refine key 1 x rfl (by omega) (by omega) ?_ (fun r w h => does_1 j (N new) x r j (wcells l) w h (wcells_at l j x hx))
      simp [doP, hx, hset]
    · refine key 2 new rfl (by omega) (by omega) ?_ (fun r w h => does_2 j new x r j (wcells l) w h (wcells_at l j x hx))
      simp [doP, hx]
    · refine key 4 (x + new) rfl (by omega) (by omega) ?_ (fun r w h => does_4 j new x r j (wcells l) w h (wcells_at l j x hx))
      simp [doP, hx]
  · refine (Do_bad hm0 hm7 kd j (N new) l.length g c w (by omega) (by omega) (by omega) h1 hl).mono ?_
    rintro e w' ⟨rfl, hC⟩
    unfold DoPost
    have hd : doP l ⟨kd, (j : Int), new⟩ = none := by
      simp [doP, List.getElem?_eq_none hj]
    rw [hd]
    exact ⟨rfl, hC⟩
end Go.Proofs.Hc
namespace Go.Proofs.Hc
open Go.RowKit
def StepLPost (w : World) (l : List (BitVec 64)) (p : LayT) (e : Ending) (w' : World) : Prop :=
  match stepL l p with
  | none => e = .returned (.tuple #[.slice none 0 0, .agg (layC zeroLay), I 2]) ∧ Ch [] w w'
  | some y => ∃ R, e = .returned (.tuple #[.slice (some ⟨R, 0, none⟩) y.1.length y.1.length, .agg (layC y.2), I 0]) ∧ RowAt_ w w' R y.1 ∧ y.1.length = l.length ∧ Ch [] w w'
theorem doP_lenL {l : List (BitVec 64)} {a : AccT} {y : List (BitVec 64) × BitVec 64} (hd : doP l a = some y) : y.1.length = l.length := by
  unfold doP at hd
  split at hd
  · cases hd
  · have hd := Option.some.inj hd
    subst hd
    dsimp only
    split
    · rfl
    · split <;> simp
theorem lStep_any (l : List (BitVec 64)) (g c : Nat) (cur : Array Value) (p : LayT) (w : World) (h1 : 1 ≤ l.length) (hl : l.length ≤ 8192) (hb : w.heap[g]? = some (.cells cur 22 (0, 0))) (hw : WordsAt cur l) (hr : rightL p = true) :
    Calls Tryz.prog 63 #[.slice (some ⟨g, 0, none⟩) l.length c, .agg (layC p)] w (StepLPost w l p) := by
  cases hn : needL p with
  | none =>
    refine (lStep_over l g c cur p hr hn w h1 hl hb hw).mono ?_
    rintro e w' ⟨R, rfl, hR, hrow, hC⟩
    unfold StepLPost stepL
    rw [hn]
    exact ⟨R, rfl, ⟨hR, hrow⟩, rfl, hC⟩
  | some a =>
    have hac := needL_acc hn
    have R := (zdc p).1 hr
    have N1 : ∀ w, Calls Tryz.prog 58 #[.agg (layC p)] w fun e w' => e = .returned (.tuple #[.agg (accC p.who a.kind a.at_ (N a.new)), .bool true]) ∧ Ch [] w w' := fun w => by
      have := lNeed_any p w
      rw [hn, needLV] at this
      exact this
    have D1 : ∀ w, w.heap[g]? = some (.cells cur 22 (0, 0)) → Calls Tryz.prog 118 #[.slice (some ⟨g, 0, none⟩) l.length c, .agg (accC p.who a.kind a.at_ (N a.new))] w (DoPost w l a) := fun w h => Do_who R.who0 R.who7 l a g c cur w hac.1 hac.2.1 h1 hl h hw
    cases hd : doP l a with
    | none =>
      have D2 : ∀ w, w.heap[g]? = some (.cells cur 22 (0, 0)) → Calls Tryz.prog 118 #[.slice (some ⟨g, 0, none⟩) l.length c, .agg (accC p.who a.kind a.at_ (N a.new))] w fun e w' => e = .returned (.tuple #[.slice none 0 0, .agg (seenC 0 false), I 2]) ∧ Ch [] w w' := fun w h => (D1 w h).mono fun e w' hh => by unfold DoPost at hh; rw [hd] at hh; exact hh
      refine (lStep_out l.length g c cur p a.kind a.at_ (N a.new) hr N1 D2 w h1 hl hb).mono ?_
      rintro e w' ⟨rfl, hC⟩
      unfold StepLPost stepL
      rw [hn]
      dsimp only
      rw [hd]
      exact ⟨rfl, hC⟩
    | some y =>
      have hyl := doP_lenL hd
      have D2 : ∀ w, w.heap[g]? = some (.cells cur 22 (0, 0)) → Calls Tryz.prog 118 #[.slice (some ⟨g, 0, none⟩) l.length c, .agg (accC p.who a.kind a.at_ (N a.new))] w fun e w' => ∃ Rr, e = .returned (.tuple #[.slice (some ⟨Rr, 0, none⟩) l.length l.length, .agg (seenC (N y.2) true), I 0]) ∧ w.heap.size ≤ Rr ∧ w'.heap[Rr]? = some (.cells (wcells y.1) 22 (0, 0)) ∧ Ch [] w w' := fun w h => (D1 w h).mono fun e w' hh => by
        unfold DoPost at hh
        rw [hd] at hh
        obtain ⟨Rr, he, hrow, _, hC⟩ := hh
        exact ⟨Rr, he, hrow.1, hrow.2, hC⟩
      have hp := needL_some hn
      refine (lStep_go l.length g c cur p (wcells y.1) (takeL p y.2) a.kind a.at_ (N a.new) y.2 hr N1 D2 (fun w => lTake_yes p hr hp.2 y.2 true w) w h1 hl hb).mono ?_
      rintro e w' ⟨R, rfl, hR, hrow, hC⟩
      unfold StepLPost stepL
      rw [hn]
      dsimp only
      rw [hd]
      exact ⟨R, by rw [hyl], ⟨hR, hrow⟩, hyl, hC⟩
inductive RunsX : List (BitVec 64) → LayT → List AccT → List (BitVec 64) → LayT → Prop
  | done {l p} : 4 < p.ph → RunsX l p [] l p
  | step {l p a y xs l' p'} : p.ph ≤ 4 → rightL p = true → needL p = some a → doP l a = some y → RunsX y.1 (takeL p y.2) xs l' p' → RunsX l p (a :: xs) l' p'
theorem RunsX.inv {l l' : List (BitVec 64)} {p p' : LayT} {xs : List AccT} (h : RunsX l p xs l' p') :
    (4 < p.ph ∧ xs = [] ∧ l' = l ∧ p' = p) ∨ ∃ a y xs', xs = a :: xs' ∧ p.ph ≤ 4 ∧ rightL p = true ∧ needL p = some a ∧ doP l a = some y ∧ RunsX y.1 (takeL p y.2) xs' l' p' := by
  cases h with
  | done h => exact .inl ⟨h, rfl, rfl, rfl⟩
  | step h4 hr ha hy hx => exact .inr ⟨_, _, _, rfl, h4, hr, ha, hy, hx⟩
theorem needL_row {l : List (BitVec 64)} {p : LayT} {a : AccT} {y : List (BitVec 64) × BitVec 64} (ha : needL p = some a) (hy : doP l a = some y) :
    ∃ j : Nat, a.at_ = (j : Int) ∧ j < l.length ∧ l[j]? = some y.2 ∧ (a.kind = 1 ∧ y.1 = l ∨ a.kind = 2 ∧ y.1 = l.set j a.new) := by
  obtain ⟨j, hj⟩ := Int.eq_ofNat_of_zero_le (needL_acc ha).2.1
  have hk : a.kind = 1 ∨ a.kind = 2 := by
    have h := ha
    obtain ⟨hr, h4⟩ := needL_some ha
    unfold needL at h
    rw [if_pos (by simp [hr, h4])] at h
    have h := Option.some.inj h
    rw [← h]
    by_cases h : p.ph = 0 ∨ p.ph = 2
    · left; exact if_pos h
    · right; exact if_neg h
  unfold doP at hy
  have e : a.at_.toNat = j := by omega
  rw [e] at hy
  split at hy
  · cases hy
  · rename_i w hw
    have hy := Option.some.inj hy
    subst hy
    refine ⟨j, hj, (List.getElem?_eq_some_iff.1 hw).1, hw, ?_⟩
    rcases hk with h | h
    · exact .inl ⟨h, if_pos h⟩
    · refine .inr ⟨h, ?_⟩
      show (if a.kind = 1 then _ else _) = _
      rw [if_neg (by omega), if_pos h]
theorem runsX_of {l l' : List (BitVec 64)} {p p' : LayT} {k : Nat} (h : RunsL l p k l' p') : ∃ xs, xs.length = k ∧ RunsX l p xs l' p' := by
  induction h with
  | done h => exact ⟨[], rfl, .done h⟩
  | step h4 hr ha hy _ ih =>
    obtain ⟨xs, hl, hx⟩ := ih
    exact ⟨_ :: xs, by rw [List.length_cons, hl], .step h4 hr ha hy hx⟩
end Go.Proofs.Hc
namespace Go.Proofs.Hc
open Go.RowKit
attribute [local go_sem] zbs zca zax zbc zbn zba zbm zbo zbu signed64 signed8 zar BitVec.ofInt_add BitVec.ofInt_mul ofInt_sub' zay zaz wide8 eqN neN zbz shr1 shr7 shr56
attribute [local go_sem high] zbb zbt
attribute [local go_sem] zag zbw zah zas zad zbe zaq zal zbl zan zbd zbf
attribute [local go_sem] load26 load73 load23 store26 build73
attribute [local go_sem ↓] lrow26 lrow73 lrow23 srow26 zero26 brow73 zac zaw zbg zaa zab
attribute [local go_sem] zai zav zat zbj zbk zbp zao zau zbq zbi zbh
attribute [local go_sem] nn2 nm2 nn3 nm3 nn4 nm4 nn5 nm5 nn6 nm6 nn7 nm7 nn8 nm8
section
attribute [local go_sem] acc_g0 acc_g1 acc_g2 acc_g4 acc_s0 acc_s1 acc_s2 acc_s4 zcv accC_one accC_all loadAcc storeAcc bacc0 bacc2 bacc3 bacc3u bacc4
attribute [local go_sem ↓] lrowAcc srowAcc browAcc zcn
attribute [local go_sem high] zak
attribute [local go_sem] zar zby
attribute [local go_sem] Oper.semAt_some zap
attribute [local go_sem] layC_idx lcell0 lcell1 lcell2 lcell3 lcell4 lcell5 lcell46
attribute [local go_sem] lay_g0 lay_g1 lay_g2 lay_g3 lay_g4 lay_g5 lay_g46 lay_s0 lay_s4 lay_s5 lay_s46 zck layC_one layC_all layC_ws boxLay loadLay storeLay build_lay box_lay buildLay0 buildLay2 buildLay3
attribute [local go_sem ↓] lrowLay srowLay browLay brow_lay zcs
attribute [local go_sem high] zaj
attribute [local irreducible] layC
attribute [local irreducible] accC
attribute [local go_sem high] tmod2_64w bit64w bit64zw
theorem rWho20_any (n : Int) (w : World) : Calls Tryz.prog 39 #[I n] w fun e w' => e = .returned (.bool (decide (0 ≤ n) && decide (n < 8))) ∧ w = w' := by
  rcases Int.lt_or_le n 0 with h | h
  · go_enter Tryz.func39, Tryz.ntmps39
    go_wp2
    go_ret
    exact ⟨by first | (simp; done) | (simp; omega), rfl⟩
  · rcases Int.lt_or_le n 8 with h2 | h2
    · go_enter Tryz.func39, Tryz.ntmps39
      go_wp2
      go_ret
      exact ⟨by simp [h, h2], rfl⟩
    · go_enter Tryz.func39, Tryz.ntmps39
      go_wp2
      go_ret
      exact ⟨by first | (simp [h]; done) | (simp [h]; omega), rfl⟩
theorem r20Has_any (p : LayT) (w : World) : Calls Tryz.prog 56 #[.agg (layC p)] w fun e w' => e = .returned (.bool (decide (p.ph ≤ 4))) ∧ Ch [] w w' := by
  go_enter Tryz.func56, Tryz.ntmps56
  go_wp2
  go_ret
  exact ⟨rfl, (Ch.refl [] w).alloc _⟩
theorem r20Right_yes (p : LayT) (R : RightL p) (w : World) : Calls Tryz.prog 55 #[.agg (layC p)] w fun e w' => e = .returned (.bool true) ∧ Ch [] w w' := by
  obtain ⟨h0, h1, h2, h3, h4, h5, h6, h7⟩ := R
  have K1 : ∀ w, Calls Tryz.prog 39 #[I p.who] w fun e w' => e = .returned (.bool true) ∧ w = w' := fun w => by
    have := rWho20_any p.who w
    rwa [decide_eq_true h2, decide_eq_true h3] at this
  have K2 : ∀ w, Calls Tryz.prog 38 #[I p.sl] w fun e w' => e = .returned (.bool true) ∧ w = w' := fun w => by
    have := rSlab_any p.sl w
    rwa [decide_eq_true h4, decide_eq_true h5] at this
  have hd : 1 ≤ p.at_ ∧ p.at_ < 40 ∨ p.at_ < 1 ∧ ((p.ph == 2) = false ∧ (p.ph == 3) = false) ∨ ¬ p.at_ < 40 ∧ 1 ≤ p.at_ ∧ ((p.ph == 2) = false ∧ (p.ph == 3) = false) := by
    rcases atL_cases p with h | ⟨h, h' | ⟨h', _⟩ | h'⟩
    · exact .inl h
    · omega
    · omega
    · rcases h with h | h
      · exact .inr (.inl ⟨h, h'⟩)
      · exact .inr (.inr ⟨h.2, h.1, h'⟩)
  clear h7 h2 h3 h4 h5
  rcases hd with ⟨a1, a2⟩ | ⟨a1, b1, b2⟩ | ⟨a1, a2, b1, b2⟩
  all_goals
    first
    | have c1 : ¬ p.ph = 2 := beq_eq_false_iff_ne.1 b1
      have c2 : ¬ p.ph = 3 := beq_eq_false_iff_ne.1 b2
      have d1 : (p.ph != 2) = true := by rw [bne, b1]; rfl
      have d2 : (p.ph != 3) = true := by rw [bne, b2]; rfl
    | skip
    go_enter Tryz.func55, Tryz.ntmps55
    go_wp2_with first | (go_at_call 39; refine (K1 _).mono ?_; rintro e w' ⟨rfl, rfl⟩) | (go_at_call 38; refine (K2 _).mono ?_; rintro e w' ⟨rfl, rfl⟩)
    go_ret
    exact ⟨rfl, (Ch.refl [] w).alloc _⟩
theorem r20Right_no (p : LayT) (h : rightL p = false) (w : World) : Calls Tryz.prog 55 #[.agg (layC p)] w fun e w' => e = .returned (.bool false) ∧ Ch [] w w' := by
  have hw := wrongL h
  clear h
  have K1 := fun w => rWho20_any p.who w
  have K2 := fun w => rSlab_any p.sl w
  obtain ⟨bw, hbw⟩ : ∃ b, (decide (0 ≤ p.who) && decide (p.who < 8)) = b := ⟨_, rfl⟩
  obtain ⟨bs, hbs⟩ : ∃ b, (decide (0 ≤ p.sl) && decide (p.sl < 128)) = b := ⟨_, rfl⟩
  rw [hbw] at K1
  rw [hbs] at K2
  have hw2 : p.ph < 0 ∨ 0 ≤ p.ph ∧ (6 < p.ph ∨ p.ph ≤ 6 ∧ (bw = false ∨ bw = true ∧ (bs = false ∨ bs = true ∧ (oddB p.count = true ∨ oddB p.count = false ∧ ((p.ph = 2 ∨ p.ph = 3 ∧ (p.ph == 2) = false) ∧ (p.at_ < 1 ∨ 1 ≤ p.at_ ∧ ¬ p.at_ < 40)))))) := by
    rcases hw with h | ⟨h0, h | ⟨h1, h | ⟨h2, h | ⟨h3, h | ⟨h4, h | ⟨h5, h6⟩⟩⟩⟩⟩⟩
    · exact .inl h
    · exact .inr ⟨h0, .inl h⟩
    · exact .inr ⟨h0, .inr ⟨h1, .inl (by rw [← hbw]; simp; omega)⟩⟩
    · exact .inr ⟨h0, .inr ⟨h1, .inl (by rw [← hbw]; simp; omega)⟩⟩
    · exact .inr ⟨h0, .inr ⟨h1, .inr ⟨by rw [← hbw]; simp; omega, .inl (by rw [← hbs]; simp; omega)⟩⟩⟩
    · exact .inr ⟨h0, .inr ⟨h1, .inr ⟨by rw [← hbw]; simp; omega, .inl (by rw [← hbs]; simp; omega)⟩⟩⟩
    · refine .inr ⟨h0, .inr ⟨h1, .inr ⟨by rw [← hbw]; simp; omega, .inr ⟨by rw [← hbs]; simp; omega, ?_⟩⟩⟩⟩
      rcases h6 with h6 | ⟨h6, h7 | h7, h8⟩
      · exact .inl h6
      · exact .inr ⟨h6, .inl h7, by omega⟩
      · exact .inr ⟨h6, .inr ⟨h7, by simp; omega⟩, by omega⟩
  clear hw hbw hbs
  rcases hw2 with h | ⟨h0, h | ⟨h1, h | ⟨h2, h | ⟨h3, h | ⟨h4, h | ⟨h, h'⟩, h7 | ⟨h7, h8⟩⟩⟩⟩⟩⟩
  all_goals
    first
    | subst h2 h3
    | subst h2 h
    | subst h2
    | subst h
    | skip
    go_enter Tryz.func55, Tryz.ntmps55
    go_wp2_with first | (go_at_call 39; refine (K1 _).mono ?_; rintro e w' ⟨rfl, rfl⟩) | (go_at_call 38; refine (K2 _).mono ?_; rintro e w' ⟨rfl, rfl⟩)
    go_ret
    exact ⟨by first | rfl | (simp; omega), (Ch.refl [] w).alloc _⟩
theorem r20Right_any (p : LayT) (w : World) : Calls Tryz.prog 55 #[.agg (layC p)] w fun e w' => e = .returned (.bool (rightL p)) ∧ Ch [] w w' := by
  cases h : rightL p with
  | true => exact r20Right_yes p ((zdc p).1 h) w
  | false => exact r20Right_no p h w
end
section
attribute [local go_sem] acc_g0 acc_g1 acc_g2 acc_g4 acc_s0 acc_s1 acc_s2 acc_s4 zcv accC_one accC_all loadAcc storeAcc bacc0 bacc2 bacc3 bacc3u bacc4
attribute [local go_sem ↓] lrowAcc srowAcc browAcc zcn
attribute [local go_sem high] zak
attribute [local go_sem] zcq seenC_one seenC_all seenC_g0 loadSeen storeSeen buildSeen buildSeen0
attribute [local go_sem ↓] lrowSeen srowSeen browSeen zcr
attribute [local go_sem high] zam
attribute [local irreducible] seenC
attribute [local go_sem] zar zby
attribute [local go_sem] Oper.semAt_some zap
attribute [local go_sem] layC_idx lcell0 lcell1 lcell2 lcell3 lcell4 lcell5 lcell46
attribute [local go_sem] lay_g0 lay_g1 lay_g2 lay_g3 lay_g4 lay_g5 lay_g46 lay_s0 lay_s4 lay_s5 lay_s46 zck layC_one layC_all layC_ws boxLay loadLay storeLay build_lay box_lay buildLay0 buildLay2 buildLay3
attribute [local go_sem ↓] lrowLay srowLay browLay brow_lay zcs
attribute [local go_sem high] zaj
attribute [local irreducible] layC
attribute [local irreducible] accC
attribute [local go_sem] boxSeen boxAcc
theorem r02Do_at {l : List (BitVec 64)} {p : LayT} {a : AccT} {y : List (BitVec 64) × BitVec 64} (ha : needL p = some a) (hy : doP l a = some y) (n : Nat) (hn : l.length = n) (hl : n ≤ 8192) (g c : Nat) (cur : Array Value) (hw : WordsAt cur l) (w : World) (hb : w.heap[g]? = some (.cells cur 22 (0, 0))) :
    Calls Tryz.prog 119 #[.slice (some ⟨g, 0, none⟩) n c, .agg (accC p.who a.kind a.at_ (N a.new))] w fun e w' => ∃ R c2 cur2, e = .returned (.tuple #[.slice (some ⟨R, 0, none⟩) n c2, .agg (seenC (N y.2) true)]) ∧ WordsAt cur2 y.1 ∧ w'.heap[R]? = some (.cells cur2 22 (0, 0)) ∧ Ch [] w w' := by
  obtain ⟨j, hj, hjl, hx, ⟨hk, he⟩ | ⟨hk, he⟩⟩ := needL_row ha hy
  · rw [hk, hj, he]
    refine (r02Do_load n g c cur p.who j (N a.new) y.2 w (by omega) hl hb (hw j _ hx)).mono ?_
    rintro e w' ⟨rfl, hC⟩
    exact ⟨g, c, cur, rfl, hw, hkeep hC hb, hC⟩
  · rw [hk, hj, he]
    exact r02Do_store l n g c cur p.who j a.new y.2 w (by omega) hn hl hb hw hx
theorem tl_results {fn : Func} {p q : Tmp} (h : fn.results = #[.tmp p, .cell q 72]) (tmps : Array Value) (b : Nat) (w : World) (d : LayT) (v : Value) (hp : tmps.getD p undef = v) (hq : tmps.getD q undef = .pointer (some ⟨b, 0, none⟩))
    (hb : w.heap[b]? = some (.cells (layC d) 72 (0, 0))) : (results fn tmps).run Tryz.prog w = .ok (.tuple #[v, .agg (layC d)]) w := by
  have hl := run_loadVar_row (P := Tryz.prog) w b 72 72 (layC d) (0, 0) _ hb Tryz.underlying72 rfl (by rw [zck]; kernel_rfl)
  have hp' : tmps[p]?.getD undef = v := by simpa using hp
  have hq' : tmps[q]?.getD undef = .pointer (some ⟨b, 0, none⟩) := by simpa using hq
  simp [results, h, hp', hq', asAddr, hl]
theorem r20Step_over (v : Value) (p : LayT) (h5 : ¬ p.ph ≤ 4) (w : World) : Calls Tryz.prog 64 #[v, .agg (layC p)] w fun e w' => e = .returned (.tuple #[v, .agg (layC p)]) ∧ Ch [] w w' := by
  have H1 := fun w => r20Has_any p w
  rw [decide_eq_false h5] at H1
  obtain ⟨w0, hw0, C0, b0, z0⟩ := step_world p w
  clear h5
  go_enter Tryz.func64, Tryz.ntmps64
  go_wp2_with fail
  try rw [hw0]
  clear hw0
  obtain ⟨B, hB⟩ : ∃ B, w.heap.size = B := ⟨_, rfl⟩
  rw [hB] at b0 z0 ⊢
  have hBw : w.heap.size ≤ B := by omega
  clear hB
  refine (H1 _).mono ?_
  rintro e w1 ⟨rfl, hc1⟩
  have b1 := hkeep hc1 b0
  have z1 := hkeep hc1 z0
  have C1 := C0.trans hc1
  clear b0 z0 C0 hc1 H1
  go_upto_region 2 with (fail)
  have s2 : (fun W' : World => W'.heap[B]? = some (.cells (layC p) 72 (0, 0))) w1.drew := b1
  have z2 : w1.drew.heap[B + 1]? = some (.cells (layC zeroLay) 72 (0, 0)) := z1
  have C2 : Ch [] w w1.drew := C1.drew
  refine wp_region_held_drew (S := fun W' => W'.heap[B]? = some (.cells (layC p) 72 (0, 0))) (by kernel_rfl) s2 ?_
  intro _
  simp only [List.size_toArray, List.length_cons, List.length_nil, Nat.reduceAdd]
  clear b1 z1 C1
  generalize w1.drew = w2 at *
  refine tk 0 11 ?_ rfl s2 ?_ ?_; rotate_left
  · intro _ _; go_simp; try with_reducible rfl
  try go_frame
  refine tk 1 12 ?_ rfl s2 ?_ ?_; rotate_left
  · intro _ _; go_simp; try with_reducible rfl
  try go_frame
  refine tk 2 4 ?_ rfl s2 ?_ ?_; rotate_left
  · intro _ _; go_simp; try with_reducible rfl
  try go_frame
  refine rd 3 rfl (fun K hK => ?_); go_simp
  have z3 : (World.onObj w2 (B + 1) (laidAt 0 (layC p))).heap[B + 1]? = some (.cells (layC p) 72 (0, 0)) := by rw [zab, if_pos rfl, z2, Option.map_some, zaj]
  have s3 : (World.onObj w2 (B + 1) (laidAt 0 (layC p))).heap[B]? = some (.cells (layC p) 72 (0, 0)) := by rw [zab, if_neg (by omega)]; exact s2
  have C3 : Ch [] w (World.onObj w2 (B + 1) (laidAt 0 (layC p))) := C2.onObj (.inr (by omega)) _
  refine hK.out _ _ s3 (fun _ => ?_)
  clear hK K s2 z2 C2 s3
  generalize World.onObj w2 (B + 1) (laidAt 0 (layC p)) = w3 at *
  refine wpAnyH_done (by kernel_rfl) ?_ _
  go_wp2
  refine bodyPost_ret (tl_results Tryz.results64 _ (B + 1) _ p _ rfl rfl z3) rfl ⟨rfl, C3⟩
theorem r20Step_core (n g c : Nat) (cur : Array Value) (L : List (BitVec 64)) (p q : LayT) (kd at_ nw : Int) (x : BitVec 64) (h4 : p.ph ≤ 4)
    (N1 : ∀ w, Calls Tryz.prog 59 #[.agg (layC p)] w fun e w' => e = .returned (.agg (accC p.who kd at_ nw)) ∧ Ch [] w w')
    (D1 : ∀ w, w.heap[g]? = some (.cells cur 22 (0, 0)) → Calls Tryz.prog 119 #[.slice (some ⟨g, 0, none⟩) n c, .agg (accC p.who kd at_ nw)] w fun e w' => ∃ R c2 cur2, e = .returned (.tuple #[.slice (some ⟨R, 0, none⟩) n c2, .agg (seenC (N x) true)]) ∧ WordsAt cur2 L ∧ w'.heap[R]? = some (.cells cur2 22 (0, 0)) ∧ Ch [] w w')
    (T1 : ∀ w, Calls Tryz.prog 62 #[.agg (layC p), .agg (seenC (N x) true)] w fun e w' => e = .returned (.agg (layC q)) ∧ Ch [] w w')
    (w : World) (hb : w.heap[g]? = some (.cells cur 22 (0, 0))) :
    Calls Tryz.prog 64 #[.slice (some ⟨g, 0, none⟩) n c, .agg (layC p)] w fun e w' => ∃ R c2 cur2, e = .returned (.tuple #[.slice (some ⟨R, 0, none⟩) n c2, .agg (layC q)]) ∧ WordsAt cur2 L ∧ w'.heap[R]? = some (.cells cur2 22 (0, 0)) ∧ Ch [] w w' := by
  have H1 := fun w => r20Has_any p w
  rw [decide_eq_true h4] at H1
  obtain ⟨w0, hw0, C0, b0, z0⟩ := step_world p w
  have g0 := hkeep C0 hb
  obtain ⟨wh, hwh⟩ : ∃ x, p.who = x := ⟨_, rfl⟩
  rw [hwh] at N1 D1
  clear h4 hb hwh
  go_enter Tryz.func64, Tryz.ntmps64
  go_wp2_with fail
  try rw [hw0]
  clear hw0
  obtain ⟨B, hB⟩ : ∃ B, w.heap.size = B := ⟨_, rfl⟩
  rw [hB] at b0 z0 ⊢
  have hBw : w.heap.size ≤ B := by omega
  clear hB
  refine (H1 _).mono ?_
  rintro e w1 ⟨rfl, hc1⟩
  have b1 := hkeep hc1 b0
  have z1 := hkeep hc1 z0
  have g1 := hkeep hc1 g0
  have C1 := C0.trans hc1
  clear b0 z0 g0 C0 hc1 H1
  go_wp2_with fail
  refine (N1 _).mono ?_
  rintro e w2 ⟨rfl, hc2⟩
  have b2 := hkeep hc2 b1
  have z2 := hkeep hc2 z1
  have g2 := hkeep hc2 g1
  have C2 := C1.trans hc2
  clear b1 z1 g1 C1 hc2 N1
  go_wp2_with fail
  refine (D1 _ g2).mono ?_
  rintro e w3 ⟨R, c2, cur2, rfl, hcur2, r3, hc3⟩
  have b3 := hkeep hc3 b2
  have z3 := hkeep hc3 z2
  have C3 := C2.trans hc3
  clear b2 z2 g2 C2 hc3 D1
  have nb := ns b3
  have nz : ¬ B + 1 = w3.heap.size := by have := zae z3; omega
  go_upto_region 4 with (fail)
  have hc4 := zbr (N x) true w3
  have d4 := seen_put (N x) true w3
  have b4 := hkeep hc4 b3
  have z4 := hkeep hc4 z3
  have r4 := hkeep hc4 r3
  have C4 := C3.trans hc4
  clear b3 z3 r3 C3 hc4
  obtain ⟨w4, hw4⟩ : ∃ W, World.onObj (w3.alloc (.cells (seenC 0 false) 93)) w3.heap.size (laidAt 0 (seenC (N x) true)) = W := ⟨_, rfl⟩
  rw [hw4] at d4 b4 z4 r4 C4 ⊢
  clear hw4
  obtain ⟨D, hD⟩ : ∃ D, w3.heap.size = D := ⟨_, rfl⟩
  rw [hD] at d4 nb nz ⊢
  clear hD
  go_wp2_with fail
  refine (T1 _).mono ?_
  rintro e w5 ⟨rfl, hc5⟩
  have z5 := hkeep hc5 z4
  have r5 := hkeep hc5 r4
  have C5 := C4.trans hc5
  clear d4 b4 z4 r4 C4 hc5 T1 nb nz
  have hRz : ¬ R = B + 1 := zdb r5 z5 (by decide)
  go_wp2
  refine bodyPost_ret (tl_results Tryz.results64 _ (B + 1) _ q _ rfl rfl ?_) rfl ⟨R, c2, cur2, rfl, hcur2, ?_, C5.onObj (p := B + 1) (.inr (by omega)) _⟩
  · rw [zab, if_pos rfl, z5, Option.map_some, zaj]
  · rw [zab, if_neg hRz]; exact r5
theorem r20Step_is {l : List (BitVec 64)} {p : LayT} {a : AccT} {y : List (BitVec 64) × BitVec 64} {n : Nat} (hn : l.length = n) (hl : n ≤ 8192) (ha : needL p = some a) (hy : doP l a = some y) (g c : Nat) (cur : Array Value) (hw : WordsAt cur l) (w : World) (hb : w.heap[g]? = some (.cells cur 22 (0, 0))) :
    Calls Tryz.prog 64 #[.slice (some ⟨g, 0, none⟩) n c, .agg (layC p)] w fun e w' => ∃ R c2 cur2, e = .returned (.tuple #[.slice (some ⟨R, 0, none⟩) n c2, .agg (layC (takeL p y.2))]) ∧ WordsAt cur2 y.1 ∧ w'.heap[R]? = some (.cells cur2 22 (0, 0)) ∧ Ch [] w w' := by
  obtain ⟨hr, h4⟩ := needL_some ha
  exact r20Step_core n g c cur y.1 p (takeL p y.2) a.kind a.at_ (N a.new) y.2 h4 (fun w => r20Need_any p a ha w) (fun w hb => r02Do_at ha hy n hn hl g c cur hw w hb) (fun w => r20Take_any p hr h4 y.2 true w) w hb
theorem r20Step_rowIn {l : List (BitVec 64)} {p : LayT} {a : AccT} {y : List (BitVec 64) × BitVec 64} {n : Nat} {v : Value} (hl : n ≤ 8192) (ha : needL p = some a) (hy : doP l a = some y) (w : World) (hv : RowIn w v n l) :
    Calls Tryz.prog 64 #[v, .agg (layC p)] w fun e w' => ∃ v', e = .returned (.tuple #[v', .agg (layC (takeL p y.2))]) ∧ RowIn w' v' n y.1 ∧ Ch [] w w' := by
  obtain ⟨r, c, cur, rfl, hln, hW, hA⟩ := hv
  refine (r20Step_is hln hl ha hy r c cur hA w hW).mono ?_
  rintro e w' ⟨R, c2, cur2, rfl, h2, h3, hC⟩
  exact ⟨_, rfl, ⟨R, c2, cur2, rfl, by rw [doP_lenL hy, hln], h3, h2⟩, hC⟩
theorem RunsL.inv {l l' : List (BitVec 64)} {p p' : LayT} {k : Nat} (h : RunsL l p k l' p') : (4 < p.ph ∧ k = 0 ∧ l' = l ∧ p' = p) ∨ ∃ a y k1, p.ph ≤ 4 ∧ k = k1 + 1 ∧ needL p = some a ∧ doP l a = some y ∧ RunsL y.1 (takeL p y.2) k1 l' p' := by
  cases h with
  | done h => exact .inl ⟨h, rfl, rfl, rfl⟩
  | step h4 hr ha hy hx => exact .inr ⟨_, _, _, h4, rfl, ha, hy, hx⟩
end
section
attribute [local go_sem] zar zby
attribute [local go_sem] Oper.semAt_some zap
attribute [local go_sem] layC_idx lcell0 lcell1 lcell2 lcell3 lcell4 lcell5 lcell46
attribute [local go_sem] lay_g0 lay_g1 lay_g2 lay_g3 lay_g4 lay_g5 lay_g46 lay_s0 lay_s4 lay_s5 lay_s46 zck layC_one layC_all layC_ws boxLay loadLay storeLay build_lay box_lay buildLay0 buildLay2 buildLay3
attribute [local go_sem ↓] lrowLay srowLay browLay brow_lay zcs
attribute [local go_sem high] zaj
attribute [local irreducible] layC
theorem RowIn.lay {w : World} {v : Value} {n B : Nat} {l : List (BitVec 64)} {p : LayT} (h : RowIn w v n l) (hb : w.heap[B]? = some (.cells (layC p) 72 (0, 0))) (f : Obj → Obj) : RowIn (World.onObj w B f) v n l := by
  obtain ⟨r, d, cur, rfl, hn, hW, hA⟩ := h
  exact ⟨r, d, cur, rfl, hn, (zbv f (zdb hW hb (by decide))).trans hW, hA⟩
theorem tt_results {fn : Func} {p q : Tmp} (h : fn.results = #[.tmp p, .tmp q]) (tmps : Array Value) (w : World) (v y : Value) (hp : tmps.getD p undef = v) (hq : tmps.getD q undef = y) : (results fn tmps).run Tryz.prog w = .ok (.tuple #[v, y]) w := by
  have hp' : tmps[p]?.getD undef = v := by simpa using hp
  have hq' : tmps[q]?.getD undef = y := by simpa using hq
  simp [results, h, hp', hq']
theorem r20Run_any (v : Value) (n : Nat) (l l' : List (BitVec 64)) (sl : Int) (seed : BitVec 64) (p' : LayT) (k : Nat) (hn : n ≤ 8192) (hrun : RunsL l (firstL 0 sl seed) k l' p') (hk : k ≤ 100000) (w : World) (hv : RowIn w v n l) :
    Calls Tryz.prog 41 #[v, I sl, U seed] w fun e w' => ∃ v', e = .returned (.tuple #[v', I (k : Nat)]) ∧ RowIn w' v' n l' ∧ Ch [] w w' := by
  have b0 := zcm (firstL 0 sl seed) w
  have C0 := zaf (firstL 0 sl seed) w
  have v0 := Lib.hid (hv.keep C0)
  have HR0 := Lib.hid hrun
  clear hv hrun
  go_enter Tryz.func41, Tryz.ntmps41
  go_wp2
  obtain ⟨W0, hW0⟩ : ∃ W, World.onObj (w.alloc (.cells (layC zeroLay) 72)) w.heap.size (laidAt 0 (layC (firstL 0 sl seed))) = W := ⟨_, rfl⟩
  rw [hW0] at b0 C0 v0
  first | rw [hW0] | skip
  clear hW0
  obtain ⟨B, hB⟩ : ∃ B, w.heap.size = B := ⟨_, rfl⟩
  rw [hB] at b0
  first | rw [hB] | skip
  have hBw : w.heap.size ≤ B := by omega
  clear hB
  go_loopw [0, 9] (fun v i wr => ∃ (l1 : List (BitVec 64)) (p1 : LayT) (j k1 : Nat), i = .int .i64 j ∧ j + k1 = k ∧ RowIn wr v n l1 ∧ RunsL l1 p1 k1 l' p' ∧ wr.heap[B]? = some (.cells (layC p1) 72 (0, 0)) ∧ Ch [] w wr) (fun _ i _ => k - (intOf i).toNat)
  case atStart => exact ⟨l, firstL 0 sl seed, 0, k, rfl, by omega, v0.out, HR0.out, b0, C0⟩
  case round =>
    obtain ⟨l1, p1, j, k1, hj, hjk, hv1, hr1, hb1, hC1⟩ := hrel
    subst hj
    clear b0 v0 C0 HR0
    have H1 := fun w => r20Has_any p1 w
    rcases hr1.inv with ⟨h5, rfl, rfl, rfl⟩ | ⟨a, y, k2, h4, rfl, ha, hy, hr2⟩
    · have hnot : ¬ p'.ph ≤ 4 := by omega
      have hjj : j = k := by omega
      subst hjj
      rw [decide_eq_false hnot] at H1
      have HV := Lib.hid hv1
      clear hr1 hv1 h5 hjk hnot
      go_wp2_with fail
      refine (H1 _).mono ?_
      rintro e w1 ⟨rfl, hc1⟩
      have V1 := Lib.hid (HV.out.keep hc1)
      have C1 := hC1.trans hc1
      clear hb1 hC1 hc1 H1 HV
      go_wp2
      refine bodyPost_ret (tt_results Tryz.results41 _ _ _ _ rfl rfl) rfl ⟨_, rfl, V1.out, C1⟩
    · rw [decide_eq_true h4] at H1
      have S1 := fun (w : World) (hv : RowIn w u0 n l1) => r20Step_rowIn hn ha hy w hv
      have HV := Lib.hid hv1
      have HR := Lib.hid hr2
      have hjb : (j : Int) < 100000 := by omega
      have hj0 : (0 : Int) ≤ j := by omega
      clear hr1 hv1 h4 ha
      obtain ⟨q, hq⟩ : ∃ q, takeL p1 y.2 = q := ⟨_, rfl⟩
      rw [hq] at S1 HR
      clear hq hy
      go_wp2_with fail
      refine (H1 _).mono ?_
      rintro e w1 ⟨rfl, hc1⟩
      have V1 := Lib.hid (HV.out.keep hc1)
      have b1 := hkeep hc1 hb1
      have C1 := hC1.trans hc1
      clear hb1 hC1 hc1 H1 HV
      go_wp2_with fail
      refine (S1 _ V1.out).mono ?_
      rintro e w2 ⟨v2, rfl, hV2, hc2⟩
      have b2 := hkeep hc2 b1
      have C2 := C1.trans hc2
      have V3 := Lib.hid (hV2.lay b2 (laidAt 0 (layC q)))
      clear b1 C1 hc2 S1 V1 hV2
      go_wp2
      go_roundw
      case rel => exact ⟨y.1, q, j + 1, k2, by go_num, by omega, V3.out, HR.out, by rw [zab, if_pos rfl, b2, Option.map_some, zaj], C2.onObj (.inr hBw) _⟩
      case measure => simp [intOf]; omega
end
end Go.Proofs.Hc
