/- Package cells: Do, as a model. -/
import Derived.Test.YtcikopeddljgkaaGreatKHce
import Derived.Test.YtcikopeddljgkaaGreatKPw
set_option linter.unusedSimpArgs false
set_option linter.unusedVariables false
set_option maxHeartbeats 2000000
set_option maxRecDepth 100000
namespace Go.Proofs.Hc
open Go.RowKit
variable {me : Int}
attribute [local go_sem] zbr zby zau zba zbl zay zbk zbm zbu signed64 signed8 zas BitVec.ofInt_add BitVec.ofInt_mul ofInt_sub' zaw zax wide8 eqN neN zbx shr1 shr7 shr56
attribute [local go_sem high] zaz zbt
attribute [local go_sem] zan zbv zae zal zad zbd zao zag zbj zaj zbc zbe
attribute [local go_sem] load26 load73 load23 store26 build73
attribute [local go_sem ↓] lrow26 lrow73 lrow23 srow26 zero26 brow73 zab zav zbb zaa zac
attribute [local go_sem] zah zaq zat zbf zbg zbp zam zar zbq zbi zbh
attribute [local go_sem] nn2 nm2 nn3 nm3 nn4 nm4 nn5 nm5 nn6 nm6 nn7 nm7 nn8 nm8
attribute [local go_sem] acc_g0 acc_g1 acc_g2 acc_g4 acc_s0 acc_s1 acc_s2 acc_s4 zcu accC_one accC_all loadAcc storeAcc bacc0 bacc2 bacc3 bacc3u bacc4
attribute [local go_sem ↓] lrowAcc srowAcc browAcc zct
attribute [local go_sem high] zce
attribute [local go_sem] loadAcs storeAcs buildAcs boxAcs boxAcc meth_load meth_swap
attribute [local go_sem ↓] lrowAcs srowAcs browAcs zeroAcs_run
attribute [local go_sem] zcw seenC_one seenC_all seenC_g0 loadSeen storeSeen buildSeen buildSeen0
attribute [local go_sem ↓] lrowSeen srowSeen browSeen zdk
attribute [local go_sem high] zcq
attribute [local irreducible] seenC
attribute [local go_sem] Oper.semAt_some zak zas
attribute [local irreducible] accC
theorem Do_bad (hm0 : 0 ≤ me) (hm7 : me < 8) (k : Int) (a d : Int) (n g c : Nat) (w : World) (hk : 1 ≤ k) (hk4 : k ≤ 4) (ha : (n : Int) ≤ a) (hn1 : 1 ≤ n) (hl : n ≤ 8192) :
    Calls Tryz.prog 118 #[.slice (some ⟨g, 0, none⟩) n c, .agg (accC me k a d)] w fun e w' => e = .returned (.tuple #[.slice none 0 0, .agg (seenC 0 false), I 2]) ∧ Ch [] w w' := by
  have K1 := fun w => cCheck_at hm0 hm7 k a n d hk hk4 (by omega) ha (by omega) (by omega) w
  have C0 : Ch [] w (World.onObj (((w.alloc (.cells (accC me k a d) 87)).alloc (.cells (seenC 0 false) 93)).alloc (.cells (accC 0 0 0 0) 264)) (w.heap.size + 1 + 1) (laidAt 0 (accC me k a d))) := ((((Ch.refl [] w).alloc _).alloc _).alloc _).onObj (p := w.heap.size + 1 + 1) (.inr (by omega)) _
  have z0 : (World.onObj (((w.alloc (.cells (accC me k a d) 87)).alloc (.cells (seenC 0 false) 93)).alloc (.cells (accC 0 0 0 0) 264)) (w.heap.size + 1 + 1) (laidAt 0 (accC me k a d))).heap[w.heap.size + 1]? = some (.cells (seenC 0 false) 93 (0, 0)) := by
    rw [zac, if_neg (by omega), zab, if_neg (by simp), zab, if_pos (by simp)]
  clear hk hk4 ha hn1 hl
  go_enter Tryz.func118, Tryz.ntmps118
  go_wp2_with fail
  generalize World.onObj (((w.alloc (.cells (accC me k a d) 87)).alloc (.cells (seenC 0 false) 93)).alloc (.cells (accC 0 0 0 0) 264)) (w.heap.size + 1 + 1) (laidAt 0 (accC me k a d)) = W0 at *
  refine (K1 _).mono ?_
  rintro e w1 ⟨rfl, hc1⟩
  have z1 := hkeep hc1 z0
  have C1 := C0.trans hc1
  go_wp2
  refine bodyPost_ret (do_results Tryz.results118 _ (w.heap.size + 1) _ 0 false _ _ rfl rfl rfl ?_) rfl ⟨rfl, C1.onObj (p := w.heap.size + 1) (.inr (by omega)) _⟩
  simp [go_sem, z1]
def RowAt_ (w0 w : World) (R : Nat) (l : List (BitVec 64)) : Prop := w0.heap.size ≤ R ∧ w.heap[R]? = some (.cells (wcells l) 22 (0, 0))
def DoPost (w : World) (l : List (BitVec 64)) (a : AccT) (e : Ending) (w' : World) : Prop :=
  match doP l a with
  | none => e = .returned (.tuple #[.slice none 0 0, .agg (seenC 0 false), I 2]) ∧ Ch [] w w'
  | some y => ∃ R, e = .returned (.tuple #[.slice (some ⟨R, 0, none⟩) l.length l.length, .agg (seenC (N y.2) true), I 0]) ∧ RowAt_ w w' R y.1 ∧ y.1.length = l.length ∧ Ch [] w w'
theorem Do_who (hm0 : 0 ≤ me) (hm7 : me < 8) (l : List (BitVec 64)) (a : AccT) (g c : Nat) (cur : Array Value) (w : World) (hk : a.kind = 1 ∨ a.kind = 2 ∨ a.kind = 4) (ha : 0 ≤ a.at_) (h1 : 1 ≤ l.length) (hl : l.length ≤ 8192)
    (hb : w.heap[g]? = some (.cells cur 22 (0, 0))) (hw : WordsAt cur l) :
    Calls Tryz.prog 118 #[.slice (some ⟨g, 0, none⟩) l.length c, .agg (accC me a.kind a.at_ (N a.new))] w (DoPost w l a) := by
  obtain ⟨kd, at_, new⟩ := a
  simp only at hk ha ⊢
  obtain ⟨j, rfl⟩ := Int.eq_ofNat_of_zero_le ha
  rcases Nat.lt_or_ge j l.length with hj | hj
  · obtain ⟨x, hx⟩ : ∃ x, l[j]? = some x := ⟨l[j]'hj, List.getElem?_eq_getElem hj⟩
    have key : ∀ (k : Nat) (z : BitVec 64), kd = (k : Int) → 1 ≤ k → k ≤ 4 → (doP l ⟨kd, (j : Int), new⟩ = some (l.set j z, x)) →
        (∀ (r : Nat) (w : World), w.heap[r]? = some (.cells (wcells l) 22 (0, 0)) → Calls Tryz.prog 185 #[.agg (accC me k j (N new)), .iface 268 (.agg #[.slice (some ⟨r, j, none⟩) 1 1])] w (DoesPost w r j (wcells l) x z)) →
        Calls Tryz.prog 118 #[.slice (some ⟨g, 0, none⟩) l.length c, .agg (accC me kd j (N new))] w (DoPost w l ⟨kd, (j : Int), new⟩) := by
      intro k z hkd h1k h4k hd hX
      subst hkd
      refine (Do_core hm0 hm7 k j (N new) x z l g c cur w h1k h4k hj hl hx hb hw hX).mono ?_
      rintro e w' ⟨R, rfl, hR, hRow, hC⟩
      unfold DoPost
      rw [hd]
      exact ⟨R, rfl, ⟨hR, hRow⟩, by simp, hC⟩
    have hset : l.set j x = l := by
      apply List.ext_getElem?
      intro i
      rw [List.getElem?_set]
      by_cases h : j = i
      · subst h; rw [if_pos rfl, if_pos hj, hx]
      · rw [if_neg h]
    rcases hk with rfl | rfl | rfl
    · refine key 1 x rfl (by omega) (by omega) ?_ (fun r w h => does_1 j (N new) x r j (wcells l) w h (wcells_at l j x hx))
      simp [doP, hx, hset]
    · refine key 2 new rfl (by omega) (by omega) ?_ (fun r w h => does_2 j new x r j (wcells l) w h (wcells_at l j x hx))
      simp [doP, hx]
    · refine key 4 (x + new) rfl (by omega) (by omega) ?_ (fun r w h => does_4 j new x r j (wcells l) w h (wcells_at l j x hx))
      simp [doP, hx]
  · refine (Do_bad hm0 hm7 kd j (N new) l.length g c w (by omega) (by omega) (by omega) h1 hl).mono ?_
    rintro e w' ⟨rfl, hC⟩
    unfold DoPost
    have hd : doP l ⟨kd, (j : Int), new⟩ = none := by
      simp [doP, List.getElem?_eq_none hj]
    rw [hd]
    exact ⟨rfl, hC⟩
end Go.Proofs.Hc
namespace Go.Proofs.Hc
open Go.RowKit
attribute [local go_sem] zbr zby zau zba zbl zay zbk zbm zbu signed64 signed8 zas BitVec.ofInt_add BitVec.ofInt_mul ofInt_sub' zaw zax wide8 eqN neN zbx shr1 shr7 shr56
attribute [local go_sem high] zaz zbt
attribute [local go_sem] zan zbv zae zal zad zbd zao zag zbj zaj zbc zbe
attribute [local go_sem] load26 load73 load23 store26 build73
attribute [local go_sem ↓] lrow26 lrow73 lrow23 srow26 zero26 brow73 zab zav zbb zaa zac
attribute [local go_sem] zah zaq zat zbf zbg zbp zam zar zbq zbi zbh
attribute [local go_sem] nn2 nm2 nn3 nm3 nn4 nm4 nn5 nm5 nn6 nm6 nn7 nm7 nn8 nm8
section
attribute [local go_sem] acc_g0 acc_g1 acc_g2 acc_g4 acc_s0 acc_s1 acc_s2 acc_s4 zcu accC_one accC_all loadAcc storeAcc bacc0 bacc2 bacc3 bacc3u bacc4
attribute [local go_sem ↓] lrowAcc srowAcc browAcc zct
attribute [local go_sem high] zce
attribute [local go_sem] zcw seenC_one seenC_all seenC_g0 loadSeen storeSeen buildSeen buildSeen0
attribute [local go_sem ↓] lrowSeen srowSeen browSeen zdk
attribute [local go_sem high] zcq
attribute [local irreducible] seenC
attribute [local go_sem] zas zbo
attribute [local go_sem] Oper.semAt_some zak
attribute [local go_sem] zch pacell0 pacell1 pacell2 pacell3 pacell4 pacell5 pacell6 pacell7 pacell42
attribute [local go_sem] zcv zdi zde zcz zcy zdd zdh zdc zcc zcp zdj zdg zck zbn zcg zci boxPart loadPart storePart zcd zcs buildPart0 buildPart4
attribute [local go_sem ↓] lrowPart srowPart browPart zcj zbw
attribute [local go_sem high] zap
attribute [local irreducible] partC
attribute [local irreducible] accC
attribute [local go_sem] boxSeen
def StepSPost (w : World) (l : List (BitVec 64)) (p : PartT) (e : Ending) (w' : World) : Prop :=
  match stepS l p with
  | none => e = .returned (.tuple #[.slice none 0 0, .agg (partC zeroPart), I 2]) ∧ Ch [] w w'
  | some y => ∃ R, e = .returned (.tuple #[.slice (some ⟨R, 0, none⟩) y.1.length y.1.length, .agg (partC y.2), I 0]) ∧ RowAt_ w w' R y.1 ∧ y.1.length = l.length ∧ Ch [] w w'
theorem doP_lenS {l : List (BitVec 64)} {a : AccT} {y : List (BitVec 64) × BitVec 64} (hd : doP l a = some y) : y.1.length = l.length := by
  unfold doP at hd
  split at hd
  · cases hd
  · have hd := Option.some.inj hd
    subst hd
    dsimp only
    split
    · rfl
    · split <;> simp
theorem accS_kind (p : PartT) : (accS p).kind = 1 ∨ (accS p).kind = 2 := by
  by_cases h : p.ph = 5 ∨ p.ph = 6
  · right; exact if_pos h
  · left; exact if_neg h
theorem s22Step_any (l : List (BitVec 64)) (g c : Nat) (cur : Array Value) (p : PartT) (w : World) (h1 : 1 ≤ l.length) (hl : l.length ≤ 8192) (hb : w.heap[g]? = some (.cells cur 22 (0, 0))) (hw : WordsAt cur l) (hr : rightS p = true) :
    Calls Tryz.prog 52 #[.slice (some ⟨g, 0, none⟩) l.length c, .agg (partC p)] w (StepSPost w l p) := by
  cases hn : needS p with
  | none =>
    refine (s22Step_over l g c cur p hr hn w h1 hl hb hw).mono ?_
    rintro e w' ⟨R, rfl, hR, hrow, hC⟩
    unfold StepSPost stepS
    rw [hn]
    exact ⟨R, rfl, ⟨hR, hrow⟩, rfl, hC⟩
  | some a =>
    have hp := needS_some hn
    have R := (zcx p).1 hr
    have ha : a = accS p := by
      rw [needS_is hr hp.2] at hn
      exact (Option.some.inj hn).symm
    have N1 : ∀ w, Calls Tryz.prog 47 #[.agg (partC p)] w fun e w' => e = .returned (.tuple #[.agg (accC p.who a.kind a.at_ (N a.new)), .bool true]) ∧ Ch [] w w' := fun w => by
      have := s22Need_any p w
      rw [hn, needSV] at this
      exact this
    have hk : a.kind = 1 ∨ a.kind = 2 ∨ a.kind = 4 := by rw [ha]; rcases accS_kind p with h | h <;> omega
    have ha0 : 0 ≤ a.at_ := by rw [ha]; exact (whereS_in R hp.2).1
    have D1 : ∀ w, w.heap[g]? = some (.cells cur 22 (0, 0)) → Calls Tryz.prog 118 #[.slice (some ⟨g, 0, none⟩) l.length c, .agg (accC p.who a.kind a.at_ (N a.new))] w (DoPost w l a) := fun w h => Do_who R.who0 R.who7 l a g c cur w hk ha0 h1 hl h hw
    cases hd : doP l a with
    | none =>
      have D2 : ∀ w, w.heap[g]? = some (.cells cur 22 (0, 0)) → Calls Tryz.prog 118 #[.slice (some ⟨g, 0, none⟩) l.length c, .agg (accC p.who a.kind a.at_ (N a.new))] w fun e w' => e = .returned (.tuple #[.slice none 0 0, .agg (seenC 0 false), I 2]) ∧ Ch [] w w' := fun w h => (D1 w h).mono fun e w' hh => by unfold DoPost at hh; rw [hd] at hh; exact hh
      refine (s22Step_out l.length g c cur p a.kind a.at_ (N a.new) hr N1 D2 w h1 hl hb).mono ?_
      rintro e w' ⟨rfl, hC⟩
      unfold StepSPost stepS
      rw [hn]
      dsimp only
      rw [hd]
      exact ⟨rfl, hC⟩
    | some y =>
      have hyl := doP_lenS hd
      have D2 : ∀ w, w.heap[g]? = some (.cells cur 22 (0, 0)) → Calls Tryz.prog 118 #[.slice (some ⟨g, 0, none⟩) l.length c, .agg (accC p.who a.kind a.at_ (N a.new))] w fun e w' => ∃ Rr, e = .returned (.tuple #[.slice (some ⟨Rr, 0, none⟩) l.length l.length, .agg (seenC (N y.2) true), I 0]) ∧ w.heap.size ≤ Rr ∧ w'.heap[Rr]? = some (.cells (wcells y.1) 22 (0, 0)) ∧ Ch [] w w' := fun w h => (D1 w h).mono fun e w' hh => by
        unfold DoPost at hh
        rw [hd] at hh
        obtain ⟨Rr, he, hrow, _, hC⟩ := hh
        exact ⟨Rr, he, hrow.1, hrow.2, hC⟩
      refine (s22Step_go l.length g c cur p (wcells y.1) (takeS p y.2) a.kind a.at_ (N a.new) y.2 hr N1 D2 (fun w => s22Take_yes p hr hp.2 y.2 true w) w h1 hl hb).mono ?_
      rintro e w' ⟨R, rfl, hR, hrow, hC⟩
      unfold StepSPost stepS
      rw [hn]
      dsimp only
      rw [hd]
      exact ⟨R, by rw [hyl], ⟨hR, hrow⟩, hyl, hC⟩
theorem wp_scope_jumps22 {P : Program} {a : Act} {w : World} {Q : Exit → Act → World → Prop} {c rest : Code} (l : Nat) (J : Act → World → Prop) (μ : Act → World → Nat) (hf : findLabel c l = some (Code.skip.seq rest))
    (pass : ∀ a w, J a w → rest.wp P (Exit.jump l (fun a' w' => J a' w' ∧ μ a' w' < μ a w) Q) a w)
    (first : (∀ a w, J a w → rest.wp P (Exit.jump l J Q) a w) → c.wp P (Exit.jump l J Q) a w) : (Code.scope c).wp P Q a w :=
  wp_scope_jumps l J μ hf (first fun a w h => wp_mono (pass a w h) (fun e a w h => by cases e <;> first | exact h | exact ⟨h.1, h.2.1⟩)) (fun a w h => wp_seq (wp_skip (pass a w h)))
theorem jump_ret22 (l : Nat) (J : Act → World → Prop) (Q : Exit → Act → World → Prop) (a : Act) (w : World) : Exit.jump l J Q .ret a w = Q .ret a w := rfl
theorem index3_0 (a b c : Value) (w : World) : (Instr.index 158 (.agg #[a, b, c]) (.int .i64 0)).run Tryz.prog w = .ok a w := by kernel_rfl
theorem index3_1 (a b c : Value) (w : World) : (Instr.index 158 (.agg #[a, b, c]) (.int .i64 1)).run Tryz.prog w = .ok b w := by kernel_rfl
theorem index3_2 (a b c : Value) (w : World) : (Instr.index 158 (.agg #[a, b, c]) (.int .i64 2)).run Tryz.prog w = .ok c w := by kernel_rfl
attribute [local go_sem] index3_0 index3_1 index3_2
theorem run22_results {fn : Func} {p q u v : Tmp} (h : fn.results = #[.tmp p, .cell q 51, .tmp u, .tmp v]) (tmps : Array Value) (b : Nat) (w : World) (d : PartT) (x y z : Value) (hp : tmps.getD p undef = x) (hq : tmps.getD q undef = .pointer (some ⟨b, 0, none⟩)) (hu : tmps.getD u undef = y) (hv : tmps.getD v undef = z)
    (hb : w.heap[b]? = some (.cells (partC d) 51 (0, 0))) : (results fn tmps).run Tryz.prog w = .ok (.tuple #[x, .agg (partC d), y, z]) w := by
  have hl := run_loadVar_row (P := Tryz.prog) w b 51 51 (partC d) (0, 0) _ hb Tryz.underlying51 rfl (by rw [zbn]; kernel_rfl)
  have hp' : tmps[p]?.getD undef = x := by simpa using hp
  have hq' : tmps[q]?.getD undef = .pointer (some ⟨b, 0, none⟩) := by simpa using hq
  have hu' : tmps[u]?.getD undef = y := by simpa using hu
  have hv' : tmps[v]?.getD undef = z := by simpa using hv
  simp [results, h, hp', hq', hu', hv', asAddr, hl]
theorem run22_b (p : PartT) (w : World) : ((w.alloc (.cells (partC p) 51)).alloc (.cells (partC zeroPart) 51)).heap[w.heap.size]? = some (.cells (partC p) 51 (0, 0)) := by
  rw [zab, if_neg (by simp), zab, if_pos rfl]
theorem run22_z (p : PartT) (w : World) : ((w.alloc (.cells (partC p) 51)).alloc (.cells (partC zeroPart) 51)).heap[w.heap.size + 1]? = some (.cells (partC zeroPart) 51 (0, 0)) := by
  rw [zab, if_pos (by simp)]
theorem cell_there (s : Int) (s0 : 0 ≤ s) (s1 : s < 128) : ∃ z : Int, z = 55 + 40 * s ∧ ∀ w, Calls Tryz.prog 44 #[I s, I 39] w fun e w' => e = .returned (.tuple #[I z, I 0]) ∧ w = w' :=
  ⟨16 + 40 * s + 39, by omega, fun w => cell_ok s 39 s0 s1 (by omega) (by omega) w⟩
end
end Go.Proofs.Hc
