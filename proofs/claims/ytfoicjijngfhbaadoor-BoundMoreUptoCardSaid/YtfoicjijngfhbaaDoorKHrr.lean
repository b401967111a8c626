/- Regions that draw their order, in the body of a range over a function. -/
import Derived.Test.YtfoicjijngfhbaaDoorKHqHq2
import Derived.Test.YtfoicjijngfhbaaDoorKHr
import Derived.Deep.RegionHeld
set_option linter.unusedSimpArgs false
set_option linter.unusedVariables false
namespace Go.Proofs.Hc
open Go.RowKit
set_option linter.unusedSimpArgs false

def noDefer (l : List Oper) : Bool := l.all fun o => match o.op with
  | .defer _ => false
  | _ => true
theorem noDefer_at {l : List Oper} (h : noDefer l = true) {i : Nat} {o : Oper} (hi : l.toArray[i]? = some o) : ∀ c, o.op ≠ .defer c := by
  intro c hc
  have hm : o ∈ l := List.mem_of_getElem? (by simpa using hi)
  have := List.all_eq_true.1 h o hm
  rw [hc] at this
  cases this
theorem wpIn_of_wp {P : Program} {r n : Nat} {o : Oper} {a : Act} {w : World} {K : Act → World → Prop} {Q : Exit → Act → World → Prop} (hd : ∀ c, o.op ≠ .defer c) (h : o.wp P a w K Q) : o.wpIn (Wd.inRound r) n P a w K Q := by
  unfold Oper.wpIn
  unfold Oper.wp at h
  refine ⟨fun _ _ => trivial, ?_⟩
  rw [Oper.semAt_eq _ _ _ hd]
  generalize (execOp a.eval o).run P w = x at *
  cases x with
  | ok y w' =>
    cases y with
    | value v => exact h
    | skip => exact h
    | defer d => exact h
    | enter f args => exact ⟨fun e => (by cases e), CallsIn.inRound r (callsIn_wide.2 h)⟩
    | row q args =>
      refine ⟨fun e => (by cases e), fun c cs _ => ?_⟩
      obtain ⟨v, w2, hv, hs⟩ := h c cs
      exact ⟨v, w2, hv, stepsIn_wide.2 hs⟩
    | _ => exact h.elim
  | halt y w' =>
    cases y <;> exact h
theorem anyIn {P : Program} {r n : Nat} {l : List Oper} {md : Region.Mode} {Q : Exit → Act → World → Prop} (hd : noDefer l = true) (hno : ¬ LetsOut Q) : ∀ (f : Nat) (listed : Array Bool) (a : Act) (w : World),
    wpAny P md l.toArray Q f listed a w → wpAnyIn (Wd.inRound r) n P md l.toArray Q f listed a w
  | 0, _, _, _, h => h
  | f + 1, listed, a, w, h => by
    refine ⟨h.1, fun i hi => ?_⟩
    have := h.2 i hi
    unfold wpOp at this
    unfold wpOpIn
    cases ho : l.toArray[i]? with
    | none => rw [ho] at this; exact anyIn hd hno f _ _ _ this
    | some o =>
      rw [ho] at this
      simp only at this ⊢
      split
      · rename_i hw
        rw [if_pos hw] at this
        rcases this with h1 | h1
        · exact Oper.wpIn_mono (fun a' w' h' => anyIn hd hno f _ _ _ h') (wpIn_of_wp (noDefer_at hd ho) h1)
        · exact (hno h1.2).elim
      · rename_i hw
        rw [if_neg hw] at this
        exact ⟨fun _ _ => trivial, anyIn hd hno f _ _ _ this⟩
theorem any_gar {P : Program} {Q : Exit → Act → World → Prop} {a : Act} {w : World} {l : List Oper} (hB : Region.lexB .any l.toArray = true)
    (h : wpQuiet P l.toArray (fun w' => ∃ g : Gar w, w' = g.1) (fun a' => ∀ w', (∃ g : Gar w, w' = g.1) → Q .normal a' w') l a) : wpAny P .any l.toArray Q l.toArray.size (Array.replicate l.toArray.size false) a { w with drawn := w.drawn + 1 } := by
  simp only [Region.lexB, Bool.and_eq_true] at hB
  refine wpAny_of_quiet (Q := fun a' => ∀ w', (∃ g : Gar w, w' = g.1) → Q .normal a' w') (fun _ w' hw' h => h w' hw') _ _ _ _ ⟨⟨_, (Ch.refl [] w).drew⟩, rfl⟩ ?_
  have := wpAnyQ_lex (C := fun w' => ∃ g : Gar w, w' = g.1) (md := .any) hB.1 l 0 (Array.replicate l.toArray.size false) a (by simp) (by simpa using hB.2) h
  simpa using this
theorem any_gar_tail {P : Program} {Q : Exit → Act → World → Prop} {a : Act} {w : World} {l : List Oper} (n : Nat) (hB : Region.lexTailB .any l.toArray n = true)
    (h : wpQuiet P l.toArray (fun w' => ∃ g : Gar w, w' = g.1) (fun a' => ∀ w', (∃ g : Gar w, w' = g.1) → wpList P l.toArray Q (l.drop n) a' w') (l.take n) a) : wpAny P .any l.toArray Q l.toArray.size (Array.replicate l.toArray.size false) a { w with drawn := w.drawn + 1 } := by
  simp only [Region.lexTailB, Bool.and_eq_true, decide_eq_true_eq] at hB
  obtain ⟨⟨⟨⟨hsel, hn⟩, hs⟩, hc⟩, hlex⟩ := hB
  have hn' : n < l.length := by simpa using hn
  have htl : (l.take n).length = n := by simp; omega
  have hdl : (l.drop n).length = l.toArray.size - n := by simp
  have inv0 : HeadInv .any l.toArray n (Array.replicate l.toArray.size false) :=
    ⟨by simp, fun j oj _ hl => (by rw [getD_replicate_false] at hl; cases hl), fun t _ ht => getD_in (by simpa using ht) (getD_replicate_false _ _)⟩
  have H := head_lex (md := .any) (g := l.toArray.size - n) hsel hs hc hn (l.take n) 0 _ a (fun j hj => by
    have hj' : j < n := by rw [htl] at hj; exact hj
    simp [hj']) (by simpa using htl) inv0 (by rw [htl]; exact hlex) h
  have := any_of_head (Q := Q) (g := l.toArray.size - n) (fun listed a' w' hw' hL => by
    have := wpAny_of_seq (md := .any) (Q' := Q) (l.drop n) n listed a' w' (fun j => by simp [List.getElem?_drop]) (by rw [hdl]; exact hL.1) (hL.2 w' hw')
    rwa [hdl] at this) (l.take n).length _ a { w with drawn := w.drawn + 1 } ⟨⟨_, (Ch.refl [] w).drew⟩, rfl⟩ H
  rw [htl, show n + (l.toArray.size - n) = l.toArray.size by omega] at this
  exact this
theorem any_gar_mid {P : Program} {Q : Exit → Act → World → Prop} {a : Act} {w : World} {l : List Oper} (n m : Nat) (hB : lexMidB .any l.toArray n m = true)
    (h : wpQuiet P l.toArray (fun w' => ∃ g : Gar w, w' = g.1) (fun a' => ∀ w', (∃ g : Gar w, w' = g.1) →
      wpList P l.toArray (Exit.then (fun a2 w2 => wpQuiet P l.toArray (fun w3 => ∃ g : Gar w2, w3 = g.1) (fun a3 => ∀ w3, (∃ g : Gar w2, w3 = g.1) → Q .normal a3 w3) (l.drop (n + (m + 1))) a2) Q) ((l.drop n).take (m + 1)) a' w') (l.take n) a) :
    wpAny P .any l.toArray Q l.toArray.size (Array.replicate l.toArray.size false) a { w with drawn := w.drawn + 1 } := by
  simp only [lexMidB, Bool.and_eq_true, decide_eq_true_eq] at hB
  obtain ⟨⟨⟨⟨hsel, hn⟩, hs⟩, hc⟩, hlex⟩ := hB
  have hn' : n + (m + 1) ≤ l.length := by simpa using hn
  have htl : (l.take n).length = n := by simp; omega
  have hml : ((l.drop n).take (m + 1)).length = m + 1 := by simp; omega
  have hdl : (l.drop (n + (m + 1))).length = l.toArray.size - n - (m + 1) := by simp; omega
  have inv0 : HeadInv .any l.toArray n (Array.replicate l.toArray.size false) :=
    ⟨by simp, fun j oj _ hl => (by rw [getD_replicate_false] at hl; cases hl), fun t _ ht => getD_in (by simpa using ht) (getD_replicate_false _ _)⟩
  have H := head_lex2 (md := .any) (r := l.toArray.size - n - (m + 1)) (m := m) hsel (fun listed inv i hi hu t ht => tail_waits2 hs hc (by omega) inv _ i rfl hi hu t ht) (l.take n) 0 _ a (fun j hj => by
    have hj' : j < n := by rw [htl] at hj; exact hj
    simp [hj']) (by simpa using htl) inv0 (by rw [htl]; exact hlex) h
  have := any_of_head (Q := Q) (g := (m + 1) + (l.toArray.size - n - (m + 1))) (fun listed a' w' hw' hL => by
    have := wpAny_of_mid (md := .any) (r := l.toArray.size - n - (m + 1)) (Q := Q) ((l.drop n).take (m + 1)) n listed a' w' (fun j hj => by
        rw [hml] at hj
        simp [List.getElem?_take, List.getElem?_drop, hj]) (by rw [hml]; exact hL.1) (hL.2 w' hw') (fun listed2 a2 w2 hf hk => by
          rw [hml] at hf
          have h3 := wpAnyQ_lex (C := fun w3 => ∃ g : Gar w2, w3 = g.1) (md := .any) hsel (l.drop (n + (m + 1))) (n + (m + 1)) listed2 a2 (fun j => by simp [List.getElem?_drop]) (by rw [hdl]; exact hf) hk
          have h4 := wpAny_of_quiet (Q' := Q) (fun a3 w3 hw3 (hq : ∀ w3, (∃ g : Gar w2, w3 = g.1) → Q .normal a3 w3) => hq w3 hw3) _ _ _ w2 ⟨⟨w2, Ch.refl [] w2⟩, rfl⟩ h3
          rw [hdl] at h4
          exact h4)
    rwa [hml] at this) (l.take n).length _ a { w with drawn := w.drawn + 1 } ⟨⟨_, (Ch.refl [] w).drew⟩, rfl⟩ H
  rw [htl, show n + ((m + 1) + (l.toArray.size - n - (m + 1))) = l.toArray.size by simp; omega] at this
  exact this
theorem rr_gar {P : Program} {id r k : Nat} {Q : Exit → Act → World → Prop} {a : Act} {w : World} {l : List Oper} (hm : P.follows .mixedOrders = true) (hd : noDefer l = true) (hB : Region.lexB .any l.toArray = true) (hno : ¬ LetsOut Q)
    (h : wpQuiet P l.toArray (fun w' => ∃ g : Gar w, w' = g.1) (fun a' => ∀ w', (∃ g : Gar w, w' = g.1) → Q .normal a' w') l a) : (Code.region id l.toArray true).wpIn (Wd.inRound r) k P Q a w :=
  wpIn_region_any hm (anyIn hd hno _ _ _ _ (any_gar hB h))
theorem rr_gar_tail {P : Program} {id r k : Nat} {Q : Exit → Act → World → Prop} {a : Act} {w : World} {l : List Oper} (n : Nat) (hm : P.follows .mixedOrders = true) (hd : noDefer l = true) (hB : Region.lexTailB .any l.toArray n = true) (hno : ¬ LetsOut Q)
    (h : wpQuiet P l.toArray (fun w' => ∃ g : Gar w, w' = g.1) (fun a' => ∀ w', (∃ g : Gar w, w' = g.1) → wpList P l.toArray Q (l.drop n) a' w') (l.take n) a) : (Code.region id l.toArray true).wpIn (Wd.inRound r) k P Q a w :=
  wpIn_region_any hm (anyIn hd hno _ _ _ _ (any_gar_tail n hB h))
theorem rr_gar_mid {P : Program} {id r k : Nat} {Q : Exit → Act → World → Prop} {a : Act} {w : World} {l : List Oper} (n m : Nat) (hm : P.follows .mixedOrders = true) (hd : noDefer l = true) (hB : lexMidB .any l.toArray n m = true) (hno : ¬ LetsOut Q)
    (h : wpQuiet P l.toArray (fun w' => ∃ g : Gar w, w' = g.1) (fun a' => ∀ w', (∃ g : Gar w, w' = g.1) →
      wpList P l.toArray (Exit.then (fun a2 w2 => wpQuiet P l.toArray (fun w3 => ∃ g : Gar w2, w3 = g.1) (fun a3 => ∀ w3, (∃ g : Gar w2, w3 = g.1) → Q .normal a3 w3) (l.drop (n + (m + 1))) a2) Q) ((l.drop n).take (m + 1)) a' w') (l.take n) a) : (Code.region id l.toArray true).wpIn (Wd.inRound r) k P Q a w :=
  wpIn_region_any hm (anyIn hd hno _ _ _ _ (any_gar_mid n m hB h))
/-- A region whose loads may be taken first (S: what they read), whatever comes behind them. -/
theorem rr_held {P : Program} {id r k : Nat} {Q : Exit → Act → World → Prop} {a : Act} {w : World} {l : List Oper} (S : World → Prop) (hm : P.follows .mixedOrders = true) (hd : noDefer l = true) (hno : ¬ LetsOut Q) (hS : S w.drew)
    (h : S w.drew → wpAnyH P .any l.toArray Q S l.toArray.size (Array.replicate l.toArray.size false) a w.drew) : (Code.region id l.toArray true).wpIn (Wd.inRound r) k P Q a w :=
  wpIn_region_any hm (anyIn hd hno _ _ _ _ (wpAny_of_held _ _ _ _ (h hS)))
end Go.Proofs.Hc
