/- A range over a function whose body owns blocks that may change: the blocks that the iterator made for itself are kept. -/
import Derived.Test.YtcikopeddljgkaaGreatKHr
set_option linter.unusedSimpArgs false
set_option linter.unusedVariables false
namespace Go.Proofs.Hc
open Go.RowKit
def YieldsO {α : Type} (P : Program) (g : Nat) (lb : Array Value) (encs : α → Array Value) (xs : List α) (own kept : List Nat) (w : World) : Prop :=
  ∀ (n l : Nat) (J : List α → (Nat → Prop) → World → Prop) (Jx : World → Prop) (W : World) (O0 : Nat → Prop), Ch [] w W → (∀ b ∈ kept, W.heap[b]? = w.heap[b]?) →
    (∀ pre O A, J pre O A → ∀ b, O b → b < A.heap.size ∧ b ∉ kept) →
    (∀ pre O A B, J pre O A → Ch own A B → J pre O B) → (∀ A B, Jx A → Ch own A B → Jx B) →
    (∀ pre O x post W1, xs = pre ++ x :: post → J pre O W1 → YieldAt Wd n P l (encs x) W1 fun e W' =>
      (e = .returned (.bool true) ∧ (∃ O', J (pre ++ [x]) O' W' ∧ ∀ b, O' b → O b ∨ W1.heap.size ≤ b) ∧ W1.heap.size ≤ W'.heap.size ∧ ∀ b, b < W1.heap.size → ¬ O b → W'.heap[b]? = W1.heap[b]?) ∨ (e = .returned (.bool false) ∧ Jx W')) →
    J [] O0 W →
    CallsIn Wd (n + 1) P g (#[.func (.yield l) #[] #[]] ++ lb) W fun e W' => (∃ v, e = .returned v) ∧ ((∃ O, J xs O W') ∨ Jx W')
def bodyO (I : (Nat → Prop) → World → Prop) (Ix : Code → World → Prop) (O : Nat → Prop) (W : World) : Exit → Act → World → Prop
  | .normal, _, W' => (∃ O', I O' W' ∧ ∀ b, O' b → O b ∨ W.heap.size ≤ b) ∧ W.heap.size ≤ W'.heap.size ∧ ∀ b, b < W.heap.size → ¬ O b → W'.heap[b]? = W.heap[b]?
  | .ret, _, W' => Ix .ret W' ∧ ∀ b, b < W.heap.size → ¬ O b → W'.heap[b]? = W.heap[b]?
  | .exit id, _, W' => Ix (.exit id) W' ∧ ∀ b, b < W.heap.size → ¬ O b → W'.heap[b]? = W.heap[b]?
  | .goto t, _, W' => Ix (.goto t) W' ∧ ∀ b, b < W.heap.size → ¬ O b → W'.heap[b]? = W.heap[b]?
  | .panic _, _, _ => False
  | .outgrown, _, _ => False
theorem range_lawO {α : Type} {P : Program} {n : Nat} {g : Operand} {ps : Array Tmp} {assign body : Code} {Q : Exit → Act → World → Prop} {a : Act} {w : World}
    {gf : Nat} {lb : Array Value} (hg : a.eval g = .func (.func gf) #[] lb) (eg : ∀ args w, (callFunc gf args).run P w = .ok (.enter gf args) w)
    {encs : α → Array Value} {xs : List α} {own kept : List Nat} (hseq : YieldsO P gf lb encs xs own kept w) (hps : ∀ x, (encs x).size = ps.size)
    (hown : ∀ b ∈ own, b < w.heap.size) (hkept : ∀ b ∈ kept, b < w.heap.size)
    (I : List α → (Nat → Prop) → World → Prop) (Ix : Code → World → Prop) (O0 : Nat → Prop)
    (hIO : ∀ pre O A, I pre O A → ∀ b, O b → (b < w.heap.size ∨ w.heap.size + 2 ≤ b) ∧ b < A.heap.size ∧ b ∉ kept)
    (hI : ∀ pre O A B, I pre O A → Ch ((w.heap.size + 1) :: own) A B → I pre O B) (hIx : ∀ c A B, Ix c A → Ch ((w.heap.size + 1) :: own) A B → Ix c B) (h0 : I [] O0 w) (a₁ : α → Act)
    (hassign : ∀ (x : α) (W : World) (K : Act → World → Prop), K (a₁ x) W →
      assign.wpIn (Wd.inRound (w.heap.size + 1)) n P (Exit.then K (fun _ _ _ => False)) { tmps := (ps.zip (encs x)).foldl (fun t (p, v) => t.setIfInBounds p v) a.tmps, defers := [] } W)
    (hbody : ∀ (pre : List α) (O : Nat → Prop) (x : α) (post : List α) (W : World), xs = pre ++ x :: post → I pre O W → w.heap.size + 2 ≤ W.heap.size →
      body.wpIn (Wd.inRound (w.heap.size + 1)) n P (bodyO (I (pre ++ [x])) Ix O W) (a₁ x) W)
    (hdone : ∀ (O : Nat → Prop) (W : World), I xs O W → W.heap[w.heap.size]? = some (.deferred (some [])) → Q .normal { a with defers := { target := .collected w.heap.size, args := #[] } :: a.defers } W)
    (hstop : ∀ (c : Code) (W : World), Ix c W → W.heap[w.heap.size]? = some (.deferred (some [])) → c.wpIn Wd (n + 2) P Q { a with defers := { target := .collected w.heap.size, args := #[] } :: a.defers } W) :
    (Code.rangeFunc g ps assign body).wpIn Wd (n + 2) P Q a w := by
  refine wpIn_rangeFunc ?_
  intro fn hfn
  rw [show Wd.round = none from rfl]
  obtain ⟨rec, hrec⟩ : ∃ rec : LoopState → Option Code → Loop, rec = fun st pe => { state := st, pending := pe, fn, tmps := a.tmps, params := ps, assign, body, defers := w.heap.size } := ⟨_, rfl⟩
  obtain ⟨W1, hW1⟩ : ∃ W1, (w.alloc (.deferred (some []))).alloc (.loop (rec .ready none)) = W1 := ⟨_, rfl⟩
  have hL1 : W1.heap[w.heap.size + 1]? = some (.loop (rec .ready none)) := by
    rw [← hW1, zac, if_pos (by simp)]
  have hK1 : W1.heap[w.heap.size]? = some (.deferred (some [])) := by
    rw [← hW1, zac, if_neg (by simp), zac, if_pos rfl]
  have hC1 : Ch [] w W1 := by rw [← hW1]; exact ((Ch.refl [] w).alloc _).alloc _
  have hsz1 : W1.heap.size = w.heap.size + 2 := by rw [← hW1]; simp
  refine ⟨w.heap.size + 1, [{ target := .collected w.heap.size, args := #[] }], W1, { target := .fn (.func gf) lb, args := #[.func (.yield (w.heap.size + 1)) #[] #[]] }, W1, gf,
    #[.func (.yield (w.heap.size + 1)) #[] #[]] ++ lb, W1, ?_, ?_, fun _ _ => trivial, ?_, fun _ => by omega, ?_⟩
  · rw [← hW1, hrec]; exact run_enterLoop_outer _ _ _ _ _
  · simp only [resolve, hg]
    simp [go_sem]
  · simp [invoke, go_sem, eg]
  · have hne : w.heap.size ∉ (w.heap.size + 1) :: own := by
      simp only [List.mem_cons, not_or]; exact ⟨by omega, fun hb => by have := hown _ hb; omega⟩
    have hle : w.heap.size + 1 ∉ own := fun hb => by have := hown _ hb; omega
    have hne' : w.heap.size ∉ own := fun hb => by have := hown _ hb; omega
    refine (hseq n (w.heap.size + 1)
      (fun pre O W => I pre O W ∧ W.heap[w.heap.size + 1]? = some (.loop (rec .ready none)) ∧ W.heap[w.heap.size]? = some (.deferred (some [])))
      (fun W => ∃ c, Ix c W ∧ W.heap[w.heap.size + 1]? = some (.loop (rec .done (some c))) ∧ W.heap[w.heap.size]? = some (.deferred (some [])))
      W1 O0 hC1 (fun b hb => hC1.block b (hkept b hb) (by simp)) ?_ ?_ ?_ ?_ ⟨hI _ _ _ _ h0 hC1.of_nil, hL1, hK1⟩).mono ?_
    · rintro pre O A ⟨hi, _, _⟩ b hb
      exact (hIO _ _ _ hi b hb).2
    · rintro pre O A B ⟨hi, hl, hk⟩ hc
      exact ⟨hI _ _ _ _ hi (hc.mono fun s hs => .tail _ hs), (hc.block _ (Array.getElem?_eq_some_iff.1 hl).1 hle).trans hl, (hc.block _ (Array.getElem?_eq_some_iff.1 hk).1 hne').trans hk⟩
    · rintro A B ⟨c, hi, hl, hk⟩ hc
      exact ⟨c, hIx _ _ _ hi (hc.mono fun s hs => .tail _ hs), (hc.block _ (Array.getElem?_eq_some_iff.1 hl).1 hle).trans hl, (hc.block _ (Array.getElem?_eq_some_iff.1 hk).1 hne').trans hk⟩
    · rintro pre O x post W hxs ⟨hi, hl, hk⟩
      have hlt : w.heap.size + 1 < W.heap.size := (Array.getElem?_eq_some_iff.1 hl).1
      have hy := run_yield (P := P) (args := encs x) hl (by rw [hrec]; exact hps x)
      rw [hrec] at hy
      have hDO : ¬ O w.heap.size := fun h => by have := (hIO _ _ _ hi _ h).1; omega
      have hLO : ¬ O (w.heap.size + 1) := fun h => by have := (hIO _ _ _ hi _ h).1; omega
      refine ⟨fn, _, assign, body, hy, roundIn_of_wpIn trivial (hassign x W _ ⟨_, run_beginRound hl (by rw [hrec]), ?_⟩)⟩
      have hl2 : (W.putObj (w.heap.size + 1) (.loop { rec .ready none with state := .busy })).heap[w.heap.size + 1]? = some (.loop { rec .ready none with state := .busy }) := World.putObj_heap_same hlt
      have hk2 : (W.putObj (w.heap.size + 1) (.loop { rec .ready none with state := .busy })).heap[w.heap.size]? = some (.deferred (some [])) := (World.putObj_heap_other (by omega)).trans hk
      have hzz : (W.putObj (w.heap.size + 1) (.loop { rec .ready none with state := .busy })).heap.size = W.heap.size := by simp
      refine wpIn_mono (hbody pre O x post _ hxs (hI _ _ _ _ hi ((zcg _ _ _).mono fun s hs => by rw [List.mem_singleton.1 hs]; exact .head _)) (by simp; omega)) ?_
      have fin : ∀ (jump : Option Code) (W3 : World), (∀ b, b < W.heap.size → ¬ O b → W3.heap[b]? = (W.putObj (w.heap.size + 1) (.loop { rec .ready none with state := .busy })).heap[b]?) →
          (Instr.endRound (w.heap.size + 1) jump).run P W3 = .ok (.bool jump.isNone) (W3.putObj (w.heap.size + 1) (.loop (rec (if jump.isNone then .ready else .done) jump))) ∧
          (W3.putObj (w.heap.size + 1) (.loop (rec (if jump.isNone then .ready else .done) jump))).heap[w.heap.size + 1]? = some (.loop (rec (if jump.isNone then .ready else .done) jump)) ∧
          (W3.putObj (w.heap.size + 1) (.loop (rec (if jump.isNone then .ready else .done) jump))).heap[w.heap.size]? = some (.deferred (some [])) := fun jump W3 hk3 => by
        have hl3 := (hk3 _ hlt hLO).trans hl2
        have := run_endRound (P := P) jump hl3
        rw [hrec] at this ⊢
        exact ⟨this, World.putObj_heap_same (Array.getElem?_eq_some_iff.1 hl3).1, (World.putObj_heap_other (by omega)).trans ((hk3 _ (by omega) hDO).trans hk2)⟩
      have one : ∀ s ∈ [w.heap.size + 1], s ∈ (w.heap.size + 1) :: own := fun s hs => by rw [List.mem_singleton.1 hs]; exact .head _
      rintro e a3 W3 hp
      cases e with
      | normal =>
        obtain ⟨⟨O', hi3, hO'⟩, hz3, hk3⟩ := hp
        rw [hzz] at hk3 hz3 hO'
        obtain ⟨hr, hl4, hk4⟩ := fin none W3 hk3
        refine ⟨_, _, hr, .inl ⟨rfl, ⟨O', ⟨hI _ _ _ _ hi3 ((zcg _ _ _).mono one), hl4, hk4⟩, hO'⟩, by simpa using hz3, fun b hb hn => ?_⟩⟩
        by_cases hbl : b = w.heap.size + 1
        · subst hbl; exact hl4.trans hl.symm
        · exact (World.putObj_heap_other hbl).trans ((hk3 b hb hn).trans (World.putObj_heap_other hbl))
      | ret =>
        obtain ⟨hi3, hk3⟩ := hp
        rw [hzz] at hk3
        obtain ⟨hr, hl4, hk4⟩ := fin (some .ret) W3 hk3
        exact ⟨_, _, hr, .inr ⟨rfl, .ret, hIx _ _ _ hi3 ((zcg _ _ _).mono one), hl4, hk4⟩⟩
      | exit id =>
        obtain ⟨hi3, hk3⟩ := hp
        rw [hzz] at hk3
        obtain ⟨hr, hl4, hk4⟩ := fin (some (.exit id)) W3 hk3
        exact ⟨_, _, hr, .inr ⟨rfl, .exit id, hIx _ _ _ hi3 ((zcg _ _ _).mono one), hl4, hk4⟩⟩
      | goto t =>
        obtain ⟨hi3, hk3⟩ := hp
        rw [hzz] at hk3
        obtain ⟨hr, hl4, hk4⟩ := fin (some (.goto t)) W3 hk3
        exact ⟨_, _, hr, .inr ⟨rfl, .goto t, hIx _ _ _ hi3 ((zcg _ _ _).mono one), hl4, hk4⟩⟩
      | panic ch => exact hp.elim
      | outgrown => exact hp.elim
    · have one : ∀ s ∈ [w.heap.size + 1], s ∈ (w.heap.size + 1) :: own := fun s hs => by rw [List.mem_singleton.1 hs]; exact .head _
      rintro e W2 ⟨⟨v, rfl⟩, ⟨O, hi, hl, hk⟩ | ⟨c, hi, hl, hk⟩⟩
      · exact ⟨none, _, by have := run_endLoop (P := P) hl (by rw [hrec]; simp); rw [hrec] at this; exact this, hdone O _ (hI _ _ _ _ hi ((zcg _ _ _).mono one)) ((World.putObj_heap_other (by omega)).trans hk)⟩
      · exact ⟨some c, _, by have := run_endLoop (P := P) hl (by rw [hrec]; simp); rw [hrec] at this; exact this, hstop c _ (hIx _ _ _ hi ((zcg _ _ _).mono one)) ((World.putObj_heap_other (by omega)).trans hk)⟩
end Go.Proofs.Hc
namespace Go.Proofs.Hc
open Go.RowKit
def bodyX (X : Nat → Prop) (I : (Nat → Prop) → World → Prop) (Ix : Code → World → Prop) (O : Nat → Prop) (W : World) : Exit → Act → World → Prop
  | .normal, _, W' => (∃ O', I O' W' ∧ ∀ b, O' b → O b ∨ W.heap.size ≤ b) ∧ W.heap.size ≤ W'.heap.size ∧ ∀ b, b < W.heap.size → ¬ O b → W'.heap[b]? = W.heap[b]?
  | .ret, _, W' => Ix .ret W' ∧ ∀ b, b < W.heap.size → ¬ O b → ¬ X b → W'.heap[b]? = W.heap[b]?
  | .exit id, _, W' => Ix (.exit id) W' ∧ ∀ b, b < W.heap.size → ¬ O b → ¬ X b → W'.heap[b]? = W.heap[b]?
  | .goto t, _, W' => Ix (.goto t) W' ∧ ∀ b, b < W.heap.size → ¬ O b → ¬ X b → W'.heap[b]? = W.heap[b]?
  | .panic _, _, _ => False
  | .outgrown, _, _ => False
theorem range_lawX {α : Type} {P : Program} {n : Nat} {g : Operand} {ps : Array Tmp} {assign body : Code} {Q : Exit → Act → World → Prop} {a : Act} {w : World}
    {gf : Nat} {lb : Array Value} (hg : a.eval g = .func (.func gf) #[] lb) (eg : ∀ args w, (callFunc gf args).run P w = .ok (.enter gf args) w)
    {encs : α → Array Value} {xs : List α} {own kept : List Nat} (hseq : YieldsO P gf lb encs xs own kept w) (hps : ∀ x, (encs x).size = ps.size)
    (hown : ∀ b ∈ own, b < w.heap.size) (hkept : ∀ b ∈ kept, b < w.heap.size)
    (X : Nat → Prop) (hX : ∀ b, X b → b < w.heap.size) (I : List α → (Nat → Prop) → World → Prop) (Ix : Code → World → Prop) (O0 : Nat → Prop)
    (hIO : ∀ pre O A, I pre O A → ∀ b, O b → (b < w.heap.size ∨ w.heap.size + 2 ≤ b) ∧ b < A.heap.size ∧ b ∉ kept)
    (hI : ∀ pre O A B, I pre O A → Ch ((w.heap.size + 1) :: own) A B → I pre O B) (hIx : ∀ c A B, Ix c A → Ch ((w.heap.size + 1) :: own) A B → Ix c B) (h0 : I [] O0 w) (a₁ : α → Act)
    (hassign : ∀ (x : α) (W : World) (K : Act → World → Prop), K (a₁ x) W →
      assign.wpIn (Wd.inRound (w.heap.size + 1)) n P (Exit.then K (fun _ _ _ => False)) { tmps := (ps.zip (encs x)).foldl (fun t (p, v) => t.setIfInBounds p v) a.tmps, defers := [] } W)
    (hbody : ∀ (pre : List α) (O : Nat → Prop) (x : α) (post : List α) (W : World), xs = pre ++ x :: post → I pre O W → w.heap.size + 2 ≤ W.heap.size →
      body.wpIn (Wd.inRound (w.heap.size + 1)) n P (bodyX X (I (pre ++ [x])) Ix O W) (a₁ x) W)
    (hdone : ∀ (O : Nat → Prop) (W : World), I xs O W → W.heap[w.heap.size]? = some (.deferred (some [])) → Q .normal { a with defers := { target := .collected w.heap.size, args := #[] } :: a.defers } W)
    (hstop : ∀ (c : Code) (W : World), Ix c W → W.heap[w.heap.size]? = some (.deferred (some [])) → c.wpIn Wd (n + 2) P Q { a with defers := { target := .collected w.heap.size, args := #[] } :: a.defers } W) :
    (Code.rangeFunc g ps assign body).wpIn Wd (n + 2) P Q a w := by
  refine wpIn_rangeFunc ?_
  intro fn hfn
  rw [show Wd.round = none from rfl]
  obtain ⟨rec, hrec⟩ : ∃ rec : LoopState → Option Code → Loop, rec = fun st pe => { state := st, pending := pe, fn, tmps := a.tmps, params := ps, assign, body, defers := w.heap.size } := ⟨_, rfl⟩
  obtain ⟨W1, hW1⟩ : ∃ W1, (w.alloc (.deferred (some []))).alloc (.loop (rec .ready none)) = W1 := ⟨_, rfl⟩
  have hL1 : W1.heap[w.heap.size + 1]? = some (.loop (rec .ready none)) := by
    rw [← hW1, zac, if_pos (by simp)]
  have hK1 : W1.heap[w.heap.size]? = some (.deferred (some [])) := by
    rw [← hW1, zac, if_neg (by simp), zac, if_pos rfl]
  have hC1 : Ch [] w W1 := by rw [← hW1]; exact ((Ch.refl [] w).alloc _).alloc _
  have hsz1 : W1.heap.size = w.heap.size + 2 := by rw [← hW1]; simp
  refine ⟨w.heap.size + 1, [{ target := .collected w.heap.size, args := #[] }], W1, { target := .fn (.func gf) lb, args := #[.func (.yield (w.heap.size + 1)) #[] #[]] }, W1, gf,
    #[.func (.yield (w.heap.size + 1)) #[] #[]] ++ lb, W1, ?_, ?_, fun _ _ => trivial, ?_, fun _ => by omega, ?_⟩
  · rw [← hW1, hrec]; exact run_enterLoop_outer _ _ _ _ _
  · simp only [resolve, hg]
    simp [go_sem]
  · simp [invoke, go_sem, eg]
  · have hne : w.heap.size ∉ (w.heap.size + 1) :: own := by
      simp only [List.mem_cons, not_or]; exact ⟨by omega, fun hb => by have := hown _ hb; omega⟩
    have hle : w.heap.size + 1 ∉ own := fun hb => by have := hown _ hb; omega
    have hne' : w.heap.size ∉ own := fun hb => by have := hown _ hb; omega
    refine (hseq n (w.heap.size + 1)
      (fun pre O W => I pre O W ∧ W.heap[w.heap.size + 1]? = some (.loop (rec .ready none)) ∧ W.heap[w.heap.size]? = some (.deferred (some [])))
      (fun W => ∃ c, Ix c W ∧ W.heap[w.heap.size + 1]? = some (.loop (rec .done (some c))) ∧ W.heap[w.heap.size]? = some (.deferred (some [])))
      W1 O0 hC1 (fun b hb => hC1.block b (hkept b hb) (by simp)) ?_ ?_ ?_ ?_ ⟨hI _ _ _ _ h0 hC1.of_nil, hL1, hK1⟩).mono ?_
    · rintro pre O A ⟨hi, _, _⟩ b hb
      exact (hIO _ _ _ hi b hb).2
    · rintro pre O A B ⟨hi, hl, hk⟩ hc
      exact ⟨hI _ _ _ _ hi (hc.mono fun s hs => .tail _ hs), (hc.block _ (Array.getElem?_eq_some_iff.1 hl).1 hle).trans hl, (hc.block _ (Array.getElem?_eq_some_iff.1 hk).1 hne').trans hk⟩
    · rintro A B ⟨c, hi, hl, hk⟩ hc
      exact ⟨c, hIx _ _ _ hi (hc.mono fun s hs => .tail _ hs), (hc.block _ (Array.getElem?_eq_some_iff.1 hl).1 hle).trans hl, (hc.block _ (Array.getElem?_eq_some_iff.1 hk).1 hne').trans hk⟩
    · rintro pre O x post W hxs ⟨hi, hl, hk⟩
      have hlt : w.heap.size + 1 < W.heap.size := (Array.getElem?_eq_some_iff.1 hl).1
      have hy := run_yield (P := P) (args := encs x) hl (by rw [hrec]; exact hps x)
      rw [hrec] at hy
      have hDO : ¬ O w.heap.size := fun h => by have := (hIO _ _ _ hi _ h).1; omega
      have hLO : ¬ O (w.heap.size + 1) := fun h => by have := (hIO _ _ _ hi _ h).1; omega
      refine ⟨fn, _, assign, body, hy, roundIn_of_wpIn trivial (hassign x W _ ⟨_, run_beginRound hl (by rw [hrec]), ?_⟩)⟩
      have hl2 : (W.putObj (w.heap.size + 1) (.loop { rec .ready none with state := .busy })).heap[w.heap.size + 1]? = some (.loop { rec .ready none with state := .busy }) := World.putObj_heap_same hlt
      have hk2 : (W.putObj (w.heap.size + 1) (.loop { rec .ready none with state := .busy })).heap[w.heap.size]? = some (.deferred (some [])) := (World.putObj_heap_other (by omega)).trans hk
      have hzz : (W.putObj (w.heap.size + 1) (.loop { rec .ready none with state := .busy })).heap.size = W.heap.size := by simp
      refine wpIn_mono (hbody pre O x post _ hxs (hI _ _ _ _ hi ((zcg _ _ _).mono fun s hs => by rw [List.mem_singleton.1 hs]; exact .head _)) (by simp; omega)) ?_
      have fin : ∀ (jump : Option Code) (W3 : World), (∀ b, b < W.heap.size → ¬ O b → ¬ X b → W3.heap[b]? = (W.putObj (w.heap.size + 1) (.loop { rec .ready none with state := .busy })).heap[b]?) →
          (Instr.endRound (w.heap.size + 1) jump).run P W3 = .ok (.bool jump.isNone) (W3.putObj (w.heap.size + 1) (.loop (rec (if jump.isNone then .ready else .done) jump))) ∧
          (W3.putObj (w.heap.size + 1) (.loop (rec (if jump.isNone then .ready else .done) jump))).heap[w.heap.size + 1]? = some (.loop (rec (if jump.isNone then .ready else .done) jump)) ∧
          (W3.putObj (w.heap.size + 1) (.loop (rec (if jump.isNone then .ready else .done) jump))).heap[w.heap.size]? = some (.deferred (some [])) := fun jump W3 hk3 => by
        have hl3 := (hk3 _ hlt hLO (fun h => by have := hX _ h; omega)).trans hl2
        have := run_endRound (P := P) jump hl3
        rw [hrec] at this ⊢
        exact ⟨this, World.putObj_heap_same (Array.getElem?_eq_some_iff.1 hl3).1, (World.putObj_heap_other (by omega)).trans ((hk3 _ (by omega) hDO (fun h => by have := hX _ h; omega)).trans hk2)⟩
      have one : ∀ s ∈ [w.heap.size + 1], s ∈ (w.heap.size + 1) :: own := fun s hs => by rw [List.mem_singleton.1 hs]; exact .head _
      rintro e a3 W3 hp
      cases e with
      | normal =>
        obtain ⟨⟨O', hi3, hO'⟩, hz3, hk3⟩ := hp
        rw [hzz] at hk3 hz3 hO'
        obtain ⟨hr, hl4, hk4⟩ := fin none W3 (fun b hb hn _ => hk3 b hb hn)
        refine ⟨_, _, hr, .inl ⟨rfl, ⟨O', ⟨hI _ _ _ _ hi3 ((zcg _ _ _).mono one), hl4, hk4⟩, hO'⟩, by simpa using hz3, fun b hb hn => ?_⟩⟩
        by_cases hbl : b = w.heap.size + 1
        · subst hbl; exact hl4.trans hl.symm
        · exact (World.putObj_heap_other hbl).trans ((hk3 b hb hn).trans (World.putObj_heap_other hbl))
      | ret =>
        obtain ⟨hi3, hk3⟩ := hp
        rw [hzz] at hk3
        obtain ⟨hr, hl4, hk4⟩ := fin (some .ret) W3 hk3
        exact ⟨_, _, hr, .inr ⟨rfl, .ret, hIx _ _ _ hi3 ((zcg _ _ _).mono one), hl4, hk4⟩⟩
      | exit id =>
        obtain ⟨hi3, hk3⟩ := hp
        rw [hzz] at hk3
        obtain ⟨hr, hl4, hk4⟩ := fin (some (.exit id)) W3 hk3
        exact ⟨_, _, hr, .inr ⟨rfl, .exit id, hIx _ _ _ hi3 ((zcg _ _ _).mono one), hl4, hk4⟩⟩
      | goto t =>
        obtain ⟨hi3, hk3⟩ := hp
        rw [hzz] at hk3
        obtain ⟨hr, hl4, hk4⟩ := fin (some (.goto t)) W3 hk3
        exact ⟨_, _, hr, .inr ⟨rfl, .goto t, hIx _ _ _ hi3 ((zcg _ _ _).mono one), hl4, hk4⟩⟩
      | panic ch => exact hp.elim
      | outgrown => exact hp.elim
    · have one : ∀ s ∈ [w.heap.size + 1], s ∈ (w.heap.size + 1) :: own := fun s hs => by rw [List.mem_singleton.1 hs]; exact .head _
      rintro e W2 ⟨⟨v, rfl⟩, ⟨O, hi, hl, hk⟩ | ⟨c, hi, hl, hk⟩⟩
      · exact ⟨none, _, by have := run_endLoop (P := P) hl (by rw [hrec]; simp); rw [hrec] at this; exact this, hdone O _ (hI _ _ _ _ hi ((zcg _ _ _).mono one)) ((World.putObj_heap_other (by omega)).trans hk)⟩
      · exact ⟨some c, _, by have := run_endLoop (P := P) hl (by rw [hrec]; simp); rw [hrec] at this; exact this, hstop c _ (hIx _ _ _ hi ((zcg _ _ _).mono one)) ((World.putObj_heap_other (by omega)).trans hk)⟩
end Go.Proofs.Hc
