/- A range over a function: the iterator's contract, and the law of the loop. -/
import Derived.Test.YtcikopeddljgkaaGreatJHmet
import Derived.LoopIn
import Derived.LoopNIn
import Derived.OwnWalkIn
import Derived.RangeFuncCalls
import Derived.TacticsInMore
import Derived.Lib.Tables
set_option linter.unusedSimpArgs false
set_option linter.unusedVariables false
set_option maxRecDepth 100000
namespace Go.Proofs.Hc
open Go.RowKit
abbrev Wd : Fence := Fence.wide
def Yields {α : Type} (P : Program) (g : Nat) (lb : Array Value) (encs : α → Array Value) (xs : List α) (own kept : List Nat) (w : World) : Prop :=
  ∀ (n l : Nat) (J : List α → World → Prop) (Jx : World → Prop) (W : World), Ch [] w W → (∀ b ∈ kept, W.heap[b]? = w.heap[b]?) →
    (∀ pre A B, J pre A → Ch own A B → J pre B) → (∀ A B, Jx A → Ch own A B → Jx B) →
    (∀ pre x post W1, xs = pre ++ x :: post → J pre W1 → YieldAt Wd n P l (encs x) W1 fun e W' =>
      (e = .returned (.bool true) ∧ J (pre ++ [x]) W' ∧ W1.heap.size ≤ W'.heap.size ∧ ∀ b ∈ kept, W'.heap[b]? = W1.heap[b]?) ∨ (e = .returned (.bool false) ∧ Jx W')) →
    J [] W →
    CallsIn Wd (n + 1) P g (#[.func (.yield l) #[] #[]] ++ lb) W fun e W' => (∃ v, e = .returned v) ∧ (J xs W' ∨ Jx W')
def bodyQ (I : World → Prop) (Ix : Code → World → Prop) (keep : Nat → Prop) (W : World) : Exit → Act → World → Prop
  | .normal, _, W' => I W' ∧ W.heap.size ≤ W'.heap.size ∧ ∀ b, keep b → W'.heap[b]? = W.heap[b]?
  | .ret, _, W' => Ix .ret W' ∧ ∀ b, keep b → W'.heap[b]? = W.heap[b]?
  | .exit id, _, W' => Ix (.exit id) W' ∧ ∀ b, keep b → W'.heap[b]? = W.heap[b]?
  | .goto t, _, W' => Ix (.goto t) W' ∧ ∀ b, keep b → W'.heap[b]? = W.heap[b]?
  | .panic _, _, _ => False
  | .outgrown, _, _ => False
theorem zcg (w : World) (l : Nat) (o : Obj) : Ch [l] w (w.putObj l o) :=
  ⟨rfl, rfl, rfl, by simp, fun k _ hn => World.putObj_heap_other (by simpa using hn)⟩
theorem range_law {α : Type} {P : Program} {n : Nat} {g : Operand} {ps : Array Tmp} {assign body : Code} {Q : Exit → Act → World → Prop} {a : Act} {w : World}
    {gf : Nat} {lb : Array Value} (hg : a.eval g = .func (.func gf) #[] lb) (eg : ∀ args w, (callFunc gf args).run P w = .ok (.enter gf args) w)
    {encs : α → Array Value} {xs : List α} {own kept : List Nat} (hseq : Yields P gf lb encs xs own kept w) (hps : ∀ x, (encs x).size = ps.size)
    (hown : ∀ b ∈ own, b < w.heap.size) (hkept : ∀ b ∈ kept, b < w.heap.size)
    (I : List α → World → Prop) (Ix : Code → World → Prop)
    (hI : ∀ pre A B, I pre A → Ch ((w.heap.size + 1) :: own) A B → I pre B) (hIx : ∀ c A B, Ix c A → Ch ((w.heap.size + 1) :: own) A B → Ix c B) (h0 : I [] w) (a₁ : α → Act)
    (hassign : ∀ (x : α) (W : World) (K : Act → World → Prop), K (a₁ x) W →
      assign.wpIn (Wd.inRound (w.heap.size + 1)) n P (Exit.then K (fun _ _ _ => False)) { tmps := (ps.zip (encs x)).foldl (fun t (p, v) => t.setIfInBounds p v) a.tmps, defers := [] } W)
    (hbody : ∀ (pre : List α) (x : α) (post : List α) (W : World), xs = pre ++ x :: post → I pre W → w.heap.size + 2 ≤ W.heap.size →
      body.wpIn (Wd.inRound (w.heap.size + 1)) n P (bodyQ (I (pre ++ [x])) Ix (fun b => b = w.heap.size ∨ b = w.heap.size + 1 ∨ b ∈ kept) W) (a₁ x) W)
    (hdone : ∀ (W : World), I xs W → W.heap[w.heap.size]? = some (.deferred (some [])) → Q .normal { a with defers := { target := .collected w.heap.size, args := #[] } :: a.defers } W)
    (hstop : ∀ (c : Code) (W : World), Ix c W → W.heap[w.heap.size]? = some (.deferred (some [])) → c.wpIn Wd (n + 2) P Q { a with defers := { target := .collected w.heap.size, args := #[] } :: a.defers } W) :
    (Code.rangeFunc g ps assign body).wpIn Wd (n + 2) P Q a w := by
  refine wpIn_rangeFunc ?_
  intro fn hfn
  rw [show Wd.round = none from rfl]
  obtain ⟨rec, hrec⟩ : ∃ rec : LoopState → Option Code → Loop, rec = fun st pe => { state := st, pending := pe, fn, tmps := a.tmps, params := ps, assign, body, defers := w.heap.size } := ⟨_, rfl⟩
  obtain ⟨W1, hW1⟩ : ∃ W1, (w.alloc (.deferred (some []))).alloc (.loop (rec .ready none)) = W1 := ⟨_, rfl⟩
  have hL1 : W1.heap[w.heap.size + 1]? = some (.loop (rec .ready none)) := by
    rw [← hW1, zae, if_pos (by simp)]
  have hK1 : W1.heap[w.heap.size]? = some (.deferred (some [])) := by
    rw [← hW1, zae, if_neg (by simp), zae, if_pos rfl]
  have hC1 : Ch [] w W1 := by rw [← hW1]; exact ((Ch.refl [] w).alloc _).alloc _
  have hsz1 : W1.heap.size = w.heap.size + 2 := by rw [← hW1]; simp
  refine ⟨w.heap.size + 1, [{ target := .collected w.heap.size, args := #[] }], W1, { target := .fn (.func gf) lb, args := #[.func (.yield (w.heap.size + 1)) #[] #[]] }, W1, gf,
    #[.func (.yield (w.heap.size + 1)) #[] #[]] ++ lb, W1, ?_, ?_, fun _ _ => trivial, ?_, fun _ => by omega, ?_⟩
  · rw [← hW1, hrec]; exact run_enterLoop_outer _ _ _ _ _
  · simp only [resolve, hg]
    simp [go_sem]
  · simp [invoke, go_sem, eg]
  · have hne : w.heap.size ∉ (w.heap.size + 1) :: own := by
      simp only [List.mem_cons, not_or]; exact ⟨by omega, fun hb => by have := hown _ hb; omega⟩
    have hle : w.heap.size + 1 ∉ own := fun hb => by have := hown _ hb; omega
    have hne' : w.heap.size ∉ own := fun hb => by have := hown _ hb; omega
    refine (hseq n (w.heap.size + 1)
      (fun pre W => I pre W ∧ W.heap[w.heap.size + 1]? = some (.loop (rec .ready none)) ∧ W.heap[w.heap.size]? = some (.deferred (some [])))
      (fun W => ∃ c, Ix c W ∧ W.heap[w.heap.size + 1]? = some (.loop (rec .done (some c))) ∧ W.heap[w.heap.size]? = some (.deferred (some [])))
      W1 hC1 (fun b hb => hC1.block b (hkept b hb) (by simp)) ?_ ?_ ?_ ⟨hI _ _ _ h0 hC1.of_nil, hL1, hK1⟩).mono ?_
    · rintro pre A B ⟨hi, hl, hk⟩ hc
      exact ⟨hI _ _ _ hi (hc.mono fun s hs => .tail _ hs), (hc.block _ (Array.getElem?_eq_some_iff.1 hl).1 hle).trans hl, (hc.block _ (Array.getElem?_eq_some_iff.1 hk).1 hne').trans hk⟩
    · rintro A B ⟨c, hi, hl, hk⟩ hc
      exact ⟨c, hIx _ _ _ hi (hc.mono fun s hs => .tail _ hs), (hc.block _ (Array.getElem?_eq_some_iff.1 hl).1 hle).trans hl, (hc.block _ (Array.getElem?_eq_some_iff.1 hk).1 hne').trans hk⟩
    · rintro pre x post W hxs ⟨hi, hl, hk⟩
      have hlt : w.heap.size + 1 < W.heap.size := (Array.getElem?_eq_some_iff.1 hl).1
      have hy := run_yield (P := P) (args := encs x) hl (by rw [hrec]; exact hps x)
      rw [hrec] at hy
      refine ⟨fn, _, assign, body, hy, roundIn_of_wpIn trivial (hassign x W _ ⟨_, run_beginRound hl (by rw [hrec]), ?_⟩)⟩
      have hl2 : (W.putObj (w.heap.size + 1) (.loop { rec .ready none with state := .busy })).heap[w.heap.size + 1]? = some (.loop { rec .ready none with state := .busy }) := World.putObj_heap_same hlt
      have hk2 : (W.putObj (w.heap.size + 1) (.loop { rec .ready none with state := .busy })).heap[w.heap.size]? = some (.deferred (some [])) := (World.putObj_heap_other (by omega)).trans hk
      refine wpIn_mono (hbody pre x post _ hxs (hI _ _ _ hi ((zcg _ _ _).mono fun s hs => by rw [List.mem_singleton.1 hs]; exact .head _)) (by simp; omega)) ?_
      have fin : ∀ (jump : Option Code) (W3 : World), (∀ b, (b = w.heap.size ∨ b = w.heap.size + 1 ∨ b ∈ kept) → W3.heap[b]? = (W.putObj (w.heap.size + 1) (.loop { rec .ready none with state := .busy })).heap[b]?) →
          (Instr.endRound (w.heap.size + 1) jump).run P W3 = .ok (.bool jump.isNone) (W3.putObj (w.heap.size + 1) (.loop (rec (if jump.isNone then .ready else .done) jump))) ∧
          (W3.putObj (w.heap.size + 1) (.loop (rec (if jump.isNone then .ready else .done) jump))).heap[w.heap.size + 1]? = some (.loop (rec (if jump.isNone then .ready else .done) jump)) ∧
          (W3.putObj (w.heap.size + 1) (.loop (rec (if jump.isNone then .ready else .done) jump))).heap[w.heap.size]? = some (.deferred (some [])) ∧
          (∀ b ∈ kept, (W3.putObj (w.heap.size + 1) (.loop (rec (if jump.isNone then .ready else .done) jump))).heap[b]? = W.heap[b]?) := fun jump W3 hk3 => by
        have hl3 := (hk3 _ (.inr (.inl rfl))).trans hl2
        have := run_endRound (P := P) jump hl3
        rw [hrec] at this ⊢
        refine ⟨this, World.putObj_heap_same (Array.getElem?_eq_some_iff.1 hl3).1, (World.putObj_heap_other (by omega)).trans ((hk3 _ (.inl rfl)).trans hk2), fun b hb => ?_⟩
        have hbl := hkept b hb
        exact (World.putObj_heap_other (by omega)).trans ((hk3 b (.inr (.inr hb))).trans (World.putObj_heap_other (by omega)))
      have one : ∀ s ∈ [w.heap.size + 1], s ∈ (w.heap.size + 1) :: own := fun s hs => by rw [List.mem_singleton.1 hs]; exact .head _
      rintro e a3 W3 hp
      cases e with
      | normal =>
        obtain ⟨hi3, hz3, hk3⟩ := hp
        obtain ⟨hr, hl4, hk4, hke⟩ := fin none W3 hk3
        exact ⟨_, _, hr, .inl ⟨rfl, ⟨hI _ _ _ hi3 ((zcg _ _ _).mono one), hl4, hk4⟩, by simp at hz3 ⊢; exact hz3, hke⟩⟩
      | ret =>
        obtain ⟨hi3, hk3⟩ := hp
        obtain ⟨hr, hl4, hk4, hke⟩ := fin (some .ret) W3 hk3
        exact ⟨_, _, hr, .inr ⟨rfl, .ret, hIx _ _ _ hi3 ((zcg _ _ _).mono one), hl4, hk4⟩⟩
      | exit id =>
        obtain ⟨hi3, hk3⟩ := hp
        obtain ⟨hr, hl4, hk4, hke⟩ := fin (some (.exit id)) W3 hk3
        exact ⟨_, _, hr, .inr ⟨rfl, .exit id, hIx _ _ _ hi3 ((zcg _ _ _).mono one), hl4, hk4⟩⟩
      | goto t =>
        obtain ⟨hi3, hk3⟩ := hp
        obtain ⟨hr, hl4, hk4, hke⟩ := fin (some (.goto t)) W3 hk3
        exact ⟨_, _, hr, .inr ⟨rfl, .goto t, hIx _ _ _ hi3 ((zcg _ _ _).mono one), hl4, hk4⟩⟩
      | panic ch => exact hp.elim
      | outgrown => exact hp.elim
    · have one : ∀ s ∈ [w.heap.size + 1], s ∈ (w.heap.size + 1) :: own := fun s hs => by rw [List.mem_singleton.1 hs]; exact .head _
      rintro e W2 ⟨⟨v, rfl⟩, ⟨hi, hl, hk⟩ | ⟨c, hi, hl, hk⟩⟩
      · exact ⟨none, _, by have := run_endLoop (P := P) hl (by rw [hrec]; simp); rw [hrec] at this; exact this, hdone _ (hI _ _ _ hi ((zcg _ _ _).mono one)) ((World.putObj_heap_other (by omega)).trans hk)⟩
      · exact ⟨some c, _, by have := run_endLoop (P := P) hl (by rw [hrec]; simp); rw [hrec] at this; exact this, hstop c _ (hIx _ _ _ hi ((zcg _ _ _).mono one)) ((World.putObj_heap_other (by omega)).trans hk)⟩
theorem marks_ret {P : Program} {fn : Func} {R : Ending → World → Prop} {tmps : Array Value} {n D : Nat} {W : World} {v : Value} (hk : W.heap[D]? = some (.deferred (some [])))
    (hr : (results fn tmps).run P (W.putObj D (.deferred none)) = .ok v (W.putObj D (.deferred none))) (hR : R (.returned v) (W.putObj D (.deferred none))) :
    bodyPostM Wd n P fn R .ret { tmps, defers := [{ target := .collected D, args := #[] }] } W :=
  ⟨by simp, .inl ⟨_, _, rfl, run_takeDeferred hk, ⟨_, hr, hR⟩⟩⟩
theorem marks_end {P : Program} {fn : Func} {R : Ending → World → Prop} {tmps : Array Value} {n D : Nat} {W : World} {v : Value} (hk : W.heap[D]? = some (.deferred (some [])))
    (hr : (results fn tmps).run P (W.putObj D (.deferred none)) = .ok v (W.putObj D (.deferred none))) (hR : R (.returned v) (W.putObj D (.deferred none))) :
    bodyPostM Wd n P fn R .normal { tmps, defers := [{ target := .collected D, args := #[] }] } W :=
  ⟨by simp, .inl ⟨_, _, rfl, run_takeDeferred hk, ⟨_, hr, hR⟩⟩⟩
theorem marks_panic {P : Program} {fn : Func} {R : Ending → World → Prop} {tmps : Array Value} {n D : Nat} {W : World} {ch : List PanicEntry} (hk : W.heap[D]? = some (.deferred (some [])))
    (hR : R (.panicked ch) (W.putObj D (.deferred none))) :
    bodyPostM Wd n P fn R (.panic ch) { tmps, defers := [{ target := .collected D, args := #[] }] } W :=
  ⟨by simp, .inl ⟨_, _, rfl, run_takeDeferred hk, hR⟩⟩
theorem heap_putObj (w : World) (r k : Nat) (o : Obj) : (w.putObj r o).heap[k]? = if k = r then (if r < w.heap.size then some o else none) else w.heap[k]? := by
  by_cases h : k = r
  · subst h; rw [if_pos rfl]
    by_cases h2 : k < w.heap.size
    · rw [if_pos h2, World.putObj_heap_same h2]
    · rw [if_neg h2]; apply Array.getElem?_eq_none; simp; omega
  · rw [if_neg h, World.putObj_heap_other h]
end Go.Proofs.Hc
namespace Go.Proofs.Hc
open Go.RowKit
attribute [local go_sem] zbu zcc zax zbf zbo zbd zbn zbp zbw signed64 signed8 zap BitVec.ofInt_add BitVec.ofInt_mul ofInt_sub' zbb zbc wide8 eqN neN zca shr1 shr7 shr56
attribute [local go_sem high] zbe zbv
def lanesOf (m : BitVec 8) : List Nat := (List.range 8).filter fun i => m.getLsbD i
def tz (m : BitVec 8) : Nat := (((Lib.ntz8tab[m.toNat]?).getD 0).toNat)
theorem ntz_N (m : BitVec 8) : Lib.ntz8 (N m) = (tz m : Int) := by unfold Lib.ntz8 tz N; simp
theorem lanes_step : ∀ m : BitVec 8, m ≠ 0#8 → lanesOf m = tz m :: lanesOf (m &&& (m - 1#8)) := by decide +kernel
theorem lanes_zero : lanesOf 0#8 = [] := by decide +kernel
theorem tz8_any (b : BitVec 8) (w : World) :
    Calls Tryz.prog 278 #[Y b] w fun e w' => e = .returned (I (tz b)) ∧ w = w' := by
  have h0 := N_nonneg b
  have h1 : N b ≤ 255 := by have := N8_lt b; omega
  have h2 : 0 ≤ Lib.ntz8 (N b) := by unfold Lib.ntz8; omega
  have h3 : Lib.ntz8 (N b) < 256 := by unfold Lib.ntz8; have := ((Lib.ntz8tab[(N b).toNat]?).getD 0).toNat_lt; omega
  go_enter Tryz.func278, Tryz.ntmps278
  go_wp2
  go_ret
  exact ⟨by rw [← ntz_N]; rfl, rfl⟩
attribute [local go_sem] Oper.semAt_some
attribute [local go_sem] zaw zby zaj zas zaf zal
attribute [local go_sem ↓] zae zbk zbg zaa
def lanesLeft (bm : Nat) (w : World) : Nat :=
  match w.heap[bm]? with
  | some (.cells cs _ _) => match cs[0]? with
    | some (Value.int _ n) => (lanesOf (BitVec.ofInt 8 n)).length
    | _ => 0
  | _ => 0
theorem lanesLeft_eq {bm : Nat} {w : World} {m : BitVec 8} {t : TypeId} {fr : Nat × Nat} (h : w.heap[bm]? = some (.cells #[Y m] t fr)) : lanesLeft bm w = (lanesOf m).length := by
  simp [lanesLeft, h, zap]
theorem each_yields (m : BitVec 8) (bm : Nat) (w : World) (hb : w.heap[bm]? = some (.cells #[Y m] 121 (0, 0))) :
    Yields Tryz.prog 277 #[.pointer (some ⟨bm, 0, none⟩)] (fun i : Nat => #[I i]) (lanesOf m) [bm] [bm] w := by
  intro n l J Jx W hW hk hJ hJx hY h0
  have hb' := (hk bm (by simp)).trans hb
  refine callsIn_of_wp Tryz.func277 rfl trivial ?_
  simp only [Tryz.ntmps277, List.size_toArray, List.length_cons, List.length_nil, Nat.reduceAdd, Nat.reduceSub, Array.replicate_succ, Array.replicate_zero, List.push_toArray, List.append_toArray, List.nil_append, List.cons_append]
  gi_wp2
  gi_loopw [3] (fun _ wr => ∃ pre m', wr.heap[bm]? = some (.cells #[Y m'] 121 (0, 0)) ∧ lanesOf m = pre ++ lanesOf m' ∧ J pre wr) (fun _ wr => lanesLeft bm wr)
  case atStart => exact ⟨[], m, hb', rfl, h0⟩
  case round =>
    obtain ⟨pre, m', hm, hx, hj⟩ := hrel
    by_cases hz : m' = 0#8
    · subst hz
      have hz : (N (0#8) != 0) = false := by decide
      have HX := Lib.hid hx
      clear hx
      gi_wp2
      refine bodyPost_end (results_none rfl _ _ _) rfl ?_
      exact ⟨⟨_, rfl⟩, .inl (by rw [HX.out, lanes_zero, List.append_nil]; exact hj)⟩
    · have hne : (N m' != 0) = true := by
        rw [bne_iff_ne]; intro h; exact hz ((N_inj m' 0#8).1 (by rw [h]; rfl))
      have hst := lanes_step m' hz
      obtain ⟨fn, tmps, assign, body, hy, hR⟩ := hY pre (tz m') (lanesOf (m' &&& (m' - 1#8))) wr (by rw [hx, hst]) hj
      have HX := Lib.hid hx
      have HS := Lib.hid hst
      clear hx hst hz
      gi_wp2_with (refine ⟨trivial, ?_⟩; gi_at_call 278; refine (callsIn_wide.2 (tz8_any _ _)).mono ?_; rintro e w' ⟨rfl, rfl⟩)
      refine hR.mono ?_
      rintro e W3 (⟨rfl, hJ3, hz3, hk3⟩ | ⟨rfl, hJx3⟩)
      · have hm3 := (hk3 bm (by simp)).trans hm
        clear hk3 hy
        gi_wp2
        go_roundw
        case rel =>
          refine ⟨pre ++ [tz m'], m' &&& (m' - 1#8), ?_, by rw [HX.out, HS.out]; simp, hJ _ _ _ hJ3 ((Ch.refl _ _).setCell (.inl (by simp)) _)⟩
          rw [zaa, if_pos rfl, hm3]; rfl
        case measure =>
          rw [lanesLeft_eq hm, HS.out, lanesLeft_eq (m := m' &&& (m' - 1#8)) (by rw [zaa, if_pos rfl, hm3]; rfl)]
          simp
      · gi_wp2
        refine bodyPost_ret (results_none rfl _ _ _) rfl ?_
        exact ⟨⟨_, rfl⟩, .inr hJx3⟩
end Go.Proofs.Hc
namespace Go.Proofs.Hc
open Go.RowKit
attribute [local go_sem] zbu zcc zax zbf zbo zbd zbn zbp zbw signed64 signed8 zap BitVec.ofInt_add BitVec.ofInt_mul ofInt_sub' zbb zbc wide8 eqN neN zca shr1 shr7 shr56
attribute [local go_sem high] zbe zbv
attribute [local go_sem] Oper.semAt_some zao
attribute [local go_sem] zaw zby zaj zas zaf zal
attribute [local go_sem ↓] zae zbk zbg zaa
theorem each_any (m : BitVec 8) (w : World) :
    Calls Tryz.prog 229 #[Y m] w fun e w' => e = .returned (.func (.func 277) #[] #[.pointer (some ⟨w.heap.size, 0, none⟩)]) ∧ w' = w.alloc (.cells #[Y m] 121) := by
  go_enter Tryz.func229, Tryz.ntmps229
  go_wp2
  go_ret
  exact ⟨rfl, rfl⟩
def firstV (m : BitVec 8) : Value := match lanesOf m with
  | [] => .tuple #[I 0, .bool false]
  | x :: _ => .tuple #[I x, .bool true]
theorem enters_each (args : Array Value) (w : World) : (callFunc 277 args).run Tryz.prog w = .ok (.enter 277 args) w := by kernel_rfl
theorem first_any (m : BitVec 8) (w : World) :
    Calls Tryz.prog 266 #[Y m] w fun e w' => e = .returned (firstV m) ∧ Ch [] w w' := by
  refine (callsIn_wide (n := 3)).1 ?_
  refine callsIn_of_wp_marks Tryz.func266 rfl trivial ?_
  simp only [Tryz.ntmps266, List.size_toArray, List.length_cons, List.length_nil, Nat.reduceAdd, Nat.reduceSub, Array.replicate_succ, Array.replicate_zero, List.push_toArray, List.append_toArray, List.nil_append, List.cons_append]
  gi_wp2_with (refine ⟨trivial, ?_⟩; gi_at_call 229; refine (callsIn_wide.2 (each_any _ _)).mono ?_; rintro e w' ⟨rfl, rfl⟩)
  obtain ⟨W0, hW0⟩ : ∃ W0, ((w.alloc (.cells #[.int .i64 0] 3)).alloc (.cells #[.bool false] 4)).alloc (.cells #[Y m] 121) = W0 := ⟨_, rfl⟩
  have hs0 : W0.heap.size = w.heap.size + 3 := by rw [← hW0]; simp
  have hC0 : Ch [] w W0 := by rw [← hW0]; exact (((Ch.refl [] w).alloc _).alloc _).alloc _
  have b0 : W0.heap[w.heap.size]? = some (.cells #[I 0] 3 (0, 0)) := by rw [← hW0]; simp [go_sem] <;> omega
  have b1 : W0.heap[w.heap.size + 1]? = some (.cells #[.bool false] 4 (0, 0)) := by rw [← hW0]; simp [go_sem] <;> omega
  have b2 : W0.heap[w.heap.size + 1 + 1]? = some (.cells #[Y m] 121 (0, 0)) := by rw [← hW0]; simp [go_sem] <;> omega
  rw [hW0]
  clear hW0
  refine range_law (n := 1) (xs := lanesOf m) rfl enters_each (each_yields m _ W0 b2) (fun _ => rfl) (by simp <;> omega) (by simp <;> omega)
    (fun pre W => pre = [] ∧ Ch [] w W ∧ W.heap[w.heap.size]? = some (.cells #[I 0] 3 (0, 0)) ∧ W.heap[w.heap.size + 1]? = some (.cells #[.bool false] 4 (0, 0)))
    (fun c W => c = .ret ∧ ∃ x post, lanesOf m = x :: post ∧ Ch [] w W ∧ W.heap[w.heap.size]? = some (.cells #[I (x : Nat)] 3 (0, 0)) ∧ W.heap[w.heap.size + 1]? = some (.cells #[.bool true] 4 (0, 0)))
    ?hI ?hIx ⟨rfl, hC0, b0, b1⟩ ?a₁ ?assign ?body ?done ?stop
  case hI =>
    rintro pre A B ⟨rfl, hc, h1, h2⟩ hAB
    exact ⟨rfl, hc.trans2 hAB (by simp <;> omega), (hAB.block _ (Array.getElem?_eq_some_iff.1 h1).1 (by simp <;> omega)).trans h1, (hAB.block _ (Array.getElem?_eq_some_iff.1 h2).1 (by simp <;> omega)).trans h2⟩
  case hIx =>
    rintro c A B ⟨rfl, x, post, hx, hc, h1, h2⟩ hAB
    exact ⟨rfl, x, post, hx, hc.trans2 hAB (by simp <;> omega), (hAB.block _ (Array.getElem?_eq_some_iff.1 h1).1 (by simp <;> omega)).trans h1, (hAB.block _ (Array.getElem?_eq_some_iff.1 h2).1 (by simp <;> omega)).trans h2⟩
  case a₁ => exact fun x => { tmps := #[Y m, undef, .pointer (some ⟨w.heap.size, 0, none⟩), .pointer (some ⟨w.heap.size + 1, 0, none⟩), I x, Y m, .func (.func 277) #[] #[.pointer (some ⟨w.heap.size + 1 + 1, 0, none⟩)], I x, undef], defers := [] }
  case assign =>
    intro x W K hK
    gi_wp2
    exact hK
  case body =>
    rintro pre x post W hx ⟨rfl, hc, h1, h2⟩ hsz
    gi_wp2
    have hlt := hc.size
    have hl1 := (Array.getElem?_eq_some_iff.1 h1).1
    refine ⟨⟨rfl, x, post, hx, (hc.setCell (p := ⟨w.heap.size, 0, none⟩) (.inr (Nat.le_refl _)) _).setCell (p := ⟨w.heap.size + 1, 0, none⟩) (.inr (by simp)) _, ?_, ?_⟩, ?_⟩
    · simp only [zaa, h1]; simp [zaf]
    · simp only [zaa, h2]; simp [zaf]
    · intro b hb
      simp only [zaa]
      have hb' : b ≠ w.heap.size ∧ b ≠ w.heap.size + 1 := by rcases hb with rfl | rfl | hb <;> simp at * <;> omega
      rw [if_neg hb'.2, if_neg hb'.1]
  case done =>
    rintro W ⟨hx, hc, h1, h2⟩ hd
    gi_wp2
    refine marks_ret (v := .tuple #[I 0, .bool false]) ?_ (results_cell2 Tryz.results266 _ _ _ _ rfl rfl (load_one Tryz.underlying3 rfl _ _ (fr := (0, 0)) (t := 3) ?_) (load_one Tryz.underlying4 rfl _ _ (fr := (0, 0)) (t := 4) ?_)) ⟨by rw [firstV, hx], ?_⟩
    · simp only [zaa]; rw [if_neg (by omega), if_neg (by omega)]; exact hd
    · simp only [heap_putObj, zaa, h1]; rw [if_neg (by omega)]; simp [zaf]
    · simp only [heap_putObj, zaa, h2]; rw [if_neg (by omega)]; simp [zaf]
    · exact ((hc.setCell (p := ⟨w.heap.size, 0, none⟩) (.inr (Nat.le_refl _)) _).setCell (p := ⟨w.heap.size + 1, 0, none⟩) (.inr (by simp)) _).trans2 (zcg _ _ _) (by simp <;> omega)
  case stop =>
    rintro c W ⟨rfl, x, post, hx, hc, h1, h2⟩ hd
    gi_wp2
    refine marks_ret (v := .tuple #[I x, .bool true]) hd (results_cell2 Tryz.results266 _ _ _ _ rfl rfl (load_one Tryz.underlying3 rfl _ _ (fr := (0, 0)) (t := 3) ?_) (load_one Tryz.underlying4 rfl _ _ (fr := (0, 0)) (t := 4) ?_)) ⟨by rw [firstV, hx], ?_⟩
    · rw [heap_putObj, if_neg (by omega)]; exact h1
    · rw [heap_putObj, if_neg (by omega)]; exact h2
    · exact hc.trans2 (zcg _ _ _) (by simp <;> omega)
end Go.Proofs.Hc
namespace Go.Proofs.Hc
open Go.RowKit
def YieldsO {α : Type} (P : Program) (g : Nat) (lb : Array Value) (encs : α → Array Value) (xs : List α) (own kept : List Nat) (w : World) : Prop :=
  ∀ (n l : Nat) (J : List α → (Nat → Prop) → World → Prop) (Jx : World → Prop) (W : World) (O0 : Nat → Prop), Ch [] w W → (∀ b ∈ kept, W.heap[b]? = w.heap[b]?) →
    (∀ pre O A, J pre O A → ∀ b, O b → b < A.heap.size ∧ b ∉ kept) →
    (∀ pre O A B, J pre O A → Ch own A B → J pre O B) → (∀ A B, Jx A → Ch own A B → Jx B) →
    (∀ pre O x post W1, xs = pre ++ x :: post → J pre O W1 → YieldAt Wd n P l (encs x) W1 fun e W' =>
      (e = .returned (.bool true) ∧ (∃ O', J (pre ++ [x]) O' W' ∧ ∀ b, O' b → O b ∨ W1.heap.size ≤ b) ∧ W1.heap.size ≤ W'.heap.size ∧ ∀ b, b < W1.heap.size → ¬ O b → W'.heap[b]? = W1.heap[b]?) ∨ (e = .returned (.bool false) ∧ Jx W')) →
    J [] O0 W →
    CallsIn Wd (n + 1) P g (#[.func (.yield l) #[] #[]] ++ lb) W fun e W' => (∃ v, e = .returned v) ∧ ((∃ O, J xs O W') ∨ Jx W')
def bodyO (I : (Nat → Prop) → World → Prop) (Ix : Code → World → Prop) (O : Nat → Prop) (W : World) : Exit → Act → World → Prop
  | .normal, _, W' => (∃ O', I O' W' ∧ ∀ b, O' b → O b ∨ W.heap.size ≤ b) ∧ W.heap.size ≤ W'.heap.size ∧ ∀ b, b < W.heap.size → ¬ O b → W'.heap[b]? = W.heap[b]?
  | .ret, _, W' => Ix .ret W' ∧ ∀ b, b < W.heap.size → ¬ O b → W'.heap[b]? = W.heap[b]?
  | .exit id, _, W' => Ix (.exit id) W' ∧ ∀ b, b < W.heap.size → ¬ O b → W'.heap[b]? = W.heap[b]?
  | .goto t, _, W' => Ix (.goto t) W' ∧ ∀ b, b < W.heap.size → ¬ O b → W'.heap[b]? = W.heap[b]?
  | .panic _, _, _ => False
  | .outgrown, _, _ => False
theorem range_lawO {α : Type} {P : Program} {n : Nat} {g : Operand} {ps : Array Tmp} {assign body : Code} {Q : Exit → Act → World → Prop} {a : Act} {w : World}
    {gf : Nat} {lb : Array Value} (hg : a.eval g = .func (.func gf) #[] lb) (eg : ∀ args w, (callFunc gf args).run P w = .ok (.enter gf args) w)
    {encs : α → Array Value} {xs : List α} {own kept : List Nat} (hseq : YieldsO P gf lb encs xs own kept w) (hps : ∀ x, (encs x).size = ps.size)
    (hown : ∀ b ∈ own, b < w.heap.size) (hkept : ∀ b ∈ kept, b < w.heap.size)
    (I : List α → (Nat → Prop) → World → Prop) (Ix : Code → World → Prop) (O0 : Nat → Prop)
    (hIO : ∀ pre O A, I pre O A → ∀ b, O b → (b < w.heap.size ∨ w.heap.size + 2 ≤ b) ∧ b < A.heap.size ∧ b ∉ kept)
    (hI : ∀ pre O A B, I pre O A → Ch ((w.heap.size + 1) :: own) A B → I pre O B) (hIx : ∀ c A B, Ix c A → Ch ((w.heap.size + 1) :: own) A B → Ix c B) (h0 : I [] O0 w) (a₁ : α → Act)
    (hassign : ∀ (x : α) (W : World) (K : Act → World → Prop), K (a₁ x) W →
      assign.wpIn (Wd.inRound (w.heap.size + 1)) n P (Exit.then K (fun _ _ _ => False)) { tmps := (ps.zip (encs x)).foldl (fun t (p, v) => t.setIfInBounds p v) a.tmps, defers := [] } W)
    (hbody : ∀ (pre : List α) (O : Nat → Prop) (x : α) (post : List α) (W : World), xs = pre ++ x :: post → I pre O W → w.heap.size + 2 ≤ W.heap.size →
      body.wpIn (Wd.inRound (w.heap.size + 1)) n P (bodyO (I (pre ++ [x])) Ix O W) (a₁ x) W)
    (hdone : ∀ (O : Nat → Prop) (W : World), I xs O W → W.heap[w.heap.size]? = some (.deferred (some [])) → Q .normal { a with defers := { target := .collected w.heap.size, args := #[] } :: a.defers } W)
    (hstop : ∀ (c : Code) (W : World), Ix c W → W.heap[w.heap.size]? = some (.deferred (some [])) → c.wpIn Wd (n + 2) P Q { a with defers := { target := .collected w.heap.size, args := #[] } :: a.defers } W) :
    (Code.rangeFunc g ps assign body).wpIn Wd (n + 2) P Q a w := by
  refine wpIn_rangeFunc ?_
  intro fn hfn
  rw [show Wd.round = none from rfl]
  obtain ⟨rec, hrec⟩ : ∃ rec : LoopState → Option Code → Loop, rec = fun st pe => { state := st, pending := pe, fn, tmps := a.tmps, params := ps, assign, body, defers := w.heap.size } := ⟨_, rfl⟩
  obtain ⟨W1, hW1⟩ : ∃ W1, (w.alloc (.deferred (some []))).alloc (.loop (rec .ready none)) = W1 := ⟨_, rfl⟩
  have hL1 : W1.heap[w.heap.size + 1]? = some (.loop (rec .ready none)) := by
    rw [← hW1, zae, if_pos (by simp)]
  have hK1 : W1.heap[w.heap.size]? = some (.deferred (some [])) := by
    rw [← hW1, zae, if_neg (by simp), zae, if_pos rfl]
  have hC1 : Ch [] w W1 := by rw [← hW1]; exact ((Ch.refl [] w).alloc _).alloc _
  have hsz1 : W1.heap.size = w.heap.size + 2 := by rw [← hW1]; simp
  refine ⟨w.heap.size + 1, [{ target := .collected w.heap.size, args := #[] }], W1, { target := .fn (.func gf) lb, args := #[.func (.yield (w.heap.size + 1)) #[] #[]] }, W1, gf,
    #[.func (.yield (w.heap.size + 1)) #[] #[]] ++ lb, W1, ?_, ?_, fun _ _ => trivial, ?_, fun _ => by omega, ?_⟩
  · rw [← hW1, hrec]; exact run_enterLoop_outer _ _ _ _ _
  · simp only [resolve, hg]
    simp [go_sem]
  · simp [invoke, go_sem, eg]
  · have hne : w.heap.size ∉ (w.heap.size + 1) :: own := by
      simp only [List.mem_cons, not_or]; exact ⟨by omega, fun hb => by have := hown _ hb; omega⟩
    have hle : w.heap.size + 1 ∉ own := fun hb => by have := hown _ hb; omega
    have hne' : w.heap.size ∉ own := fun hb => by have := hown _ hb; omega
    refine (hseq n (w.heap.size + 1)
      (fun pre O W => I pre O W ∧ W.heap[w.heap.size + 1]? = some (.loop (rec .ready none)) ∧ W.heap[w.heap.size]? = some (.deferred (some [])))
      (fun W => ∃ c, Ix c W ∧ W.heap[w.heap.size + 1]? = some (.loop (rec .done (some c))) ∧ W.heap[w.heap.size]? = some (.deferred (some [])))
      W1 O0 hC1 (fun b hb => hC1.block b (hkept b hb) (by simp)) ?_ ?_ ?_ ?_ ⟨hI _ _ _ _ h0 hC1.of_nil, hL1, hK1⟩).mono ?_
    · rintro pre O A ⟨hi, _, _⟩ b hb
      exact (hIO _ _ _ hi b hb).2
    · rintro pre O A B ⟨hi, hl, hk⟩ hc
      exact ⟨hI _ _ _ _ hi (hc.mono fun s hs => .tail _ hs), (hc.block _ (Array.getElem?_eq_some_iff.1 hl).1 hle).trans hl, (hc.block _ (Array.getElem?_eq_some_iff.1 hk).1 hne').trans hk⟩
    · rintro A B ⟨c, hi, hl, hk⟩ hc
      exact ⟨c, hIx _ _ _ hi (hc.mono fun s hs => .tail _ hs), (hc.block _ (Array.getElem?_eq_some_iff.1 hl).1 hle).trans hl, (hc.block _ (Array.getElem?_eq_some_iff.1 hk).1 hne').trans hk⟩
    · rintro pre O x post W hxs ⟨hi, hl, hk⟩
      have hlt : w.heap.size + 1 < W.heap.size := (Array.getElem?_eq_some_iff.1 hl).1
      have hy := run_yield (P := P) (args := encs x) hl (by rw [hrec]; exact hps x)
      rw [hrec] at hy
      have hDO : ¬ O w.heap.size := fun h => by have := (hIO _ _ _ hi _ h).1; omega
      have hLO : ¬ O (w.heap.size + 1) := fun h => by have := (hIO _ _ _ hi _ h).1; omega
      refine ⟨fn, _, assign, body, hy, roundIn_of_wpIn trivial (hassign x W _ ⟨_, run_beginRound hl (by rw [hrec]), ?_⟩)⟩
      have hl2 : (W.putObj (w.heap.size + 1) (.loop { rec .ready none with state := .busy })).heap[w.heap.size + 1]? = some (.loop { rec .ready none with state := .busy }) := World.putObj_heap_same hlt
      have hk2 : (W.putObj (w.heap.size + 1) (.loop { rec .ready none with state := .busy })).heap[w.heap.size]? = some (.deferred (some [])) := (World.putObj_heap_other (by omega)).trans hk
      have hzz : (W.putObj (w.heap.size + 1) (.loop { rec .ready none with state := .busy })).heap.size = W.heap.size := by simp
      refine wpIn_mono (hbody pre O x post _ hxs (hI _ _ _ _ hi ((zcg _ _ _).mono fun s hs => by rw [List.mem_singleton.1 hs]; exact .head _)) (by simp; omega)) ?_
      have fin : ∀ (jump : Option Code) (W3 : World), (∀ b, b < W.heap.size → ¬ O b → W3.heap[b]? = (W.putObj (w.heap.size + 1) (.loop { rec .ready none with state := .busy })).heap[b]?) →
          (Instr.endRound (w.heap.size + 1) jump).run P W3 = .ok (.bool jump.isNone) (W3.putObj (w.heap.size + 1) (.loop (rec (if jump.isNone then .ready else .done) jump))) ∧
          (W3.putObj (w.heap.size + 1) (.loop (rec (if jump.isNone then .ready else .done) jump))).heap[w.heap.size + 1]? = some (.loop (rec (if jump.isNone then .ready else .done) jump)) ∧
          (W3.putObj (w.heap.size + 1) (.loop (rec (if jump.isNone then .ready else .done) jump))).heap[w.heap.size]? = some (.deferred (some [])) := fun jump W3 hk3 => by
        have hl3 := (hk3 _ hlt hLO).trans hl2
        have := run_endRound (P := P) jump hl3
        rw [hrec] at this ⊢
        exact ⟨this, World.putObj_heap_same (Array.getElem?_eq_some_iff.1 hl3).1, (World.putObj_heap_other (by omega)).trans ((hk3 _ (by omega) hDO).trans hk2)⟩
      have one : ∀ s ∈ [w.heap.size + 1], s ∈ (w.heap.size + 1) :: own := fun s hs => by rw [List.mem_singleton.1 hs]; exact .head _
      rintro e a3 W3 hp
      cases e with
      | normal =>
        obtain ⟨⟨O', hi3, hO'⟩, hz3, hk3⟩ := hp
        rw [hzz] at hk3 hz3 hO'
        obtain ⟨hr, hl4, hk4⟩ := fin none W3 hk3
        refine ⟨_, _, hr, .inl ⟨rfl, ⟨O', ⟨hI _ _ _ _ hi3 ((zcg _ _ _).mono one), hl4, hk4⟩, hO'⟩, by simpa using hz3, fun b hb hn => ?_⟩⟩
        by_cases hbl : b = w.heap.size + 1
        · subst hbl; exact hl4.trans hl.symm
        · exact (World.putObj_heap_other hbl).trans ((hk3 b hb hn).trans (World.putObj_heap_other hbl))
      | ret =>
        obtain ⟨hi3, hk3⟩ := hp
        rw [hzz] at hk3
        obtain ⟨hr, hl4, hk4⟩ := fin (some .ret) W3 hk3
        exact ⟨_, _, hr, .inr ⟨rfl, .ret, hIx _ _ _ hi3 ((zcg _ _ _).mono one), hl4, hk4⟩⟩
      | exit id =>
        obtain ⟨hi3, hk3⟩ := hp
        rw [hzz] at hk3
        obtain ⟨hr, hl4, hk4⟩ := fin (some (.exit id)) W3 hk3
        exact ⟨_, _, hr, .inr ⟨rfl, .exit id, hIx _ _ _ hi3 ((zcg _ _ _).mono one), hl4, hk4⟩⟩
      | goto t =>
        obtain ⟨hi3, hk3⟩ := hp
        rw [hzz] at hk3
        obtain ⟨hr, hl4, hk4⟩ := fin (some (.goto t)) W3 hk3
        exact ⟨_, _, hr, .inr ⟨rfl, .goto t, hIx _ _ _ hi3 ((zcg _ _ _).mono one), hl4, hk4⟩⟩
      | panic ch => exact hp.elim
      | outgrown => exact hp.elim
    · have one : ∀ s ∈ [w.heap.size + 1], s ∈ (w.heap.size + 1) :: own := fun s hs => by rw [List.mem_singleton.1 hs]; exact .head _
      rintro e W2 ⟨⟨v, rfl⟩, ⟨O, hi, hl, hk⟩ | ⟨c, hi, hl, hk⟩⟩
      · exact ⟨none, _, by have := run_endLoop (P := P) hl (by rw [hrec]; simp); rw [hrec] at this; exact this, hdone O _ (hI _ _ _ _ hi ((zcg _ _ _).mono one)) ((World.putObj_heap_other (by omega)).trans hk)⟩
      · exact ⟨some c, _, by have := run_endLoop (P := P) hl (by rw [hrec]; simp); rw [hrec] at this; exact this, hstop c _ (hIx _ _ _ hi ((zcg _ _ _).mono one)) ((World.putObj_heap_other (by omega)).trans hk)⟩
end Go.Proofs.Hc
namespace Go.Proofs.Hc
open Go.RowKit
def bodyX (X : Nat → Prop) (I : (Nat → Prop) → World → Prop) (Ix : Code → World → Prop) (O : Nat → Prop) (W : World) : Exit → Act → World → Prop
  | .normal, _, W' => (∃ O', I O' W' ∧ ∀ b, O' b → O b ∨ W.heap.size ≤ b) ∧ W.heap.size ≤ W'.heap.size ∧ ∀ b, b < W.heap.size → ¬ O b → W'.heap[b]? = W.heap[b]?
  | .ret, _, W' => Ix .ret W' ∧ ∀ b, b < W.heap.size → ¬ O b → ¬ X b → W'.heap[b]? = W.heap[b]?
  | .exit id, _, W' => Ix (.exit id) W' ∧ ∀ b, b < W.heap.size → ¬ O b → ¬ X b → W'.heap[b]? = W.heap[b]?
  | .goto t, _, W' => Ix (.goto t) W' ∧ ∀ b, b < W.heap.size → ¬ O b → ¬ X b → W'.heap[b]? = W.heap[b]?
  | .panic _, _, _ => False
  | .outgrown, _, _ => False
theorem range_lawX {α : Type} {P : Program} {n : Nat} {g : Operand} {ps : Array Tmp} {assign body : Code} {Q : Exit → Act → World → Prop} {a : Act} {w : World}
    {gf : Nat} {lb : Array Value} (hg : a.eval g = .func (.func gf) #[] lb) (eg : ∀ args w, (callFunc gf args).run P w = .ok (.enter gf args) w)
    {encs : α → Array Value} {xs : List α} {own kept : List Nat} (hseq : YieldsO P gf lb encs xs own kept w) (hps : ∀ x, (encs x).size = ps.size)
    (hown : ∀ b ∈ own, b < w.heap.size) (hkept : ∀ b ∈ kept, b < w.heap.size)
    (X : Nat → Prop) (hX : ∀ b, X b → b < w.heap.size) (I : List α → (Nat → Prop) → World → Prop) (Ix : Code → World → Prop) (O0 : Nat → Prop)
    (hIO : ∀ pre O A, I pre O A → ∀ b, O b → (b < w.heap.size ∨ w.heap.size + 2 ≤ b) ∧ b < A.heap.size ∧ b ∉ kept)
    (hI : ∀ pre O A B, I pre O A → Ch ((w.heap.size + 1) :: own) A B → I pre O B) (hIx : ∀ c A B, Ix c A → Ch ((w.heap.size + 1) :: own) A B → Ix c B) (h0 : I [] O0 w) (a₁ : α → Act)
    (hassign : ∀ (x : α) (W : World) (K : Act → World → Prop), K (a₁ x) W →
      assign.wpIn (Wd.inRound (w.heap.size + 1)) n P (Exit.then K (fun _ _ _ => False)) { tmps := (ps.zip (encs x)).foldl (fun t (p, v) => t.setIfInBounds p v) a.tmps, defers := [] } W)
    (hbody : ∀ (pre : List α) (O : Nat → Prop) (x : α) (post : List α) (W : World), xs = pre ++ x :: post → I pre O W → w.heap.size + 2 ≤ W.heap.size →
      body.wpIn (Wd.inRound (w.heap.size + 1)) n P (bodyX X (I (pre ++ [x])) Ix O W) (a₁ x) W)
    (hdone : ∀ (O : Nat → Prop) (W : World), I xs O W → W.heap[w.heap.size]? = some (.deferred (some [])) → Q .normal { a with defers := { target := .collected w.heap.size, args := #[] } :: a.defers } W)
    (hstop : ∀ (c : Code) (W : World), Ix c W → W.heap[w.heap.size]? = some (.deferred (some [])) → c.wpIn Wd (n + 2) P Q { a with defers := { target := .collected w.heap.size, args := #[] } :: a.defers } W) :
    (Code.rangeFunc g ps assign body).wpIn Wd (n + 2) P Q a w := by
  refine wpIn_rangeFunc ?_
  intro fn hfn
  rw [show Wd.round = none from rfl]
  obtain ⟨rec, hrec⟩ : ∃ rec : LoopState → Option Code → Loop, rec = fun st pe => { state := st, pending := pe, fn, tmps := a.tmps, params := ps, assign, body, defers := w.heap.size } := ⟨_, rfl⟩
  obtain ⟨W1, hW1⟩ : ∃ W1, (w.alloc (.deferred (some []))).alloc (.loop (rec .ready none)) = W1 := ⟨_, rfl⟩
  have hL1 : W1.heap[w.heap.size + 1]? = some (.loop (rec .ready none)) := by
    rw [← hW1, zae, if_pos (by simp)]
  have hK1 : W1.heap[w.heap.size]? = some (.deferred (some [])) := by
    rw [← hW1, zae, if_neg (by simp), zae, if_pos rfl]
  have hC1 : Ch [] w W1 := by rw [← hW1]; exact ((Ch.refl [] w).alloc _).alloc _
  have hsz1 : W1.heap.size = w.heap.size + 2 := by rw [← hW1]; simp
  refine ⟨w.heap.size + 1, [{ target := .collected w.heap.size, args := #[] }], W1, { target := .fn (.func gf) lb, args := #[.func (.yield (w.heap.size + 1)) #[] #[]] }, W1, gf,
    #[.func (.yield (w.heap.size + 1)) #[] #[]] ++ lb, W1, ?_, ?_, fun _ _ => trivial, ?_, fun _ => by omega, ?_⟩
  · rw [← hW1, hrec]; exact run_enterLoop_outer _ _ _ _ _
  · simp only [resolve, hg]
    simp [go_sem]
  · simp [invoke, go_sem, eg]
  · have hne : w.heap.size ∉ (w.heap.size + 1) :: own := by
      simp only [List.mem_cons, not_or]; exact ⟨by omega, fun hb => by have := hown _ hb; omega⟩
    have hle : w.heap.size + 1 ∉ own := fun hb => by have := hown _ hb; omega
    have hne' : w.heap.size ∉ own := fun hb => by have := hown _ hb; omega
    refine (hseq n (w.heap.size + 1)
      (fun pre O W => I pre O W ∧ W.heap[w.heap.size + 1]? = some (.loop (rec .ready none)) ∧ W.heap[w.heap.size]? = some (.deferred (some [])))
      (fun W => ∃ c, Ix c W ∧ W.heap[w.heap.size + 1]? = some (.loop (rec .done (some c))) ∧ W.heap[w.heap.size]? = some (.deferred (some [])))
      W1 O0 hC1 (fun b hb => hC1.block b (hkept b hb) (by simp)) ?_ ?_ ?_ ?_ ⟨hI _ _ _ _ h0 hC1.of_nil, hL1, hK1⟩).mono ?_
    · rintro pre O A ⟨hi, _, _⟩ b hb
      exact (hIO _ _ _ hi b hb).2
    · rintro pre O A B ⟨hi, hl, hk⟩ hc
      exact ⟨hI _ _ _ _ hi (hc.mono fun s hs => .tail _ hs), (hc.block _ (Array.getElem?_eq_some_iff.1 hl).1 hle).trans hl, (hc.block _ (Array.getElem?_eq_some_iff.1 hk).1 hne').trans hk⟩
    · rintro A B ⟨c, hi, hl, hk⟩ hc
      exact ⟨c, hIx _ _ _ hi (hc.mono fun s hs => .tail _ hs), (hc.block _ (Array.getElem?_eq_some_iff.1 hl).1 hle).trans hl, (hc.block _ (Array.getElem?_eq_some_iff.1 hk).1 hne').trans hk⟩
    · rintro pre O x post W hxs ⟨hi, hl, hk⟩
      have hlt : w.heap.size + 1 < W.heap.size := (Array.getElem?_eq_some_iff.1 hl).1
      have hy := run_yield (P := P) (args := encs x) hl (by rw [hrec]; exact hps x)
      rw [hrec] at hy
      have hDO : ¬ O w.heap.size := fun h => by have := (hIO _ _ _ hi _ h).1; omega
      have hLO : ¬ O (w.heap.size + 1) := fun h => by have := (hIO _ _ _ hi _ h).1; omega
      refine ⟨fn, _, assign, body, hy, roundIn_of_wpIn trivial (hassign x W _ ⟨_, run_beginRound hl (by rw [hrec]), ?_⟩)⟩
      have hl2 : (W.putObj (w.heap.size + 1) (.loop { rec .ready none with state := .busy })).heap[w.heap.size + 1]? = some (.loop { rec .ready none with state := .busy }) := World.putObj_heap_same hlt
      have hk2 : (W.putObj (w.heap.size + 1) (.loop { rec .ready none with state := .busy })).heap[w.heap.size]? = some (.deferred (some [])) := (World.putObj_heap_other (by omega)).trans hk
      have hzz : (W.putObj (w.heap.size + 1) (.loop { rec .ready none with state := .busy })).heap.size = W.heap.size := by simp
      refine wpIn_mono (hbody pre O x post _ hxs (hI _ _ _ _ hi ((zcg _ _ _).mono fun s hs => by rw [List.mem_singleton.1 hs]; exact .head _)) (by simp; omega)) ?_
      have fin : ∀ (jump : Option Code) (W3 : World), (∀ b, b < W.heap.size → ¬ O b → ¬ X b → W3.heap[b]? = (W.putObj (w.heap.size + 1) (.loop { rec .ready none with state := .busy })).heap[b]?) →
          (Instr.endRound (w.heap.size + 1) jump).run P W3 = .ok (.bool jump.isNone) (W3.putObj (w.heap.size + 1) (.loop (rec (if jump.isNone then .ready else .done) jump))) ∧
          (W3.putObj (w.heap.size + 1) (.loop (rec (if jump.isNone then .ready else .done) jump))).heap[w.heap.size + 1]? = some (.loop (rec (if jump.isNone then .ready else .done) jump)) ∧
          (W3.putObj (w.heap.size + 1) (.loop (rec (if jump.isNone then .ready else .done) jump))).heap[w.heap.size]? = some (.deferred (some [])) := fun jump W3 hk3 => by
        have hl3 := (hk3 _ hlt hLO (fun h => by have := hX _ h; omega)).trans hl2
        have := run_endRound (P := P) jump hl3
        rw [hrec] at this ⊢
        exact ⟨this, World.putObj_heap_same (Array.getElem?_eq_some_iff.1 hl3).1, (World.putObj_heap_other (by omega)).trans ((hk3 _ (by omega) hDO (fun h => by have := hX _ h; omega)).trans hk2)⟩
      have one : ∀ s ∈ [w.heap.size + 1], s ∈ (w.heap.size + 1) :: own := fun s hs => by rw [List.mem_singleton.1 hs]; exact .head _
      rintro e a3 W3 hp
      cases e with
      | normal =>
        obtain ⟨⟨O', hi3, hO'⟩, hz3, hk3⟩ := hp
        rw [hzz] at hk3 hz3 hO'
        obtain ⟨hr, hl4, hk4⟩ := fin none W3 (fun b hb hn _ => hk3 b hb hn)
        refine ⟨_, _, hr, .inl ⟨rfl, ⟨O', ⟨hI _ _ _ _ hi3 ((zcg _ _ _).mono one), hl4, hk4⟩, hO'⟩, by simpa using hz3, fun b hb hn => ?_⟩⟩
        by_cases hbl : b = w.heap.size + 1
        · subst hbl; exact hl4.trans hl.symm
        · exact (World.putObj_heap_other hbl).trans ((hk3 b hb hn).trans (World.putObj_heap_other hbl))
      | ret =>
        obtain ⟨hi3, hk3⟩ := hp
        rw [hzz] at hk3
        obtain ⟨hr, hl4, hk4⟩ := fin (some .ret) W3 hk3
        exact ⟨_, _, hr, .inr ⟨rfl, .ret, hIx _ _ _ hi3 ((zcg _ _ _).mono one), hl4, hk4⟩⟩
      | exit id =>
        obtain ⟨hi3, hk3⟩ := hp
        rw [hzz] at hk3
        obtain ⟨hr, hl4, hk4⟩ := fin (some (.exit id)) W3 hk3
        exact ⟨_, _, hr, .inr ⟨rfl, .exit id, hIx _ _ _ hi3 ((zcg _ _ _).mono one), hl4, hk4⟩⟩
      | goto t =>
        obtain ⟨hi3, hk3⟩ := hp
        rw [hzz] at hk3
        obtain ⟨hr, hl4, hk4⟩ := fin (some (.goto t)) W3 hk3
        exact ⟨_, _, hr, .inr ⟨rfl, .goto t, hIx _ _ _ hi3 ((zcg _ _ _).mono one), hl4, hk4⟩⟩
      | panic ch => exact hp.elim
      | outgrown => exact hp.elim
    · have one : ∀ s ∈ [w.heap.size + 1], s ∈ (w.heap.size + 1) :: own := fun s hs => by rw [List.mem_singleton.1 hs]; exact .head _
      rintro e W2 ⟨⟨v, rfl⟩, ⟨O, hi, hl, hk⟩ | ⟨c, hi, hl, hk⟩⟩
      · exact ⟨none, _, by have := run_endLoop (P := P) hl (by rw [hrec]; simp); rw [hrec] at this; exact this, hdone O _ (hI _ _ _ _ hi ((zcg _ _ _).mono one)) ((World.putObj_heap_other (by omega)).trans hk)⟩
      · exact ⟨some c, _, by have := run_endLoop (P := P) hl (by rw [hrec]; simp); rw [hrec] at this; exact this, hstop c _ (hIx _ _ _ hi ((zcg _ _ _).mono one)) ((World.putObj_heap_other (by omega)).trans hk)⟩
end Go.Proofs.Hc
