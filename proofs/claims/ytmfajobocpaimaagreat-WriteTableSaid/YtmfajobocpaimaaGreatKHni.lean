/- A range over a function: the iterator's contract, and the law of the loop. -/
import Derived.Test.YtmfajobocpaimaaGreatKHm
import Derived.Test.YtmfajobocpaimaaGreatKHxc
import Derived.Below
import Derived.BigQuiet
import Derived.Deep.Draws
import Derived.Deep.QuietTactic
import Derived.Laws.CopyRow
import Derived.Laws.Tables
import Derived.Lib.Hide
import Derived.LoopIn
import Derived.LoopNIn
import Derived.OwnWalkIn
import Derived.RangeFuncCalls
import Derived.RangeFuncRecord
import Derived.RangeFuncSeq
import Derived.TacticsInMore
import Derived.Test.YtmfajobocpaimaaGreatProg
import Derived.WalkKit
import Derived.Lib.Tables
import Derived.Maps.AppendAt
import Derived.RangeFuncBox
import Derived.Recover
import Derived.RegionTactic
import Derived.StillTail
import Derived.WalkLawsBesides
import Derived.WalkMore
import Derived.WalkSpells
import Derived.Deep.Light
import Derived.Deep.RegionHeld
import Derived.Laws.StructEq
import Derived.Lib.AppendZerosOnto
import Derived.Lib.Walk
import Derived.LoopN
import Derived.Maps.Views
import Derived.ScopeJumps
import Derived.Shelf.Slices.Clone
import Derived.StillTailTactics
set_option linter.unusedSimpArgs false
set_option linter.unusedVariables false
namespace Go.Proofs.Hc
open Go.RowKit
/-- The wide fence's depth. -/
abbrev Wd : Fence := Fence.wide
/-- The iterator g, captured lb, hands on xs, one by one; it changes the blocks own, and needs that the blocks kept lie as it left them when a round is over. -/
def Yields {α : Type} (P : Program) (g : Nat) (lb : Array Value) (encs : α → Array Value) (xs : List α) (own kept : List Nat) (w : World) : Prop :=
  ∀ (n l : Nat) (J : List α → World → Prop) (Jx : World → Prop) (W : World), Ch [] w W → (∀ b ∈ kept, W.heap[b]? = w.heap[b]?) →
    (∀ pre A B, J pre A → Ch own A B → J pre B) → (∀ A B, Jx A → Ch own A B → Jx B) →
    (∀ pre x post W1, xs = pre ++ x :: post → J pre W1 → YieldAt Wd n P l (encs x) W1 fun e W' =>
      (e = .returned (.bool true) ∧ J (pre ++ [x]) W' ∧ W1.heap.size ≤ W'.heap.size ∧ ∀ b ∈ kept, W'.heap[b]? = W1.heap[b]?) ∨ (e = .returned (.bool false) ∧ Jx W')) →
    J [] W →
    CallsIn Wd (n + 1) P g (#[.func (.yield l) #[] #[]] ++ lb) W fun e W' => (∃ v, e = .returned v) ∧ (J xs W' ∨ Jx W')
/-- How the body of a round may be left. -/
def bodyQ (I : World → Prop) (Ix : Code → World → Prop) (keep : Nat → Prop) (W : World) : Exit → Act → World → Prop
  | .normal, _, W' => I W' ∧ W.heap.size ≤ W'.heap.size ∧ ∀ b, keep b → W'.heap[b]? = W.heap[b]?
  | .ret, _, W' => Ix .ret W' ∧ ∀ b, keep b → W'.heap[b]? = W.heap[b]?
  | .exit id, _, W' => Ix (.exit id) W' ∧ ∀ b, keep b → W'.heap[b]? = W.heap[b]?
  | .goto t, _, W' => Ix (.goto t) W' ∧ ∀ b, keep b → W'.heap[b]? = W.heap[b]?
  | .panic _, _, _ => False
  | .outgrown, _, _ => False
theorem ch_putObj (w : World) (l : Nat) (o : Obj) : Ch [l] w (w.putObj l o) :=
  ⟨rfl, rfl, rfl, by simp, fun k _ hn => World.putObj_heap_other (by simpa using hn)⟩
theorem range_law {α : Type} {P : Program} {n : Nat} {g : Operand} {ps : Array Tmp} {assign body : Code} {Q : Exit → Act → World → Prop} {a : Act} {w : World}
    {gf : Nat} {lb : Array Value} (hg : a.eval g = .func (.func gf) #[] lb) (eg : ∀ args w, (callFunc gf args).run P w = .ok (.enter gf args) w)
    {encs : α → Array Value} {xs : List α} {own kept : List Nat} (hseq : Yields P gf lb encs xs own kept w) (hps : ∀ x, (encs x).size = ps.size)
    (hown : ∀ b ∈ own, b < w.heap.size) (hkept : ∀ b ∈ kept, b < w.heap.size)
    (I : List α → World → Prop) (Ix : Code → World → Prop)
    (hI : ∀ pre A B, I pre A → Ch ((w.heap.size + 1) :: own) A B → I pre B) (hIx : ∀ c A B, Ix c A → Ch ((w.heap.size + 1) :: own) A B → Ix c B) (h0 : I [] w) (a₁ : α → Act)
    (hassign : ∀ (x : α) (W : World) (K : Act → World → Prop), K (a₁ x) W →
      assign.wpIn (Wd.inRound (w.heap.size + 1)) n P (Exit.then K (fun _ _ _ => False)) { tmps := (ps.zip (encs x)).foldl (fun t (p, v) => t.setIfInBounds p v) a.tmps, defers := [] } W)
    (hbody : ∀ (pre : List α) (x : α) (post : List α) (W : World), xs = pre ++ x :: post → I pre W → w.heap.size + 2 ≤ W.heap.size →
      body.wpIn (Wd.inRound (w.heap.size + 1)) n P (bodyQ (I (pre ++ [x])) Ix (fun b => b = w.heap.size ∨ b = w.heap.size + 1 ∨ b ∈ kept) W) (a₁ x) W)
    (hdone : ∀ (W : World), I xs W → W.heap[w.heap.size]? = some (.deferred (some [])) → Q .normal { a with defers := { target := .collected w.heap.size, args := #[] } :: a.defers } W)
    (hstop : ∀ (c : Code) (W : World), Ix c W → W.heap[w.heap.size]? = some (.deferred (some [])) → c.wpIn Wd (n + 2) P Q { a with defers := { target := .collected w.heap.size, args := #[] } :: a.defers } W) :
    (Code.rangeFunc g ps assign body).wpIn Wd (n + 2) P Q a w := by
  refine wpIn_rangeFunc ?_
  intro fn hfn
  rw [show Wd.round = none from rfl]
  obtain ⟨rec, hrec⟩ : ∃ rec : LoopState → Option Code → Loop, rec = fun st pe => { state := st, pending := pe, fn, tmps := a.tmps, params := ps, assign, body, defers := w.heap.size } := ⟨_, rfl⟩
  obtain ⟨W1, hW1⟩ : ∃ W1, (w.alloc (.deferred (some []))).alloc (.loop (rec .ready none)) = W1 := ⟨_, rfl⟩
  have hL1 : W1.heap[w.heap.size + 1]? = some (.loop (rec .ready none)) := by
    rw [← hW1, heap_alloc, if_pos (by simp)]
  have hK1 : W1.heap[w.heap.size]? = some (.deferred (some [])) := by
    rw [← hW1, heap_alloc, if_neg (by simp), heap_alloc, if_pos rfl]
  have hC1 : Ch [] w W1 := by rw [← hW1]; exact ((Ch.refl [] w).alloc _).alloc _
  have hsz1 : W1.heap.size = w.heap.size + 2 := by rw [← hW1]; simp
  refine ⟨w.heap.size + 1, [{ target := .collected w.heap.size, args := #[] }], W1, { target := .fn (.func gf) lb, args := #[.func (.yield (w.heap.size + 1)) #[] #[]] }, W1, gf,
    #[.func (.yield (w.heap.size + 1)) #[] #[]] ++ lb, W1, ?_, ?_, fun _ _ => trivial, ?_, fun _ => by omega, ?_⟩
  · rw [← hW1, hrec]; exact run_enterLoop_outer _ _ _ _ _
  · simp only [resolve, hg]
    simp [go_sem]
  · simp [invoke, go_sem, eg]
  · have hne : w.heap.size ∉ (w.heap.size + 1) :: own := by
      simp only [List.mem_cons, not_or]; exact ⟨by omega, fun hb => by have := hown _ hb; omega⟩
    have hle : w.heap.size + 1 ∉ own := fun hb => by have := hown _ hb; omega
    have hne' : w.heap.size ∉ own := fun hb => by have := hown _ hb; omega
    refine (hseq n (w.heap.size + 1)
      (fun pre W => I pre W ∧ W.heap[w.heap.size + 1]? = some (.loop (rec .ready none)) ∧ W.heap[w.heap.size]? = some (.deferred (some [])))
      (fun W => ∃ c, Ix c W ∧ W.heap[w.heap.size + 1]? = some (.loop (rec .done (some c))) ∧ W.heap[w.heap.size]? = some (.deferred (some [])))
      W1 hC1 (fun b hb => hC1.block b (hkept b hb) (by simp)) ?_ ?_ ?_ ⟨hI _ _ _ h0 hC1.of_nil, hL1, hK1⟩).mono ?_
    · rintro pre A B ⟨hi, hl, hk⟩ hc
      exact ⟨hI _ _ _ hi (hc.mono fun s hs => .tail _ hs), (hc.block _ (Array.getElem?_eq_some_iff.1 hl).1 hle).trans hl, (hc.block _ (Array.getElem?_eq_some_iff.1 hk).1 hne').trans hk⟩
    · rintro A B ⟨c, hi, hl, hk⟩ hc
      exact ⟨c, hIx _ _ _ hi (hc.mono fun s hs => .tail _ hs), (hc.block _ (Array.getElem?_eq_some_iff.1 hl).1 hle).trans hl, (hc.block _ (Array.getElem?_eq_some_iff.1 hk).1 hne').trans hk⟩
    · rintro pre x post W hxs ⟨hi, hl, hk⟩
      have hlt : w.heap.size + 1 < W.heap.size := (Array.getElem?_eq_some_iff.1 hl).1
      have hy := run_yield (P := P) (args := encs x) hl (by rw [hrec]; exact hps x)
      rw [hrec] at hy
      refine ⟨fn, _, assign, body, hy, roundIn_of_wpIn trivial (hassign x W _ ⟨_, run_beginRound hl (by rw [hrec]), ?_⟩)⟩
      have hl2 : (W.putObj (w.heap.size + 1) (.loop { rec .ready none with state := .busy })).heap[w.heap.size + 1]? = some (.loop { rec .ready none with state := .busy }) := World.putObj_heap_same hlt
      have hk2 : (W.putObj (w.heap.size + 1) (.loop { rec .ready none with state := .busy })).heap[w.heap.size]? = some (.deferred (some [])) := (World.putObj_heap_other (by omega)).trans hk
      refine wpIn_mono (hbody pre x post _ hxs (hI _ _ _ hi ((ch_putObj _ _ _).mono fun s hs => by rw [List.mem_singleton.1 hs]; exact .head _)) (by simp; omega)) ?_
      have fin : ∀ (jump : Option Code) (W3 : World), (∀ b, (b = w.heap.size ∨ b = w.heap.size + 1 ∨ b ∈ kept) → W3.heap[b]? = (W.putObj (w.heap.size + 1) (.loop { rec .ready none with state := .busy })).heap[b]?) →
          (Instr.endRound (w.heap.size + 1) jump).run P W3 = .ok (.bool jump.isNone) (W3.putObj (w.heap.size + 1) (.loop (rec (if jump.isNone then .ready else .done) jump))) ∧
          (W3.putObj (w.heap.size + 1) (.loop (rec (if jump.isNone then .ready else .done) jump))).heap[w.heap.size + 1]? = some (.loop (rec (if jump.isNone then .ready else .done) jump)) ∧
          (W3.putObj (w.heap.size + 1) (.loop (rec (if jump.isNone then .ready else .done) jump))).heap[w.heap.size]? = some (.deferred (some [])) ∧
          (∀ b ∈ kept, (W3.putObj (w.heap.size + 1) (.loop (rec (if jump.isNone then .ready else .done) jump))).heap[b]? = W.heap[b]?) := fun jump W3 hk3 => by
        have hl3 := (hk3 _ (.inr (.inl rfl))).trans hl2
        have := run_endRound (P := P) jump hl3
        rw [hrec] at this ⊢
        refine ⟨this, World.putObj_heap_same (Array.getElem?_eq_some_iff.1 hl3).1, (World.putObj_heap_other (by omega)).trans ((hk3 _ (.inl rfl)).trans hk2), fun b hb => ?_⟩
        have hbl := hkept b hb
        exact (World.putObj_heap_other (by omega)).trans ((hk3 b (.inr (.inr hb))).trans (World.putObj_heap_other (by omega)))
      have one : ∀ s ∈ [w.heap.size + 1], s ∈ (w.heap.size + 1) :: own := fun s hs => by rw [List.mem_singleton.1 hs]; exact .head _
      rintro e a3 W3 hp
      cases e with
      | normal =>
        obtain ⟨hi3, hz3, hk3⟩ := hp
        obtain ⟨hr, hl4, hk4, hke⟩ := fin none W3 hk3
        exact ⟨_, _, hr, .inl ⟨rfl, ⟨hI _ _ _ hi3 ((ch_putObj _ _ _).mono one), hl4, hk4⟩, by simp at hz3 ⊢; exact hz3, hke⟩⟩
      | ret =>
        obtain ⟨hi3, hk3⟩ := hp
        obtain ⟨hr, hl4, hk4, hke⟩ := fin (some .ret) W3 hk3
        exact ⟨_, _, hr, .inr ⟨rfl, .ret, hIx _ _ _ hi3 ((ch_putObj _ _ _).mono one), hl4, hk4⟩⟩
      | exit id =>
        obtain ⟨hi3, hk3⟩ := hp
        obtain ⟨hr, hl4, hk4, hke⟩ := fin (some (.exit id)) W3 hk3
        exact ⟨_, _, hr, .inr ⟨rfl, .exit id, hIx _ _ _ hi3 ((ch_putObj _ _ _).mono one), hl4, hk4⟩⟩
      | goto t =>
        obtain ⟨hi3, hk3⟩ := hp
        obtain ⟨hr, hl4, hk4, hke⟩ := fin (some (.goto t)) W3 hk3
        exact ⟨_, _, hr, .inr ⟨rfl, .goto t, hIx _ _ _ hi3 ((ch_putObj _ _ _).mono one), hl4, hk4⟩⟩
      | panic ch => exact hp.elim
      | outgrown => exact hp.elim
    · have one : ∀ s ∈ [w.heap.size + 1], s ∈ (w.heap.size + 1) :: own := fun s hs => by rw [List.mem_singleton.1 hs]; exact .head _
      rintro e W2 ⟨⟨v, rfl⟩, ⟨hi, hl, hk⟩ | ⟨c, hi, hl, hk⟩⟩
      · exact ⟨none, _, by have := run_endLoop (P := P) hl (by rw [hrec]; simp); rw [hrec] at this; exact this, hdone _ (hI _ _ _ hi ((ch_putObj _ _ _).mono one)) ((World.putObj_heap_other (by omega)).trans hk)⟩
      · exact ⟨some c, _, by have := run_endLoop (P := P) hl (by rw [hrec]; simp); rw [hrec] at this; exact this, hstop c _ (hIx _ _ _ hi ((ch_putObj _ _ _).mono one)) ((World.putObj_heap_other (by omega)).trans hk)⟩
/-- The end of a function that held such a loop. -/
theorem marks_ret {P : Program} {fn : Func} {R : Ending → World → Prop} {tmps : Array Value} {n D : Nat} {W : World} {v : Value} (hk : W.heap[D]? = some (.deferred (some [])))
    (hr : (results fn tmps).run P (W.putObj D (.deferred none)) = .ok v (W.putObj D (.deferred none))) (hR : R (.returned v) (W.putObj D (.deferred none))) :
    bodyPostM Wd n P fn R .ret { tmps, defers := [{ target := .collected D, args := #[] }] } W :=
  ⟨by simp, .inl ⟨_, _, rfl, run_takeDeferred hk, ⟨_, hr, hR⟩⟩⟩
theorem marks_end {P : Program} {fn : Func} {R : Ending → World → Prop} {tmps : Array Value} {n D : Nat} {W : World} {v : Value} (hk : W.heap[D]? = some (.deferred (some [])))
    (hr : (results fn tmps).run P (W.putObj D (.deferred none)) = .ok v (W.putObj D (.deferred none))) (hR : R (.returned v) (W.putObj D (.deferred none))) :
    bodyPostM Wd n P fn R .normal { tmps, defers := [{ target := .collected D, args := #[] }] } W :=
  ⟨by simp, .inl ⟨_, _, rfl, run_takeDeferred hk, ⟨_, hr, hR⟩⟩⟩
theorem marks_panic {P : Program} {fn : Func} {R : Ending → World → Prop} {tmps : Array Value} {n D : Nat} {W : World} {ch : List PanicEntry} (hk : W.heap[D]? = some (.deferred (some [])))
    (hR : R (.panicked ch) (W.putObj D (.deferred none))) :
    bodyPostM Wd n P fn R (.panic ch) { tmps, defers := [{ target := .collected D, args := #[] }] } W :=
  ⟨by simp, .inl ⟨_, _, rfl, run_takeDeferred hk, hR⟩⟩
theorem heap_putObj (w : World) (r k : Nat) (o : Obj) : (w.putObj r o).heap[k]? = if k = r then (if r < w.heap.size then some o else none) else w.heap[k]? := by
  by_cases h : k = r
  · subst h; rw [if_pos rfl]
    by_cases h2 : k < w.heap.size
    · rw [if_pos h2, World.putObj_heap_same h2]
    · rw [if_neg h2]; apply Array.getElem?_eq_none; simp; omega
  · rw [if_neg h, World.putObj_heap_other h]
end Go.Proofs.Hc
/- Package probe: the row of two groups. -/
namespace Go.Proofs.Hc
open Go.RowKit
attribute [local go_sem] wrap_u64 wrap_u8 bits_xor64 bits_and64 bits_or64 bits_not64 bits_xor8 bits_and8 bits_or8 signed64 signed8 ofInt_N BitVec.ofInt_add BitVec.ofInt_mul ofInt_sub' ofInt8_N64 ofInt64_N8 wide8 eqN neN shr_pow shr1 shr7 shr56
attribute [local go_sem high] bits_com64 shl_wrap
attribute [local go_sem] nn2 nm2 nn3 nm3 nn4 nm4 nn5 nm5 nn6 nm6 nn7 nm7 nn8 nm8
attribute [local go_sem] Oper.semAt_some make_func1
attribute [local go_sem] cell_heap ice_heap cellAt_cells iceAt_cells setAt_cells size_setCell
attribute [local go_sem ↓] heap_alloc heap_drew heap_drewN heap_setCell
/-- The first group of two. -/
def g0 (h : BitVec 64) : Nat := if h &&& 1#64 = 0#64 then 0 else 1
theorem and_one (h : BitVec 64) : h &&& 1#64 = 0#64 ∨ h &&& 1#64 = 1#64 := by
  have e : (h &&& 1#64).toNat = h.toNat % 2 := by rw [BitVec.toNat_and]; exact Nat.and_one_is_mod _
  rcases Nat.mod_two_eq_zero_or_one h.toNat with h1 | h1
  · exact .inl (BitVec.eq_of_toNat_eq (by rw [e, h1]; rfl))
  · exact .inr (BitVec.eq_of_toNat_eq (by rw [e, h1]; rfl))
theorem g0_lt (h : BitVec 64) : g0 h < 2 := by unfold g0; split <;> omega
theorem pcheck2 (w : World) : Calls Tryz.prog 238 #[I 2] w fun e w' => e = .returned (I 0) ∧ w = w' := by
  go_enter Tryz.func238, Tryz.ntmps238
  go_wp2
  go_ret
  exact ⟨rfl, rfl⟩
theorem first2 (h : BitVec 64) (w : World) : Calls Tryz.prog 259 #[I 2, U h] w fun e w' => e = .returned (I (g0 h)) ∧ w = w' := by
  have h1 : BitVec.ofInt 64 1 = 1#64 := by decide
  go_enter Tryz.func259, Tryz.ntmps259
  rcases and_one h with e | e
  · have hg : g0 h = 0 := by unfold g0; rw [if_pos e]
    rw [hg]
    go_wp2
    go_ret
    exact ⟨by kernel_rfl, rfl⟩
  · have hg : g0 h = 1 := by unfold g0; rw [if_neg (by rw [e]; decide)]
    rw [hg]
    go_wp2
    go_ret
    exact ⟨by kernel_rfl, rfl⟩
theorem all_any2 (h : BitVec 64) (w : World) :
    Calls Tryz.prog 255 #[I 2, U h] w fun e w' => e = .returned (.func (.func 260) #[] #[.pointer (some ⟨w.heap.size, 0, none⟩), .pointer (some ⟨w.heap.size + 1, 0, none⟩)]) ∧
      w' = (w.alloc (.cells #[I 2] 3)).alloc (.cells #[U h] 22) := by
  go_enter Tryz.func255, Tryz.ntmps255
  go_wp2
  go_ret
  exact ⟨rfl, rfl⟩
theorem enters_all (args : Array Value) (w : World) : (callFunc 260 args).run Tryz.prog w = .ok (.enter 260 args) w := by kernel_rfl
/-- The pairs that the row of two tells. -/
def pairs2 (g : Nat) : List (Nat × Nat) := [(0, g), (1, 1 - g)]
theorem bits11 : bits .and .i64 1 1 = 1 := by kernel_rfl
theorem bits21 : bits .and .i64 2 1 = 0 := by kernel_rfl
theorem bits31 : bits .and .i64 3 1 = 1 := by kernel_rfl
attribute [local go_sem] bits11 bits21 bits31
set_option maxRecDepth 100000 in
theorem all_yields (h : BitVec 64) (b c : Nat) (w : World) (hb : w.heap[b]? = some (.cells #[I 2] 3 (0, 0))) (hc : w.heap[c]? = some (.cells #[U h] 22 (0, 0))) :
    Yields Tryz.prog 260 #[.pointer (some ⟨b, 0, none⟩), .pointer (some ⟨c, 0, none⟩)] (fun p : Nat × Nat => #[I p.1, I p.2]) (pairs2 (g0 h)) [] [b, c] w := by
  intro n l J Jx W hW hk hJ hJx hY h0
  have hb' := (hk b (by simp)).trans hb
  have hc' := (hk c (by simp)).trans hc
  have hg := g0_lt h
  have F1 := fun w => first2 h w
  generalize g0 h = g at *
  refine callsIn_of_wp Tryz.func260 rfl trivial ?_
  simp only [Tryz.ntmps260, List.size_toArray, List.length_cons, List.length_nil, Nat.reduceAdd, Nat.reduceSub, Array.replicate_succ, Array.replicate_zero, List.push_toArray, List.append_toArray, List.nil_append, List.cons_append]
  refine wpIn_wide.2 ?_
  apply wp_scope_straight
  refine (wpIn_wide (n := n + 1)).1 ?_
  gi_wp2_with (refine ⟨trivial, ?_⟩; gi_at_call 259; refine (callsIn_wide.2 (F1 _)).mono ?_; rintro e w' ⟨rfl, rfl⟩)
  apply wpIn_label
  gi_wp2
  refine wpIn_loop_rounds 3 ?_
  rw [roundsIn_succ]
  obtain ⟨fn, tmps, assign, body, hy, hR⟩ := hY [] (0, g) [(1, 1 - g)] W rfl h0
  have hy : Sem.run Tryz.prog (Instr.yield l #[.int .i64 0, I g]) W = .ok (.round l fn tmps assign body) W := hy
  gi_wp2
  refine hR.mono ?_
  clear hy hR
  rintro e W3 (⟨rfl, hJ3, hz3, hk3⟩ | ⟨rfl, hJx3⟩)
  · have hb3 := (hk3 b (by simp)).trans hb'
    clear hk3
    obtain ⟨fn2, tmps2, assign2, body2, hy2, hR2⟩ := hY [(0, g)] (1, 1 - g) [] W3 rfl hJ3
    have hy2 : Sem.run Tryz.prog (Instr.yield l #[.int .i64 1, I (1 - g : Nat)]) W3 = .ok (.round l fn2 tmps2 assign2 body2) W3 := hy2
    have hcase : g = 0 ∨ g = 1 := by omega
    rcases hcase with rfl | rfl
    · have hy2 : Sem.run Tryz.prog (Instr.yield l #[.int .i64 1, .int .i64 1]) W3 = .ok (.round l fn2 tmps2 assign2 body2) W3 := hy2
      gi_wp2
      rw [roundsIn_succ]
      gi_wp2
      refine hR2.mono ?_
      clear hy2 hR2
      rintro e W4 (⟨rfl, hJ4, hz4, hk4⟩ | ⟨rfl, hJx4⟩)
      · have hb4 := (hk4 b (by simp)).trans hb3
        clear hk4
        gi_wp2
        rw [roundsIn_succ]
        gi_wp2
        rw [Exit.noGoto_normal]
        refine bodyPost_end (results_none rfl _ _ _) rfl ?_
        exact ⟨⟨_, rfl⟩, .inl hJ4⟩
      · gi_wp2
        rw [Exit.noGoto_normal]
        refine bodyPost_end (results_none rfl _ _ _) rfl ?_
        exact ⟨⟨_, rfl⟩, .inr hJx4⟩
    · have hy2 : Sem.run Tryz.prog (Instr.yield l #[.int .i64 1, .int .i64 0]) W3 = .ok (.round l fn2 tmps2 assign2 body2) W3 := hy2
      gi_wp2
      rw [roundsIn_succ]
      gi_wp2
      refine hR2.mono ?_
      clear hy2 hR2
      rintro e W4 (⟨rfl, hJ4, hz4, hk4⟩ | ⟨rfl, hJx4⟩)
      · have hb4 := (hk4 b (by simp)).trans hb3
        clear hk4
        gi_wp2
        rw [roundsIn_succ]
        gi_wp2
        rw [Exit.noGoto_normal]
        refine bodyPost_end (results_none rfl _ _ _) rfl ?_
        exact ⟨⟨_, rfl⟩, .inl hJ4⟩
      · gi_wp2
        rw [Exit.noGoto_normal]
        refine bodyPost_end (results_none rfl _ _ _) rfl ?_
        exact ⟨⟨_, rfl⟩, .inr hJx4⟩
  · gi_wp2
    rw [Exit.noGoto_normal]
    refine bodyPost_end (results_none rfl _ _ _) rfl ?_
    exact ⟨⟨_, rfl⟩, .inr hJx3⟩
end Go.Proofs.Hc
/- Package probe: At. -/
namespace Go.Proofs.Hc
open Go.RowKit
attribute [local go_sem] wrap_u64 wrap_u8 bits_xor64 bits_and64 bits_or64 bits_not64 bits_xor8 bits_and8 bits_or8 signed64 signed8 ofInt_N BitVec.ofInt_add BitVec.ofInt_mul ofInt_sub' ofInt8_N64 ofInt64_N8 wide8 eqN neN shr_pow shr1 shr7 shr56
attribute [local go_sem high] bits_com64 shl_wrap
attribute [local go_sem] cell_heap ice_heap cellAt_cells iceAt_cells setAt_cells rowAt_cells canLay_cells laidAt_cells size_onObj size_setCell rowRes_some layRes_true
attribute [local go_sem] load26 load73 load23 store26 build73
attribute [local go_sem ↓] lrow26 lrow73 lrow23 srow26 zero26 brow73 heap_alloc heap_drew heap_drewN heap_setCell heap_onObj
attribute [local go_sem] tcells_size hcells_size tcells_get hcells_get tcells_one hcells_one hcells_table tcells_table hcells_all hcells_ctrl tcells_ctrl
attribute [local go_sem] nn2 nm2 nn3 nm3 nn4 nm4 nn5 nm5 nn6 nm6 nn7 nm7 nn8 nm8
attribute [local go_sem] nn2 nm2 nn3 nm3 nn4 nm4 nn5 nm5 nn6 nm6 nn7 nm7 nn8 nm8
attribute [local go_sem] ofInt_N
theorem jump_ret (l : Nat) (J : Act → World → Prop) (Q : Exit → Act → World → Prop) (a : Act) (w : World) : Exit.jump l J Q .ret a w = Q .ret a w := rfl
theorem and01 : bits .and .i64 0 1 = 0 := by kernel_rfl
theorem and11 : bits .and .i64 1 1 = 1 := by kernel_rfl
theorem and21 : bits .and .i64 2 1 = 0 := by kernel_rfl
attribute [local go_sem] and01 and11 and21
set_option maxHeartbeats 400000 in
set_option maxRecDepth 100000 in
theorem pAt0_any (h : BitVec 64) (w : World) : Calls Tryz.prog 254 #[.int .i64 2, U h, .int .i64 0] w fun e w' => e = .returned (.tuple #[I ((g0 h : Nat) : Int), I 0]) ∧ w = w' := by
  have hg := g0_lt h
  have F1 := fun w => first2 h w
  have C1 := fun w => pcheck2 w
  generalize g0 h = g at *
  rcases (show g = 0 ∨ g = 1 by omega) with rfl | rfl
  all_goals
    go_enter Tryz.func254, Tryz.ntmps254
    go_wp2
    go_step3
    go_wp2_with (first
      | (go_at_call 238; refine (C1 _).mono ?_; rintro e w' ⟨rfl, rfl⟩)
      | (go_at_call 259; refine (F1 _).mono ?_; rintro e w' ⟨rfl, rfl⟩))
    go_step3
    go_wp2
    rw [Exit.noGoto_ret]
    go_ret2
    exact ⟨rfl, rfl⟩
set_option maxHeartbeats 400000 in
set_option maxRecDepth 100000 in
theorem pAt1_any (h : BitVec 64) (w : World) : Calls Tryz.prog 254 #[.int .i64 2, U h, .int .i64 1] w fun e w' => e = .returned (.tuple #[I (((g0 h + 1) % 2 : Nat) : Int), I 0]) ∧ w = w' := by
  have hg := g0_lt h
  have F1 := fun w => first2 h w
  have C1 := fun w => pcheck2 w
  generalize g0 h = g at *
  rcases (show g = 0 ∨ g = 1 by omega) with rfl | rfl
  · go_enter Tryz.func254, Tryz.ntmps254
    go_wp2
    refine wp_scope_jumps 0 (fun a w' => a = ⟨#[.int .i64 2, U h, .int .i64 1, undef, undef, undef, .int .i64 0, .int .i64 0, .int .i64 1, .int .i64 1, .bool false, .int .i64 2, I 0, .bool false, .bool false, .int .i64 1, .bool false, .bool false, .int .i64 1, .int .i64 2, .bool false, .bool false, .int .i64 2, U h, I 0, .int .i64 0, .int .i64 1, .bool true, .int .i64 0, .int .i64 1, I 0, .int .i64 1, .int .i64 1, undef, undef, undef, undef], []⟩ ∧ w' = w) (fun _ _ => 0) rfl ?_ ?_
    · go_wp2_with (first
        | (go_at_call 238; refine (C1 _).mono ?_; rintro e w' ⟨rfl, rfl⟩)
        | (go_at_call 259; refine (F1 _).mono ?_; rintro e w' ⟨rfl, rfl⟩))
      go_step3
      go_wp2
      go_step3
      exact ⟨rfl, rfl, rfl⟩
    · rintro a0 w0 ⟨rfl, rfl⟩
      go_wp2
      rw [jump_ret]
      go_ret2
      exact ⟨rfl, rfl⟩
  · go_enter Tryz.func254, Tryz.ntmps254
    go_wp2
    refine wp_scope_jumps 0 (fun a w' => a = ⟨#[.int .i64 2, U h, .int .i64 1, undef, undef, undef, .int .i64 0, .int .i64 0, .int .i64 2, .int .i64 1, .bool false, .int .i64 2, I 0, .bool false, .bool false, .int .i64 1, .bool false, .bool false, .int .i64 1, .int .i64 2, .bool false, .bool false, .int .i64 2, U h, I 1, .int .i64 0, .int .i64 1, .bool true, .int .i64 0, .int .i64 1, I 1, .int .i64 1, .int .i64 2, undef, undef, undef, undef], []⟩ ∧ w' = w) (fun _ _ => 0) rfl ?_ ?_
    · go_wp2_with (first
        | (go_at_call 238; refine (C1 _).mono ?_; rintro e w' ⟨rfl, rfl⟩)
        | (go_at_call 259; refine (F1 _).mono ?_; rintro e w' ⟨rfl, rfl⟩))
      go_step3
      go_wp2
      go_step3
      exact ⟨rfl, rfl, rfl⟩
    · rintro a0 w0 ⟨rfl, rfl⟩
      go_wp2
      rw [jump_ret]
      go_ret2
      exact ⟨rfl, rfl⟩
end Go.Proofs.Hc
