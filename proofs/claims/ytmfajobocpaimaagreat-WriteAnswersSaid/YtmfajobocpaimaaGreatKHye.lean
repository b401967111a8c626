/- A range over a function: the iterator's contract, and the law of the loop. -/
import Derived.Test.YtmfajobocpaimaaGreatKHmet
import Derived.Test.YtmfajobocpaimaaGreatKHm
import Derived.Below
import Derived.BigQuiet
import Derived.Deep.Draws
import Derived.Deep.QuietTactic
import Derived.Laws.CopyRow
import Derived.Laws.Tables
import Derived.Lib.Hide
import Derived.LoopIn
import Derived.LoopNIn
import Derived.OwnWalkIn
import Derived.RangeFuncCalls
import Derived.RangeFuncRecord
import Derived.RangeFuncSeq
import Derived.TacticsInMore
import Derived.Test.YtmfajobocpaimaaGreatProg
import Derived.WalkKit
import Derived.Lib.Tables
import Derived.Maps.AppendAt
import Derived.RangeFuncBox
import Derived.Recover
import Derived.RegionTactic
import Derived.StillTail
import Derived.WalkLawsBesides
import Derived.WalkMore
import Derived.WalkSpells
import Derived.Shelf.Slices.Clone
import Derived.Deep.RegionHeld
import Derived.ChangeKeysEq
import Derived.Laws.StructEq
set_option linter.unusedSimpArgs false
set_option linter.unusedVariables false
namespace Go.Proofs.Hc
open Go.RowKit
/-- The wide fence's depth. -/
abbrev Wd : Fence := Fence.wide
/-- The iterator g, captured lb, hands on xs, one by one; it changes the blocks own, and needs that the blocks kept lie as it left them when a round is over. -/
def Yields {α : Type} (P : Program) (g : Nat) (lb : Array Value) (encs : α → Array Value) (xs : List α) (own kept : List Nat) (w : World) : Prop :=
  ∀ (n l : Nat) (J : List α → World → Prop) (Jx : World → Prop) (W : World), Ch [] w W → (∀ b ∈ kept, W.heap[b]? = w.heap[b]?) →
    (∀ pre A B, J pre A → Ch own A B → J pre B) → (∀ A B, Jx A → Ch own A B → Jx B) →
    (∀ pre x post W1, xs = pre ++ x :: post → J pre W1 → YieldAt Wd n P l (encs x) W1 fun e W' =>
      (e = .returned (.bool true) ∧ J (pre ++ [x]) W' ∧ W1.heap.size ≤ W'.heap.size ∧ ∀ b ∈ kept, W'.heap[b]? = W1.heap[b]?) ∨ (e = .returned (.bool false) ∧ Jx W')) →
    J [] W →
    CallsIn Wd (n + 1) P g (#[.func (.yield l) #[] #[]] ++ lb) W fun e W' => (∃ v, e = .returned v) ∧ (J xs W' ∨ Jx W')
/-- How the body of a round may be left. -/
def bodyQ (I : World → Prop) (Ix : Code → World → Prop) (keep : Nat → Prop) (W : World) : Exit → Act → World → Prop
  | .normal, _, W' => I W' ∧ W.heap.size ≤ W'.heap.size ∧ ∀ b, keep b → W'.heap[b]? = W.heap[b]?
  | .ret, _, W' => Ix .ret W' ∧ ∀ b, keep b → W'.heap[b]? = W.heap[b]?
  | .exit id, _, W' => Ix (.exit id) W' ∧ ∀ b, keep b → W'.heap[b]? = W.heap[b]?
  | .goto t, _, W' => Ix (.goto t) W' ∧ ∀ b, keep b → W'.heap[b]? = W.heap[b]?
  | .panic _, _, _ => False
  | .outgrown, _, _ => False
theorem ch_putObj (w : World) (l : Nat) (o : Obj) : Ch [l] w (w.putObj l o) :=
  ⟨rfl, rfl, rfl, by simp, fun k _ hn => World.putObj_heap_other (by simpa using hn)⟩
theorem range_law {α : Type} {P : Program} {n : Nat} {g : Operand} {ps : Array Tmp} {assign body : Code} {Q : Exit → Act → World → Prop} {a : Act} {w : World}
    {gf : Nat} {lb : Array Value} (hg : a.eval g = .func (.func gf) #[] lb) (eg : ∀ args w, (callFunc gf args).run P w = .ok (.enter gf args) w)
    {encs : α → Array Value} {xs : List α} {own kept : List Nat} (hseq : Yields P gf lb encs xs own kept w) (hps : ∀ x, (encs x).size = ps.size)
    (hown : ∀ b ∈ own, b < w.heap.size) (hkept : ∀ b ∈ kept, b < w.heap.size)
    (I : List α → World → Prop) (Ix : Code → World → Prop)
    (hI : ∀ pre A B, I pre A → Ch ((w.heap.size + 1) :: own) A B → I pre B) (hIx : ∀ c A B, Ix c A → Ch ((w.heap.size + 1) :: own) A B → Ix c B) (h0 : I [] w) (a₁ : α → Act)
    (hassign : ∀ (x : α) (W : World) (K : Act → World → Prop), K (a₁ x) W →
      assign.wpIn (Wd.inRound (w.heap.size + 1)) n P (Exit.then K (fun _ _ _ => False)) { tmps := (ps.zip (encs x)).foldl (fun t (p, v) => t.setIfInBounds p v) a.tmps, defers := [] } W)
    (hbody : ∀ (pre : List α) (x : α) (post : List α) (W : World), xs = pre ++ x :: post → I pre W → w.heap.size + 2 ≤ W.heap.size →
      body.wpIn (Wd.inRound (w.heap.size + 1)) n P (bodyQ (I (pre ++ [x])) Ix (fun b => b = w.heap.size ∨ b = w.heap.size + 1 ∨ b ∈ kept) W) (a₁ x) W)
    (hdone : ∀ (W : World), I xs W → W.heap[w.heap.size]? = some (.deferred (some [])) → Q .normal { a with defers := { target := .collected w.heap.size, args := #[] } :: a.defers } W)
    (hstop : ∀ (c : Code) (W : World), Ix c W → W.heap[w.heap.size]? = some (.deferred (some [])) → c.wpIn Wd (n + 2) P Q { a with defers := { target := .collected w.heap.size, args := #[] } :: a.defers } W) :
    (Code.rangeFunc g ps assign body).wpIn Wd (n + 2) P Q a w := by
  refine wpIn_rangeFunc ?_
  intro fn hfn
  rw [show Wd.round = none from rfl]
  obtain ⟨rec, hrec⟩ : ∃ rec : LoopState → Option Code → Loop, rec = fun st pe => { state := st, pending := pe, fn, tmps := a.tmps, params := ps, assign, body, defers := w.heap.size } := ⟨_, rfl⟩
  obtain ⟨W1, hW1⟩ : ∃ W1, (w.alloc (.deferred (some []))).alloc (.loop (rec .ready none)) = W1 := ⟨_, rfl⟩
  have hL1 : W1.heap[w.heap.size + 1]? = some (.loop (rec .ready none)) := by
    rw [← hW1, heap_alloc, if_pos (by simp)]
  have hK1 : W1.heap[w.heap.size]? = some (.deferred (some [])) := by
    rw [← hW1, heap_alloc, if_neg (by simp), heap_alloc, if_pos rfl]
  have hC1 : Ch [] w W1 := by rw [← hW1]; exact ((Ch.refl [] w).alloc _).alloc _
  have hsz1 : W1.heap.size = w.heap.size + 2 := by rw [← hW1]; simp
  refine ⟨w.heap.size + 1, [{ target := .collected w.heap.size, args := #[] }], W1, { target := .fn (.func gf) lb, args := #[.func (.yield (w.heap.size + 1)) #[] #[]] }, W1, gf,
    #[.func (.yield (w.heap.size + 1)) #[] #[]] ++ lb, W1, ?_, ?_, fun _ _ => trivial, ?_, fun _ => by omega, ?_⟩
  · rw [← hW1, hrec]; exact run_enterLoop_outer _ _ _ _ _
  · simp only [resolve, hg]
    simp [go_sem]
  · simp [invoke, go_sem, eg]
  · have hne : w.heap.size ∉ (w.heap.size + 1) :: own := by
      simp only [List.mem_cons, not_or]; exact ⟨by omega, fun hb => by have := hown _ hb; omega⟩
    have hle : w.heap.size + 1 ∉ own := fun hb => by have := hown _ hb; omega
    have hne' : w.heap.size ∉ own := fun hb => by have := hown _ hb; omega
    refine (hseq n (w.heap.size + 1)
      (fun pre W => I pre W ∧ W.heap[w.heap.size + 1]? = some (.loop (rec .ready none)) ∧ W.heap[w.heap.size]? = some (.deferred (some [])))
      (fun W => ∃ c, Ix c W ∧ W.heap[w.heap.size + 1]? = some (.loop (rec .done (some c))) ∧ W.heap[w.heap.size]? = some (.deferred (some [])))
      W1 hC1 (fun b hb => hC1.block b (hkept b hb) (by simp)) ?_ ?_ ?_ ⟨hI _ _ _ h0 hC1.of_nil, hL1, hK1⟩).mono ?_
    · rintro pre A B ⟨hi, hl, hk⟩ hc
      exact ⟨hI _ _ _ hi (hc.mono fun s hs => .tail _ hs), (hc.block _ (Array.getElem?_eq_some_iff.1 hl).1 hle).trans hl, (hc.block _ (Array.getElem?_eq_some_iff.1 hk).1 hne').trans hk⟩
    · rintro A B ⟨c, hi, hl, hk⟩ hc
      exact ⟨c, hIx _ _ _ hi (hc.mono fun s hs => .tail _ hs), (hc.block _ (Array.getElem?_eq_some_iff.1 hl).1 hle).trans hl, (hc.block _ (Array.getElem?_eq_some_iff.1 hk).1 hne').trans hk⟩
    · rintro pre x post W hxs ⟨hi, hl, hk⟩
      have hlt : w.heap.size + 1 < W.heap.size := (Array.getElem?_eq_some_iff.1 hl).1
      have hy := run_yield (P := P) (args := encs x) hl (by rw [hrec]; exact hps x)
      rw [hrec] at hy
      refine ⟨fn, _, assign, body, hy, roundIn_of_wpIn trivial (hassign x W _ ⟨_, run_beginRound hl (by rw [hrec]), ?_⟩)⟩
      have hl2 : (W.putObj (w.heap.size + 1) (.loop { rec .ready none with state := .busy })).heap[w.heap.size + 1]? = some (.loop { rec .ready none with state := .busy }) := World.putObj_heap_same hlt
      have hk2 : (W.putObj (w.heap.size + 1) (.loop { rec .ready none with state := .busy })).heap[w.heap.size]? = some (.deferred (some [])) := (World.putObj_heap_other (by omega)).trans hk
      refine wpIn_mono (hbody pre x post _ hxs (hI _ _ _ hi ((ch_putObj _ _ _).mono fun s hs => by rw [List.mem_singleton.1 hs]; exact .head _)) (by simp; omega)) ?_
      have fin : ∀ (jump : Option Code) (W3 : World), (∀ b, (b = w.heap.size ∨ b = w.heap.size + 1 ∨ b ∈ kept) → W3.heap[b]? = (W.putObj (w.heap.size + 1) (.loop { rec .ready none with state := .busy })).heap[b]?) →
          (Instr.endRound (w.heap.size + 1) jump).run P W3 = .ok (.bool jump.isNone) (W3.putObj (w.heap.size + 1) (.loop (rec (if jump.isNone then .ready else .done) jump))) ∧
          (W3.putObj (w.heap.size + 1) (.loop (rec (if jump.isNone then .ready else .done) jump))).heap[w.heap.size + 1]? = some (.loop (rec (if jump.isNone then .ready else .done) jump)) ∧
          (W3.putObj (w.heap.size + 1) (.loop (rec (if jump.isNone then .ready else .done) jump))).heap[w.heap.size]? = some (.deferred (some [])) ∧
          (∀ b ∈ kept, (W3.putObj (w.heap.size + 1) (.loop (rec (if jump.isNone then .ready else .done) jump))).heap[b]? = W.heap[b]?) := fun jump W3 hk3 => by
        have hl3 := (hk3 _ (.inr (.inl rfl))).trans hl2
        have := run_endRound (P := P) jump hl3
        rw [hrec] at this ⊢
        refine ⟨this, World.putObj_heap_same (Array.getElem?_eq_some_iff.1 hl3).1, (World.putObj_heap_other (by omega)).trans ((hk3 _ (.inl rfl)).trans hk2), fun b hb => ?_⟩
        have hbl := hkept b hb
        exact (World.putObj_heap_other (by omega)).trans ((hk3 b (.inr (.inr hb))).trans (World.putObj_heap_other (by omega)))
      have one : ∀ s ∈ [w.heap.size + 1], s ∈ (w.heap.size + 1) :: own := fun s hs => by rw [List.mem_singleton.1 hs]; exact .head _
      rintro e a3 W3 hp
      cases e with
      | normal =>
        obtain ⟨hi3, hz3, hk3⟩ := hp
        obtain ⟨hr, hl4, hk4, hke⟩ := fin none W3 hk3
        exact ⟨_, _, hr, .inl ⟨rfl, ⟨hI _ _ _ hi3 ((ch_putObj _ _ _).mono one), hl4, hk4⟩, by simp at hz3 ⊢; exact hz3, hke⟩⟩
      | ret =>
        obtain ⟨hi3, hk3⟩ := hp
        obtain ⟨hr, hl4, hk4, hke⟩ := fin (some .ret) W3 hk3
        exact ⟨_, _, hr, .inr ⟨rfl, .ret, hIx _ _ _ hi3 ((ch_putObj _ _ _).mono one), hl4, hk4⟩⟩
      | exit id =>
        obtain ⟨hi3, hk3⟩ := hp
        obtain ⟨hr, hl4, hk4, hke⟩ := fin (some (.exit id)) W3 hk3
        exact ⟨_, _, hr, .inr ⟨rfl, .exit id, hIx _ _ _ hi3 ((ch_putObj _ _ _).mono one), hl4, hk4⟩⟩
      | goto t =>
        obtain ⟨hi3, hk3⟩ := hp
        obtain ⟨hr, hl4, hk4, hke⟩ := fin (some (.goto t)) W3 hk3
        exact ⟨_, _, hr, .inr ⟨rfl, .goto t, hIx _ _ _ hi3 ((ch_putObj _ _ _).mono one), hl4, hk4⟩⟩
      | panic ch => exact hp.elim
      | outgrown => exact hp.elim
    · have one : ∀ s ∈ [w.heap.size + 1], s ∈ (w.heap.size + 1) :: own := fun s hs => by rw [List.mem_singleton.1 hs]; exact .head _
      rintro e W2 ⟨⟨v, rfl⟩, ⟨hi, hl, hk⟩ | ⟨c, hi, hl, hk⟩⟩
      · exact ⟨none, _, by have := run_endLoop (P := P) hl (by rw [hrec]; simp); rw [hrec] at this; exact this, hdone _ (hI _ _ _ hi ((ch_putObj _ _ _).mono one)) ((World.putObj_heap_other (by omega)).trans hk)⟩
      · exact ⟨some c, _, by have := run_endLoop (P := P) hl (by rw [hrec]; simp); rw [hrec] at this; exact this, hstop c _ (hIx _ _ _ hi ((ch_putObj _ _ _).mono one)) ((World.putObj_heap_other (by omega)).trans hk)⟩
/-- The end of a function that held such a loop. -/
theorem marks_ret {P : Program} {fn : Func} {R : Ending → World → Prop} {tmps : Array Value} {n D : Nat} {W : World} {v : Value} (hk : W.heap[D]? = some (.deferred (some [])))
    (hr : (results fn tmps).run P (W.putObj D (.deferred none)) = .ok v (W.putObj D (.deferred none))) (hR : R (.returned v) (W.putObj D (.deferred none))) :
    bodyPostM Wd n P fn R .ret { tmps, defers := [{ target := .collected D, args := #[] }] } W :=
  ⟨by simp, .inl ⟨_, _, rfl, run_takeDeferred hk, ⟨_, hr, hR⟩⟩⟩
theorem marks_end {P : Program} {fn : Func} {R : Ending → World → Prop} {tmps : Array Value} {n D : Nat} {W : World} {v : Value} (hk : W.heap[D]? = some (.deferred (some [])))
    (hr : (results fn tmps).run P (W.putObj D (.deferred none)) = .ok v (W.putObj D (.deferred none))) (hR : R (.returned v) (W.putObj D (.deferred none))) :
    bodyPostM Wd n P fn R .normal { tmps, defers := [{ target := .collected D, args := #[] }] } W :=
  ⟨by simp, .inl ⟨_, _, rfl, run_takeDeferred hk, ⟨_, hr, hR⟩⟩⟩
theorem heap_putObj (w : World) (r k : Nat) (o : Obj) : (w.putObj r o).heap[k]? = if k = r then (if r < w.heap.size then some o else none) else w.heap[k]? := by
  by_cases h : k = r
  · subst h; rw [if_pos rfl]
    by_cases h2 : k < w.heap.size
    · rw [if_pos h2, World.putObj_heap_same h2]
    · rw [if_neg h2]; apply Array.getElem?_eq_none; simp; omega
  · rw [if_neg h, World.putObj_heap_other h]
end Go.Proofs.Hc
/- Package probe: the row of two groups. -/
namespace Go.Proofs.Hc
open Go.RowKit
attribute [local go_sem] wrap_u64 wrap_u8 bits_xor64 bits_and64 bits_or64 bits_not64 bits_xor8 bits_and8 bits_or8 signed64 signed8 ofInt_N BitVec.ofInt_add BitVec.ofInt_mul ofInt_sub' ofInt8_N64 ofInt64_N8 wide8 eqN neN shr_pow shr1 shr7 shr56
attribute [local go_sem high] bits_com64 shl_wrap
attribute [local go_sem] nn2 nm2 nn3 nm3 nn4 nm4 nn5 nm5 nn6 nm6 nn7 nm7 nn8 nm8
attribute [local go_sem] Oper.semAt_some make_func1
attribute [local go_sem] cell_heap ice_heap cellAt_cells iceAt_cells setAt_cells size_setCell
attribute [local go_sem ↓] heap_alloc heap_drew heap_drewN heap_setCell
/-- The first group of two. -/
def g0 (h : BitVec 64) : Nat := if h &&& 1#64 = 0#64 then 0 else 1
theorem and_one (h : BitVec 64) : h &&& 1#64 = 0#64 ∨ h &&& 1#64 = 1#64 := by
  have e : (h &&& 1#64).toNat = h.toNat % 2 := by rw [BitVec.toNat_and]; exact Nat.and_one_is_mod _
  rcases Nat.mod_two_eq_zero_or_one h.toNat with h1 | h1
  · exact .inl (BitVec.eq_of_toNat_eq (by rw [e, h1]; rfl))
  · exact .inr (BitVec.eq_of_toNat_eq (by rw [e, h1]; rfl))
theorem g0_lt (h : BitVec 64) : g0 h < 2 := by unfold g0; split <;> omega
theorem pcheck2 (w : World) : Calls Tryz.prog 238 #[I 2] w fun e w' => e = .returned (I 0) ∧ w = w' := by
  go_enter Tryz.func238, Tryz.ntmps238
  go_wp2
  go_ret
  exact ⟨rfl, rfl⟩
theorem first2 (h : BitVec 64) (w : World) : Calls Tryz.prog 259 #[I 2, U h] w fun e w' => e = .returned (I (g0 h)) ∧ w = w' := by
  have h1 : BitVec.ofInt 64 1 = 1#64 := by decide
  go_enter Tryz.func259, Tryz.ntmps259
  rcases and_one h with e | e
  · have hg : g0 h = 0 := by unfold g0; rw [if_pos e]
    rw [hg]
    go_wp2
    go_ret
    exact ⟨by kernel_rfl, rfl⟩
  · have hg : g0 h = 1 := by unfold g0; rw [if_neg (by rw [e]; decide)]
    rw [hg]
    go_wp2
    go_ret
    exact ⟨by kernel_rfl, rfl⟩
theorem all_any2 (h : BitVec 64) (w : World) :
    Calls Tryz.prog 255 #[I 2, U h] w fun e w' => e = .returned (.func (.func 260) #[] #[.pointer (some ⟨w.heap.size, 0, none⟩), .pointer (some ⟨w.heap.size + 1, 0, none⟩)]) ∧
      w' = (w.alloc (.cells #[I 2] 3)).alloc (.cells #[U h] 22) := by
  go_enter Tryz.func255, Tryz.ntmps255
  go_wp2
  go_ret
  exact ⟨rfl, rfl⟩
theorem enters_all (args : Array Value) (w : World) : (callFunc 260 args).run Tryz.prog w = .ok (.enter 260 args) w := by kernel_rfl
/-- The pairs that the row of two tells. -/
def pairs2 (g : Nat) : List (Nat × Nat) := [(0, g), (1, 1 - g)]
theorem bits11 : bits .and .i64 1 1 = 1 := by kernel_rfl
theorem bits21 : bits .and .i64 2 1 = 0 := by kernel_rfl
theorem bits31 : bits .and .i64 3 1 = 1 := by kernel_rfl
attribute [local go_sem] bits11 bits21 bits31
set_option maxRecDepth 100000 in
theorem all_yields (h : BitVec 64) (b c : Nat) (w : World) (hb : w.heap[b]? = some (.cells #[I 2] 3 (0, 0))) (hc : w.heap[c]? = some (.cells #[U h] 22 (0, 0))) :
    Yields Tryz.prog 260 #[.pointer (some ⟨b, 0, none⟩), .pointer (some ⟨c, 0, none⟩)] (fun p : Nat × Nat => #[I p.1, I p.2]) (pairs2 (g0 h)) [] [b, c] w := by
  intro n l J Jx W hW hk hJ hJx hY h0
  have hb' := (hk b (by simp)).trans hb
  have hc' := (hk c (by simp)).trans hc
  have hg := g0_lt h
  have F1 := fun w => first2 h w
  generalize g0 h = g at *
  refine callsIn_of_wp Tryz.func260 rfl trivial ?_
  simp only [Tryz.ntmps260, List.size_toArray, List.length_cons, List.length_nil, Nat.reduceAdd, Nat.reduceSub, Array.replicate_succ, Array.replicate_zero, List.push_toArray, List.append_toArray, List.nil_append, List.cons_append]
  refine wpIn_wide.2 ?_
  apply wp_scope_straight
  refine (wpIn_wide (n := n + 1)).1 ?_
  gi_wp2_with (refine ⟨trivial, ?_⟩; gi_at_call 259; refine (callsIn_wide.2 (F1 _)).mono ?_; rintro e w' ⟨rfl, rfl⟩)
  apply wpIn_label
  gi_wp2
  refine wpIn_loop_rounds 3 ?_
  rw [roundsIn_succ]
  obtain ⟨fn, tmps, assign, body, hy, hR⟩ := hY [] (0, g) [(1, 1 - g)] W rfl h0
  have hy : Sem.run Tryz.prog (Instr.yield l #[.int .i64 0, I g]) W = .ok (.round l fn tmps assign body) W := hy
  gi_wp2
  refine hR.mono ?_
  clear hy hR
  rintro e W3 (⟨rfl, hJ3, hz3, hk3⟩ | ⟨rfl, hJx3⟩)
  · have hb3 := (hk3 b (by simp)).trans hb'
    clear hk3
    obtain ⟨fn2, tmps2, assign2, body2, hy2, hR2⟩ := hY [(0, g)] (1, 1 - g) [] W3 rfl hJ3
    have hy2 : Sem.run Tryz.prog (Instr.yield l #[.int .i64 1, I (1 - g : Nat)]) W3 = .ok (.round l fn2 tmps2 assign2 body2) W3 := hy2
    have hcase : g = 0 ∨ g = 1 := by omega
    rcases hcase with rfl | rfl
    · have hy2 : Sem.run Tryz.prog (Instr.yield l #[.int .i64 1, .int .i64 1]) W3 = .ok (.round l fn2 tmps2 assign2 body2) W3 := hy2
      gi_wp2
      rw [roundsIn_succ]
      gi_wp2
      refine hR2.mono ?_
      clear hy2 hR2
      rintro e W4 (⟨rfl, hJ4, hz4, hk4⟩ | ⟨rfl, hJx4⟩)
      · have hb4 := (hk4 b (by simp)).trans hb3
        clear hk4
        gi_wp2
        rw [roundsIn_succ]
        gi_wp2
        rw [Exit.noGoto_normal]
        refine bodyPost_end (results_none rfl _ _ _) rfl ?_
        exact ⟨⟨_, rfl⟩, .inl hJ4⟩
      · gi_wp2
        rw [Exit.noGoto_normal]
        refine bodyPost_end (results_none rfl _ _ _) rfl ?_
        exact ⟨⟨_, rfl⟩, .inr hJx4⟩
    · have hy2 : Sem.run Tryz.prog (Instr.yield l #[.int .i64 1, .int .i64 0]) W3 = .ok (.round l fn2 tmps2 assign2 body2) W3 := hy2
      gi_wp2
      rw [roundsIn_succ]
      gi_wp2
      refine hR2.mono ?_
      clear hy2 hR2
      rintro e W4 (⟨rfl, hJ4, hz4, hk4⟩ | ⟨rfl, hJx4⟩)
      · have hb4 := (hk4 b (by simp)).trans hb3
        clear hk4
        gi_wp2
        rw [roundsIn_succ]
        gi_wp2
        rw [Exit.noGoto_normal]
        refine bodyPost_end (results_none rfl _ _ _) rfl ?_
        exact ⟨⟨_, rfl⟩, .inl hJ4⟩
      · gi_wp2
        rw [Exit.noGoto_normal]
        refine bodyPost_end (results_none rfl _ _ _) rfl ?_
        exact ⟨⟨_, rfl⟩, .inr hJx4⟩
  · gi_wp2
    rw [Exit.noGoto_normal]
    refine bodyPost_end (results_none rfl _ _ _) rfl ?_
    exact ⟨⟨_, rfl⟩, .inr hJx3⟩
end Go.Proofs.Hc
/- slices.Clone at []int, off the shelf. -/
namespace Go.Proofs
open Go.Shelf
def Tryz.laysClone_ren : Go.Shelf.Ren := ⟨fun | 15 => 240 | n => n, fun | 22 => 124 | 3 => 3 | 4 => 4 | n => n, fun n => n⟩
theorem Tryz.laysClone : Lays2.n15 Tryz.prog Tryz.laysClone_ren := {
  mixed := by kernel_rfl
  f15 := Tryz.func240.trans (congrArg some (by kernel_rfl))
  t3 := Tryz.underlying3
  a3 := Tryz.isAgg3
  z3 := Tryz.sizeOf3
  v3 := Tryz.zeroValue3
  t4 := Tryz.underlying4
  a4 := Tryz.isAgg4
  z4 := Tryz.sizeOf4
  v4 := Tryz.zeroValue4
  t22 := Tryz.underlying124
  a22 := Tryz.isAgg124
  z22 := Tryz.sizeOf124
  v22 := Tryz.zeroValue124
  i3 := by kernel_rfl }
end Go.Proofs
namespace Go.Proofs.Hc
open Go.RowKit
theorem clone_int (b off n c : Nat) (zs : List Int) (w : World) (hz : n ≤ zs.length) (hbig : n * 8 ≤ 140737488355328) (hc : ∀ j, j < zs.length → w.cell? ⟨b, off + j, none⟩ = some (.int .i64 (zs.getD j 0))) :
    Calls Tryz.prog 240 #[.slice (some ⟨b, off, none⟩) n c] w fun e w' => ∃ v', e = .returned v' ∧ w'.ownsRow w.heap.size 3 1 v' n ((zs.take n).map (Value.int .i64)) ∧ v' ≠ .slice none 0 0 ∧ Below w.heap.size w w' :=
  Any.slices_Clone_int Tryz.laysClone b off n c zs w hz hbig hc
end Go.Proofs.Hc
/- Package probe: Row of two groups. -/
namespace Go.Proofs.Hc
open Go.RowKit
attribute [local go_sem] wrap_u64 wrap_u8 bits_xor64 bits_and64 bits_or64 bits_not64 bits_xor8 bits_and8 bits_or8 signed64 signed8 ofInt_N BitVec.ofInt_add BitVec.ofInt_mul ofInt_sub' ofInt8_N64 ofInt64_N8 wide8 eqN neN shr_pow shr1 shr7 shr56
attribute [local go_sem high] bits_com64 shl_wrap
attribute [local go_sem] nn2 nm2 nn3 nm3 nn4 nm4 nn5 nm5 nn6 nm6 nn7 nm7 nn8 nm8
attribute [local go_sem] Oper.semAt_some make_func1
attribute [local go_sem] cell_heap ice_heap cellAt_cells iceAt_cells setAt_cells size_setCell
attribute [local go_sem ↓] heap_alloc heap_drew heap_drewN heap_setCell
/-- A row as an array of 64 cells, of which some are laid. -/
def zero64 : Array Value := Array.replicate 64 (I 0)
def rowCells (pre : List (Nat × Nat)) : Array Value := pre.foldl (fun a p => a.setIfInBounds p.1 (I p.2)) zero64
theorem zero64_size : zero64.size = 64 := by simp [zero64]
theorem rowCells_snoc (pre : List (Nat × Nat)) (x : Nat × Nat) : rowCells (pre ++ [x]) = (rowCells pre).setIfInBounds x.1 (I x.2) := by simp [rowCells]
theorem foldCells_size (pre : List (Nat × Nat)) : ∀ a : Array Value, (pre.foldl (fun a p => a.setIfInBounds p.1 (I p.2)) a).size = a.size := by
  induction pre with
  | nil => intro a; rfl
  | cons x l ih => intro a; simp [List.foldl_cons, ih]
theorem rowCells_size (pre : List (Nat × Nat)) : (rowCells pre).size = 64 := by unfold rowCells; rw [foldCells_size, zero64_size]
theorem allOne_set (a : Array Value) (h : allOne a = true) (j : Nat) (n : Int) : allOne (a.setIfInBounds j (I n)) = true := by
  unfold allOne at *
  rw [Array.all_eq_true_iff_forall_mem] at *
  intro v hv
  rcases Array.mem_or_eq_of_mem_setIfInBounds hv with h1 | h1
  · exact h v h1
  · rw [h1]; rfl
theorem rowCells_one (pre : List (Nat × Nat)) : allOne (rowCells pre) = true := by
  suffices ∀ (pre : List (Nat × Nat)) (a : Array Value), allOne a = true → allOne (pre.foldl (fun a p => a.setIfInBounds p.1 (I p.2)) a) = true from this pre _ (by decide +kernel)
  intro pre
  induction pre with
  | nil => intro a h; exact h
  | cons x l ih => intro a h; exact ih _ (allOne_set a h _ _)
theorem rowCells_all (pre : List (Nat × Nat)) : (rowCells pre).extract 0 64 = rowCells pre := by
  have := Array.extract_size (xs := rowCells pre); rwa [rowCells_size] at this
theorem lrowR (a : Addr) : loadVar 258 a = loadRow 258 a := rfl
theorem srowR (a : Addr) (v : Value) : storeVar 258 a v = storeRow 258 a v := rfl
theorem zeroR_run (w : World) : (zeroValue 258).run Tryz.prog w = .ok (.agg (rowCells [])) w := by kernel_rfl
theorem loadR (g o : Nat) (w : World) : (loadRow 258 ⟨g, o, none⟩).run Tryz.prog w = rowRes Tryz.prog 258 g o w ((w.heap[g]?).bind (rowAt o 64)) :=
  run_row Tryz.underlying258 rfl (by kernel_rfl) g o w
theorem storeR (g o : Nat) (vs : Array Value) (w : World) : (storeRow 258 ⟨g, o, none⟩ (.agg vs)).run Tryz.prog w = layRes Tryz.prog 258 g o vs w (((w.heap[g]?).map (canLay o 64 vs)).getD false) :=
  run_lay (by kernel_rfl) g o vs w
attribute [local go_sem] rowAt_cells canLay_cells laidAt_cells size_onObj rowRes_some layRes_true loadR storeR rowCells_size rowCells_one rowCells_all
attribute [local go_sem ↓] lrowR srowR zeroR_run heap_onObj
set_option maxRecDepth 100000 in
theorem of_any (h : BitVec 64) (w : World) :
    Calls Tryz.prog 239 #[I 2, U h] w fun e w' => e = .returned (.agg (rowCells (pairs2 (g0 h)))) ∧ Ch [] w w' := by
  have hg := g0_lt h
  have Y1 := fun b c w hb hc => all_yields h b c w hb hc
  have A1 := fun w => all_any2 h w
  generalize g0 h = g at *
  refine (callsIn_wide (n := 3)).1 ?_
  refine callsIn_of_wp_marks Tryz.func239 rfl trivial ?_
  simp only [Tryz.ntmps239, List.size_toArray, List.length_cons, List.length_nil, Nat.reduceAdd, Nat.reduceSub, Array.replicate_succ, Array.replicate_zero, List.push_toArray, List.append_toArray, List.nil_append, List.cons_append]
  gi_wp2_with (refine ⟨trivial, ?_⟩; gi_at_call 255; refine (callsIn_wide.2 (A1 _)).mono ?_; rintro e w' ⟨rfl, rfl⟩)
  obtain ⟨W0, hW0⟩ : ∃ W0, (((w.alloc (.cells (rowCells []) 258)).alloc (.cells (rowCells []) 258)).alloc (.cells #[I 2] 3)).alloc (.cells #[U h] 22) = W0 := ⟨_, rfl⟩
  have hs0 : W0.heap.size = w.heap.size + 4 := by rw [← hW0]; simp
  have hC0 : Ch [] w W0 := by rw [← hW0]; exact ((((Ch.refl [] w).alloc _).alloc _).alloc _).alloc _
  have b0 : W0.heap[w.heap.size]? = some (.cells (rowCells []) 258 (0, 0)) := by rw [← hW0]; simp [go_sem] <;> omega
  have b1 : W0.heap[w.heap.size + 1]? = some (.cells (rowCells []) 258 (0, 0)) := by rw [← hW0]; simp [go_sem] <;> omega
  have b2 : W0.heap[w.heap.size + 1 + 1]? = some (.cells #[I 2] 3 (0, 0)) := by rw [← hW0]; simp [go_sem] <;> omega
  have b3 : W0.heap[w.heap.size + 1 + 1 + 1]? = some (.cells #[U h] 22 (0, 0)) := by rw [← hW0]; simp [go_sem] <;> omega
  rw [hW0]
  clear hW0
  gi_wp2
  refine range_law (n := 1) (xs := pairs2 g) rfl enters_all (Y1 _ _ W0 b2 b3) (fun _ => rfl) (by simp) (by simp <;> omega)
    (fun pre W => Ch [] w W ∧ W.heap[w.heap.size]? = some (.cells (rowCells []) 258 (0, 0)) ∧ W.heap[w.heap.size + 1]? = some (.cells (rowCells pre) 258 (0, 0)))
    (fun _ _ => False)
    ?hI (fun _ _ _ h _ => h.elim) ⟨hC0, b0, b1⟩ ?a₁ ?assign ?body ?done (fun _ _ h _ => h.elim)
  case hI =>
    rintro pre A B ⟨hc, h1, h2⟩ hAB
    exact ⟨hc.trans2 hAB (by simp <;> omega), (hAB.block _ (Array.getElem?_eq_some_iff.1 h1).1 (by simp <;> omega)).trans h1, (hAB.block _ (Array.getElem?_eq_some_iff.1 h2).1 (by simp <;> omega)).trans h2⟩
  case a₁ => exact fun x => { tmps := #[I 2, U h, undef, undef, .pointer (some ⟨w.heap.size, 0, none⟩), .pointer (some ⟨w.heap.size + 1, 0, none⟩), I x.1, I x.2, I 2, U h, .func (.func 260) #[] #[.pointer (some ⟨w.heap.size + 1 + 1, 0, none⟩), .pointer (some ⟨w.heap.size + 1 + 1 + 1, 0, none⟩)], I x.1, I x.2, undef, undef, undef, undef], defers := [] }
  case assign =>
    intro x W K hK
    gi_wp2
    exact hK
  case body =>
    rintro pre x post W hx ⟨hc, h1, h2⟩ hsz
    have hx1 : x.1 < 64 := by
      have : x ∈ pairs2 g := by rw [hx]; simp
      unfold pairs2 at this
      simp only [List.mem_cons, List.not_mem_nil, or_false] at this
      rcases this with rfl | rfl <;> simp
    clear hx
    gi_wp2
    refine ⟨⟨hc.setCell (p := ⟨w.heap.size + 1, x.1, none⟩) (.inr (by simp)) _, ?_, ?_⟩, by simp [World.setCell], ?_⟩
    · simp only [heap_setCell, h1]; simp
    · simp only [heap_setCell, h2, if_true, Option.map_some, setAt_cells, rowCells_snoc]
    · intro b hb
      simp only [heap_setCell]
      have hb' : b ≠ w.heap.size + 1 := by rcases hb with rfl | rfl | hb <;> simp at * <;> omega
      rw [if_neg hb']
  case done =>
    rintro W ⟨hc, h1, h2⟩ hd
    gi_wp2
    have hl := (Array.getElem?_eq_some_iff.1 h1).1
    have hc1 : Ch [] w (World.onObj W w.heap.size (laidAt 0 (rowCells (pairs2 g)))) := hc.onObj (.inr (Nat.le_refl _)) _
    refine marks_ret (v := .agg (rowCells (pairs2 g))) ?_ (results_cell_row Tryz.results239 _ _ w.heap.size 258 (rowCells (pairs2 g)) (0, 0) _ rfl ?_ Tryz.underlying258 rfl (by rw [rowCells_size]; kernel_rfl)) ⟨rfl, hc1.trans2 (ch_putObj _ _ _) (by simp <;> omega)⟩
    · rw [heap_onObj, if_neg (by omega)]; exact hd
    · rw [heap_putObj, if_neg (by omega), heap_onObj, if_pos rfl, h1]
      simp only [Option.map_some, laidAt_cells]
      rw [laid_whole _ _ (by rw [rowCells_size, rowCells_size])]
set_option maxRecDepth 100000 in
theorem row_any (h : BitVec 64) (w : World) :
    Calls Tryz.prog 194 #[I 2, U h] w fun e w' => ∃ v, e = .returned (.tuple #[v, I 0]) ∧ w'.ownsRow w.heap.size 3 1 v 2 [I (g0 h), I (1 - g0 h : Nat)] ∧ Ch [] w w' := by
  have hg := g0_lt h
  have A1 := fun w => of_any h w
  have hr : (rowCells (pairs2 (g0 h))).extract 0 2 = #[I (g0 h), I (1 - g0 h : Nat)] := by
    unfold g0; split <;> kernel_rfl
  have hr1 := rowCells_size (pairs2 (g0 h))
  have hr2 := rowCells_one (pairs2 (g0 h))
  generalize g0 h = g at *
  generalize rowCells (pairs2 g) = r at *
  go_enter Tryz.func194, Tryz.ntmps194
  go_wp2_with (first
    | (go_at_call 238; refine (pcheck2 _).mono ?_; rintro e w' ⟨rfl, rfl⟩)
    | (go_at_call 239; refine (A1 _).mono ?_; rintro e w1 ⟨rfl, hc1⟩))
  have hlay : (World.onObj (w1.alloc (.cells (rowCells []) 258)) w1.heap.size (laidAt 0 r)).heap[w1.heap.size]? = some (.cells r 258 (0, 0)) := by
    rw [heap_onObj, if_pos rfl, heap_alloc, if_pos rfl]
    simp only [Option.map_some, laidAt_cells]
    rw [laid_whole _ _ (by rw [rowCells_size, hr1])]
  have hC2 : Ch [] w (World.onObj (w1.alloc (.cells (rowCells []) 258)) w1.heap.size (laidAt 0 r)) := (hc1.alloc _).onObj (.inr hc1.size) _
  obtain ⟨w2, hw2⟩ : ∃ w2, World.onObj (w1.alloc (.cells (rowCells []) 258)) w1.heap.size (laidAt 0 r) = w2 := ⟨_, rfl⟩
  rw [hw2] at hlay hC2 ⊢
  clear hw2 hr1 hr2
  refine (clone_int w1.heap.size 0 2 64 [(g : Int), (1 - g : Nat)] w2 (by simp) (by omega) ?_).mono ?_
  · intro j hj
    have e : r[j]? = some (.int .i64 ([(g : Int), ((1 - g : Nat) : Int)].getD j 0)) := by
      have h2 : (r.extract 0 2)[j]? = some (.int .i64 ([(g : Int), ((1 - g : Nat) : Int)].getD j 0)) := by
        rw [hr]
        match j, hj with
        | 0, _ => rfl
        | 1, _ => rfl
      rw [Array.getElem?_extract] at h2
      split at h2
      · simpa using h2
      · cases h2
    rw [cell_heap, hlay, Nat.zero_add]
    exact e
  rintro e w3 ⟨v, rfl, hown, hnn, hbel⟩
  clear A1
  go_wp2
  go_ret2
  exact ⟨v, rfl, own_mono hown hC2.size, hC2.trans (Ch.of_below hbel)⟩
end Go.Proofs.Hc
/- Regions that draw their order, in the body of a range over a function. -/
namespace Go.Proofs.Hc
open Go.RowKit
def noDefer (l : List Oper) : Bool := l.all fun o => match o.op with
  | .defer _ => false
  | _ => true
theorem noDefer_at {l : List Oper} (h : noDefer l = true) {i : Nat} {o : Oper} (hi : l.toArray[i]? = some o) : ∀ c, o.op ≠ .defer c := by
  intro c hc
  have hm : o ∈ l := List.mem_of_getElem? (by simpa using hi)
  have := List.all_eq_true.1 h o hm
  rw [hc] at this
  cases this
theorem wpIn_of_wp {P : Program} {r n : Nat} {o : Oper} {a : Act} {w : World} {K : Act → World → Prop} {Q : Exit → Act → World → Prop} (hd : ∀ c, o.op ≠ .defer c) (h : o.wp P a w K Q) : o.wpIn (Wd.inRound r) n P a w K Q := by
  unfold Oper.wpIn
  unfold Oper.wp at h
  refine ⟨fun _ _ => trivial, ?_⟩
  rw [Oper.semAt_eq _ _ _ hd]
  generalize (execOp a.eval o).run P w = x at *
  cases x with
  | ok y w' =>
    cases y with
    | value v => exact h
    | skip => exact h
    | defer d => exact h
    | enter f args => exact ⟨fun e => (by cases e), CallsIn.inRound r (callsIn_wide.2 h)⟩
    | row q args =>
      refine ⟨fun e => (by cases e), fun c cs _ => ?_⟩
      obtain ⟨v, w2, hv, hs⟩ := h c cs
      exact ⟨v, w2, hv, stepsIn_wide.2 hs⟩
    | _ => exact h.elim
  | halt y w' =>
    cases y <;> exact h
theorem anyIn {P : Program} {r n : Nat} {l : List Oper} {md : Region.Mode} {Q : Exit → Act → World → Prop} (hd : noDefer l = true) (hno : ¬ LetsOut Q) : ∀ (f : Nat) (listed : Array Bool) (a : Act) (w : World),
    wpAny P md l.toArray Q f listed a w → wpAnyIn (Wd.inRound r) n P md l.toArray Q f listed a w
  | 0, _, _, _, h => h
  | f + 1, listed, a, w, h => by
    refine ⟨h.1, fun i hi => ?_⟩
    have := h.2 i hi
    unfold wpOp at this
    unfold wpOpIn
    cases ho : l.toArray[i]? with
    | none => rw [ho] at this; exact anyIn hd hno f _ _ _ this
    | some o =>
      rw [ho] at this
      simp only at this ⊢
      split
      · rename_i hw
        rw [if_pos hw] at this
        rcases this with h1 | h1
        · exact Oper.wpIn_mono (fun a' w' h' => anyIn hd hno f _ _ _ h') (wpIn_of_wp (noDefer_at hd ho) h1)
        · exact (hno h1.2).elim
      · rename_i hw
        rw [if_neg hw] at this
        exact ⟨fun _ _ => trivial, anyIn hd hno f _ _ _ this⟩
/-- A region whose loads may be taken first (S: what they read), whatever comes behind them. -/
theorem rr_held {P : Program} {id r k : Nat} {Q : Exit → Act → World → Prop} {a : Act} {w : World} {l : List Oper} (S : World → Prop) (hm : P.follows .mixedOrders = true) (hd : noDefer l = true) (hno : ¬ LetsOut Q) (hS : S w.drew)
    (h : S w.drew → wpAnyH P .any l.toArray Q S l.toArray.size (Array.replicate l.toArray.size false) a w.drew) : (Code.region id l.toArray true).wpIn (Wd.inRound r) k P Q a w :=
  wpIn_region_any hm (anyIn hd hno _ _ _ _ (wpAny_of_held _ _ _ _ (h hS)))
end Go.Proofs.Hc
/- Tables compared with themselves. -/
namespace Go.Proofs.Hc
open Go.RowKit
/-- A value that is equal to itself. -/
def SelfEq (d : Nat) (T : TypeId) (v : Value) : Prop := ∀ w, (Op.equalIn d T v v).run Tryz.prog w = .ok true w
theorem self_int (d : Nat) (T : TypeId) (k k' : IntKind) (a : Int) (h : Tryz.prog.underlying T = some (.int k')) : SelfEq (d + 1) T (.int k a) := fun w => by
  rw [run_equalIn_int w d T k k' a a h, beq_self_eq_true]
theorem self_fields {d : Nat} {xs : Array Value} : ∀ (fs : List Field), (∀ f ∈ fs, ∃ a, (∀ w, (part f.type xs f.offset).run Tryz.prog w = .ok a w) ∧ SelfEq d f.type a) → ∀ w, (Op.eqFields d xs xs fs).run Tryz.prog w = .ok true w
  | [], _, w => by simp [Op.eqFields]
  | f :: fs, h, w => by
    obtain ⟨a, h1, h2⟩ := h f (by simp)
    have ih := self_fields fs (fun j hj => h j (by simp [hj])) w
    simp only [Op.eqFields]
    split
    · simp only [Sem.run_bind, h1, h2 w, Result.andThen_ok, Bool.not_true, Bool.false_eq_true, if_false, ih]
    · exact ih
theorem part_int {T : TypeId} {k : IntKind} (h : Tryz.prog.underlying T = some (.int k)) {xs : Array Value} {off : Nat} {v : Value} (hx : xs[off]? = some v) (w : World) : (part T xs off).run Tryz.prog w = .ok v w :=
  run_part_plain w (by simp [Program.plainKey, h]) hx
end Go.Proofs.Hc
