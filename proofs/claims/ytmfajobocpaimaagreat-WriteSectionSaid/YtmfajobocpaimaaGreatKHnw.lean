/- A range over a function whose body may change what the iterator reads, once it leaves the loop. -/
import Derived.Test.YtmfajobocpaimaaGreatKHmet
import Derived.Test.YtmfajobocpaimaaGreatKHcs
import Derived.Test.YtmfajobocpaimaaGreatKHm
import Derived.Test.YtmfajobocpaimaaGreatKHma
import Derived.Test.YtmfajobocpaimaaGreatKHnl
import Derived.Test.YtmfajobocpaimaaGreatKHnq
import Derived.Test.YtmfajobocpaimaaGreatKHnr
import Derived.Test.YtmfajobocpaimaaGreatKHnv
import Derived.Test.YtmfajobocpaimaaGreatKHye
import Derived.Test.YtmfajobocpaimaaGreatKHni
import Derived.Test.YtmfajobocpaimaaGreatKHxh
import Derived.Below
import Derived.BigQuiet
import Derived.Deep.Draws
import Derived.Deep.QuietTactic
import Derived.Laws.CopyRow
import Derived.Laws.Tables
import Derived.Lib.Hide
import Derived.LoopIn
import Derived.LoopNIn
import Derived.OwnWalkIn
import Derived.RangeFuncCalls
import Derived.RangeFuncRecord
import Derived.RangeFuncSeq
import Derived.TacticsInMore
import Derived.Test.YtmfajobocpaimaaGreatProg
import Derived.WalkKit
import Derived.Deep.Light
import Derived.Deep.RegionHeld
import Derived.Laws.StructEq
import Derived.Lib.AppendZerosOnto
import Derived.Lib.Tables
import Derived.Lib.Walk
import Derived.LoopN
import Derived.Maps.AppendAt
import Derived.Maps.Views
import Derived.RangeFuncBox
import Derived.Recover
import Derived.RegionTactic
import Derived.ScopeJumps
import Derived.Shelf.Slices.Clone
import Derived.StillTail
import Derived.StillTailTactics
import Derived.WalkLawsBesides
import Derived.WalkMore
import Derived.WalkSpells
set_option linter.unusedSimpArgs false
set_option linter.unusedVariables false
namespace Go.Proofs.Hc
open Go.RowKit
/-- How the body of a round may be left. -/
def bodyQ2 (I : World → Prop) (Ix : Code → World → Prop) (keep kept : Nat → Prop) (W : World) : Exit → Act → World → Prop
  | .normal, _, W' => I W' ∧ W.heap.size ≤ W'.heap.size ∧ (∀ b, keep b → W'.heap[b]? = W.heap[b]?) ∧ ∀ b, kept b → W'.heap[b]? = W.heap[b]?
  | .ret, _, W' => Ix .ret W' ∧ ∀ b, keep b → W'.heap[b]? = W.heap[b]?
  | .exit id, _, W' => Ix (.exit id) W' ∧ ∀ b, keep b → W'.heap[b]? = W.heap[b]?
  | .goto t, _, W' => Ix (.goto t) W' ∧ ∀ b, keep b → W'.heap[b]? = W.heap[b]?
  | .panic _, _, _ => False
  | .outgrown, _, _ => False
theorem range_law2 {α : Type} {P : Program} {n : Nat} {g : Operand} {ps : Array Tmp} {assign body : Code} {Q : Exit → Act → World → Prop} {a : Act} {w : World}
    {gf : Nat} {lb : Array Value} (hg : a.eval g = .func (.func gf) #[] lb) (eg : ∀ args w, (callFunc gf args).run P w = .ok (.enter gf args) w)
    {encs : α → Array Value} {xs : List α} {own kept : List Nat} (hseq : Yields P gf lb encs xs own kept w) (hps : ∀ x, (encs x).size = ps.size)
    (hown : ∀ b ∈ own, b < w.heap.size) (hkept : ∀ b ∈ kept, b < w.heap.size)
    (I : List α → World → Prop) (Ix : Code → World → Prop)
    (hI : ∀ pre A B, I pre A → Ch ((w.heap.size + 1) :: own) A B → I pre B) (hIx : ∀ c A B, Ix c A → Ch ((w.heap.size + 1) :: own) A B → Ix c B) (h0 : I [] w) (a₁ : α → Act)
    (hassign : ∀ (x : α) (W : World) (K : Act → World → Prop), K (a₁ x) W →
      assign.wpIn (Wd.inRound (w.heap.size + 1)) n P (Exit.then K (fun _ _ _ => False)) { tmps := (ps.zip (encs x)).foldl (fun t (p, v) => t.setIfInBounds p v) a.tmps, defers := [] } W)
    (hbody : ∀ (pre : List α) (x : α) (post : List α) (W : World), xs = pre ++ x :: post → I pre W → w.heap.size + 2 ≤ W.heap.size →
      body.wpIn (Wd.inRound (w.heap.size + 1)) n P (bodyQ2 (I (pre ++ [x])) Ix (fun b => b = w.heap.size ∨ b = w.heap.size + 1) (fun b => b ∈ kept) W) (a₁ x) W)
    (hdone : ∀ (W : World), I xs W → W.heap[w.heap.size]? = some (.deferred (some [])) → Q .normal { a with defers := { target := .collected w.heap.size, args := #[] } :: a.defers } W)
    (hstop : ∀ (c : Code) (W : World), Ix c W → W.heap[w.heap.size]? = some (.deferred (some [])) → c.wpIn Wd (n + 2) P Q { a with defers := { target := .collected w.heap.size, args := #[] } :: a.defers } W) :
    (Code.rangeFunc g ps assign body).wpIn Wd (n + 2) P Q a w := by
  refine wpIn_rangeFunc ?_
  intro fn hfn
  rw [show Wd.round = none from rfl]
  obtain ⟨rec, hrec⟩ : ∃ rec : LoopState → Option Code → Loop, rec = fun st pe => { state := st, pending := pe, fn, tmps := a.tmps, params := ps, assign, body, defers := w.heap.size } := ⟨_, rfl⟩
  obtain ⟨W1, hW1⟩ : ∃ W1, (w.alloc (.deferred (some []))).alloc (.loop (rec .ready none)) = W1 := ⟨_, rfl⟩
  have hL1 : W1.heap[w.heap.size + 1]? = some (.loop (rec .ready none)) := by
    rw [← hW1, heap_alloc, if_pos (by simp)]
  have hK1 : W1.heap[w.heap.size]? = some (.deferred (some [])) := by
    rw [← hW1, heap_alloc, if_neg (by simp), heap_alloc, if_pos rfl]
  have hC1 : Ch [] w W1 := by rw [← hW1]; exact ((Ch.refl [] w).alloc _).alloc _
  have hsz1 : W1.heap.size = w.heap.size + 2 := by rw [← hW1]; simp
  refine ⟨w.heap.size + 1, [{ target := .collected w.heap.size, args := #[] }], W1, { target := .fn (.func gf) lb, args := #[.func (.yield (w.heap.size + 1)) #[] #[]] }, W1, gf,
    #[.func (.yield (w.heap.size + 1)) #[] #[]] ++ lb, W1, ?_, ?_, fun _ _ => trivial, ?_, fun _ => by omega, ?_⟩
  · rw [← hW1, hrec]; exact run_enterLoop_outer _ _ _ _ _
  · simp only [resolve, hg]
    simp [go_sem]
  · simp [invoke, go_sem, eg]
  · have hne : w.heap.size ∉ (w.heap.size + 1) :: own := by
      simp only [List.mem_cons, not_or]; exact ⟨by omega, fun hb => by have := hown _ hb; omega⟩
    have hle : w.heap.size + 1 ∉ own := fun hb => by have := hown _ hb; omega
    have hne' : w.heap.size ∉ own := fun hb => by have := hown _ hb; omega
    refine (hseq n (w.heap.size + 1)
      (fun pre W => I pre W ∧ W.heap[w.heap.size + 1]? = some (.loop (rec .ready none)) ∧ W.heap[w.heap.size]? = some (.deferred (some [])))
      (fun W => ∃ c, Ix c W ∧ W.heap[w.heap.size + 1]? = some (.loop (rec .done (some c))) ∧ W.heap[w.heap.size]? = some (.deferred (some [])))
      W1 hC1 (fun b hb => hC1.block b (hkept b hb) (by simp)) ?_ ?_ ?_ ⟨hI _ _ _ h0 hC1.of_nil, hL1, hK1⟩).mono ?_
    · rintro pre A B ⟨hi, hl, hk⟩ hc
      exact ⟨hI _ _ _ hi (hc.mono fun s hs => .tail _ hs), (hc.block _ (Array.getElem?_eq_some_iff.1 hl).1 hle).trans hl, (hc.block _ (Array.getElem?_eq_some_iff.1 hk).1 hne').trans hk⟩
    · rintro A B ⟨c, hi, hl, hk⟩ hc
      exact ⟨c, hIx _ _ _ hi (hc.mono fun s hs => .tail _ hs), (hc.block _ (Array.getElem?_eq_some_iff.1 hl).1 hle).trans hl, (hc.block _ (Array.getElem?_eq_some_iff.1 hk).1 hne').trans hk⟩
    · rintro pre x post W hxs ⟨hi, hl, hk⟩
      have hlt : w.heap.size + 1 < W.heap.size := (Array.getElem?_eq_some_iff.1 hl).1
      have hy := run_yield (P := P) (args := encs x) hl (by rw [hrec]; exact hps x)
      rw [hrec] at hy
      refine ⟨fn, _, assign, body, hy, roundIn_of_wpIn trivial (hassign x W _ ⟨_, run_beginRound hl (by rw [hrec]), ?_⟩)⟩
      have hl2 : (W.putObj (w.heap.size + 1) (.loop { rec .ready none with state := .busy })).heap[w.heap.size + 1]? = some (.loop { rec .ready none with state := .busy }) := World.putObj_heap_same hlt
      have hk2 : (W.putObj (w.heap.size + 1) (.loop { rec .ready none with state := .busy })).heap[w.heap.size]? = some (.deferred (some [])) := (World.putObj_heap_other (by omega)).trans hk
      refine wpIn_mono (hbody pre x post _ hxs (hI _ _ _ hi ((ch_putObj _ _ _).mono fun s hs => by rw [List.mem_singleton.1 hs]; exact .head _)) (by simp; omega)) ?_
      have fin : ∀ (jump : Option Code) (W3 : World), (∀ b, (b = w.heap.size ∨ b = w.heap.size + 1) → W3.heap[b]? = (W.putObj (w.heap.size + 1) (.loop { rec .ready none with state := .busy })).heap[b]?) →
          (Instr.endRound (w.heap.size + 1) jump).run P W3 = .ok (.bool jump.isNone) (W3.putObj (w.heap.size + 1) (.loop (rec (if jump.isNone then .ready else .done) jump))) ∧
          (W3.putObj (w.heap.size + 1) (.loop (rec (if jump.isNone then .ready else .done) jump))).heap[w.heap.size + 1]? = some (.loop (rec (if jump.isNone then .ready else .done) jump)) ∧
          (W3.putObj (w.heap.size + 1) (.loop (rec (if jump.isNone then .ready else .done) jump))).heap[w.heap.size]? = some (.deferred (some [])) := fun jump W3 hk3 => by
        have hl3 := (hk3 _ (.inr rfl)).trans hl2
        have := run_endRound (P := P) jump hl3
        rw [hrec] at this ⊢
        refine ⟨this, World.putObj_heap_same (Array.getElem?_eq_some_iff.1 hl3).1, (World.putObj_heap_other (by omega)).trans ((hk3 _ (.inl rfl)).trans hk2)⟩
      have one : ∀ s ∈ [w.heap.size + 1], s ∈ (w.heap.size + 1) :: own := fun s hs => by rw [List.mem_singleton.1 hs]; exact .head _
      rintro e a3 W3 hp
      cases e with
      | normal =>
        obtain ⟨hi3, hz3, hk3, hkk⟩ := hp
        obtain ⟨hr, hl4, hk4⟩ := fin none W3 hk3
        have hke : ∀ b ∈ kept, (W3.putObj (w.heap.size + 1) (.loop (rec .ready none))).heap[b]? = W.heap[b]? := fun b hb => by
          have hbl := hkept b hb
          exact (World.putObj_heap_other (by omega)).trans ((hkk b hb).trans (World.putObj_heap_other (by omega)))
        exact ⟨_, _, hr, .inl ⟨rfl, ⟨hI _ _ _ hi3 ((ch_putObj _ _ _).mono one), hl4, hk4⟩, by simp at hz3 ⊢; exact hz3, hke⟩⟩
      | ret =>
        obtain ⟨hi3, hk3⟩ := hp
        obtain ⟨hr, hl4, hk4⟩ := fin (some .ret) W3 hk3
        exact ⟨_, _, hr, .inr ⟨rfl, .ret, hIx _ _ _ hi3 ((ch_putObj _ _ _).mono one), hl4, hk4⟩⟩
      | exit id =>
        obtain ⟨hi3, hk3⟩ := hp
        obtain ⟨hr, hl4, hk4⟩ := fin (some (.exit id)) W3 hk3
        exact ⟨_, _, hr, .inr ⟨rfl, .exit id, hIx _ _ _ hi3 ((ch_putObj _ _ _).mono one), hl4, hk4⟩⟩
      | goto t =>
        obtain ⟨hi3, hk3⟩ := hp
        obtain ⟨hr, hl4, hk4⟩ := fin (some (.goto t)) W3 hk3
        exact ⟨_, _, hr, .inr ⟨rfl, .goto t, hIx _ _ _ hi3 ((ch_putObj _ _ _).mono one), hl4, hk4⟩⟩
      | panic ch => exact hp.elim
      | outgrown => exact hp.elim
    · have one : ∀ s ∈ [w.heap.size + 1], s ∈ (w.heap.size + 1) :: own := fun s hs => by rw [List.mem_singleton.1 hs]; exact .head _
      rintro e W2 ⟨⟨v, rfl⟩, ⟨hi, hl, hk⟩ | ⟨c, hi, hl, hk⟩⟩
      · exact ⟨none, _, by have := run_endLoop (P := P) hl (by rw [hrec]; simp); rw [hrec] at this; exact this, hdone _ (hI _ _ _ hi ((ch_putObj _ _ _).mono one)) ((World.putObj_heap_other (by omega)).trans hk)⟩
      · exact ⟨some c, _, by have := run_endLoop (P := P) hl (by rw [hrec]; simp); rw [hrec] at this; exact this, hstop c _ (hIx _ _ _ hi ((ch_putObj _ _ _).mono one)) ((World.putObj_heap_other (by omega)).trans hk)⟩
end Go.Proofs.Hc
/- Package write: next. -/
namespace Go.Proofs.Hc
open Go.RowKit
attribute [local go_sem] wrap_u64 wrap_u8 bits_xor64 bits_and64 bits_or64 bits_not64 bits_xor8 bits_and8 bits_or8 signed64 signed8 ofInt_N BitVec.ofInt_add BitVec.ofInt_mul ofInt_sub' ofInt8_N64 ofInt64_N8 wide8 eqN neN shr_pow shr1 shr7 shr56
attribute [local go_sem high] bits_com64 shl_wrap
attribute [local go_sem] cell_heap ice_heap cellAt_cells iceAt_cells setAt_cells rowAt_cells canLay_cells laidAt_cells size_onObj size_setCell rowRes_some layRes_true
attribute [local go_sem] load26 load73 load23 store26 build73
attribute [local go_sem ↓] lrow26 lrow73 lrow23 srow26 zero26 brow73 heap_alloc heap_drew heap_drewN heap_setCell heap_onObj
attribute [local go_sem] tcells_size hcells_size tcells_get hcells_get tcells_one hcells_one hcells_table tcells_table hcells_all hcells_ctrl tcells_ctrl
attribute [local go_sem] nn2 nm2 nn3 nm3 nn4 nm4 nn5 nm5 nn6 nm6 nn7 nm7 nn8 nm8
attribute [local go_sem] nn2 nm2 nn3 nm3 nn4 nm4 nn5 nm5 nn6 nm6 nn7 nm7 nn8 nm8
attribute [local go_sem] ofInt_N ofInt_pow8
attribute [local go_sem] Oper.semAt_some make_func1
attribute [local go_sem] pen_g0 pen_g1 pen_g2 pen_g3 pen_g4 pen_g5 pen_g6 pen_g7 pen_g8 pen_g9 pen_g10 pen_g11 pen_g12 pen_g13 pen_g14 pen_g15 pen_g16 pen_g17 penC_size penC_one penC_all
attribute [local irreducible] penC
attribute [local go_sem] pen_s0 pen_s1 pen_s2 pen_s3 pen_s4 pen_s5 pen_s6 pen_s7 pen_s8 pen_s9 pen_s10 pen_s11 pen_s12 pen_s13 pen_s14 pen_s15 pen_s16 pen_s17
/-- Behind a store comes the next one in order. -/
theorem nextP_at (n : Nat) (hn : n = 1 ∨ n = 2 ∨ n = 3) : ∀ i x, (storesL n)[i]? = some x → nextP n x = ((storesL n)[i + 1]?).getD 14 := by
  have key : ∀ l : List Int, (∀ i, i < l.length → (l[i]?).map (nextP n) = some ((l[i + 1]?).getD 14)) → ∀ i x, l[i]? = some x → nextP n x = (l[i + 1]?).getD 14 := by
    intro l h i x hx
    have hlt := (List.getElem?_eq_some_iff.1 hx).1
    have := h i hlt
    rw [hx] at this
    simpa using this
  apply key
  rcases hn with rfl | rfl | rfl <;> decide
/-- How far next is: the flag says whether the last one told is the one it is at. -/
def NextI (xs : List Int) (x : Int) (pre : List Int) (b : Bool) : Prop :=
  (b = true → 0 < pre.length ∧ xs[pre.length - 1]? = some x) ∧ (b = false → ∀ i, i < pre.length → xs[i]? ≠ some x) ∧ (b = true → ∀ i, i + 1 < pre.length → xs[i]? ≠ some x)
theorem NextI.nil (xs : List Int) (x : Int) : NextI xs x [] false := ⟨fun h => (by cases h), fun _ i hi => by simp at hi, fun h => by cases h⟩
theorem NextI.on {xs pre post : List Int} {x y : Int} (h : NextI xs x pre false) (hxs : xs = pre ++ y :: post) : NextI xs x (pre ++ [y]) (y == x) := by
  have hy : xs[pre.length]? = some y := by rw [hxs]; simp
  have hl : (pre ++ [y]).length = pre.length + 1 := by simp
  refine ⟨fun e => ?_, fun e i hi => ?_, fun e i hi => ?_⟩
  · have : y = x := by simpa using e
    exact ⟨by omega, by rw [hl, Nat.add_sub_cancel, hy, this]⟩
  · rcases Nat.lt_or_ge i pre.length with h1 | h1
    · exact h.2.1 rfl i h1
    · have : i = pre.length := by omega
      rw [this, hy]; intro e2
      have : y = x := by simpa using e2
      rw [this] at e; simp at e
  · exact h.2.1 rfl i (by omega)
theorem NextI.hit {n : Nat} (hn : n = 1 ∨ n = 2 ∨ n = 3) {pre post : List Int} {x y : Int} (h : NextI (storesL n) x pre true) (hxs : storesL n = pre ++ y :: post) : nextP n x = y := by
  obtain ⟨h1, h2⟩ := h.1 rfl
  have hy : (storesL n)[pre.length]? = some y := by rw [hxs]; simp
  rw [nextP_at n hn _ _ h2, Nat.sub_add_cancel h1, hy]; rfl
theorem NextI.end {n : Nat} (hn : n = 1 ∨ n = 2 ∨ n = 3) {x : Int} {b : Bool} (hx : x ∈ storesL n) (h : NextI (storesL n) x (storesL n) b) : nextP n x = 14 := by
  obtain ⟨i, hi⟩ := List.mem_iff_getElem?.1 hx
  have hlt := (List.getElem?_eq_some_iff.1 hi).1
  cases b with
  | false => exact absurd hi (h.2.1 rfl i hlt)
  | true =>
    have h3 := h.2.2 rfl i
    have h4 : i = (storesL n).length - 1 := by
      rcases Nat.lt_or_ge (i + 1) (storesL n).length with h5 | h5
      · exact absurd hi (h3 h5)
      · omega
    rw [nextP_at n hn _ _ hi, h4, Nat.sub_add_cancel (by omega), List.getElem?_eq_none (Nat.le_refl _)]; rfl
set_option maxHeartbeats 4000000 in
set_option maxRecDepth 100000 in
theorem wNext_any (p : PenT) (hn3 : wantsP p = 1 ∨ wantsP p = 2 ∨ wantsP p = 3) (hx : p.ph ∈ storesL (wantsP p)) (g : Nat) (w : World) (hg : w.heap[g]? = some (.cells (penC p) 170 (0, 0))) : Calls Tryz.prog 226 #[.pointer (some ⟨g, 0, none⟩)] w (PenPost g { p with ph := nextP (wantsP p) p.ph } w) := by
  have hgn : ¬ g = w.heap.size := by have := (Array.getElem?_eq_some_iff.1 hg).1; omega
  have hgn1 : ¬ g = w.heap.size + 1 := by have := (Array.getElem?_eq_some_iff.1 hg).1; omega
  have hgn2 : ¬ g = w.heap.size + 1 + 1 := by have := (Array.getElem?_eq_some_iff.1 hg).1; omega
  refine (callsIn_wide (n := 3)).1 ?_
  refine callsIn_of_wp_marks Tryz.func226 rfl trivial ?_
  simp only [Tryz.ntmps226, List.size_toArray, List.length_cons, List.length_nil, Nat.reduceAdd, Nat.reduceSub, Array.replicate_succ, Array.replicate_zero, List.push_toArray, List.append_toArray, List.nil_append, List.cons_append]
  gi_wp2_with fail
  refine ⟨trivial, ?_⟩
  gi_at_call 219
  have C0 : Ch [g] w ((((w.alloc (.cells #[.pointer (some ⟨g, 0, none⟩)] 168)).alloc (.cells #[.bool false] 4)).alloc (.cells #[I p.ph] 3)).setCell ⟨g, 0, none⟩ (.int .i64 14)) := ((((Ch.refl [g] w).alloc _).alloc _).alloc _).setCell (p := ⟨g, 0, none⟩) (.inl (by simp)) _
  have g0' : ((((w.alloc (.cells #[.pointer (some ⟨g, 0, none⟩)] 168)).alloc (.cells #[.bool false] 4)).alloc (.cells #[I p.ph] 3)).setCell ⟨g, 0, none⟩ (.int .i64 14)).heap[g]? = some (.cells (penC { p with ph := 14 }) 170 (0, 0)) := by simp [go_sem, hgn, hgn1, hgn2, hg]
  have t0 : ((((w.alloc (.cells #[.pointer (some ⟨g, 0, none⟩)] 168)).alloc (.cells #[.bool false] 4)).alloc (.cells #[I p.ph] 3)).setCell ⟨g, 0, none⟩ (.int .i64 14)).heap[w.heap.size + 1]? = some (.cells #[.bool false] 4 (0, 0)) := by
    rw [heap_setCell, if_neg (fun e => hgn1 e.symm), heap_alloc, if_neg (by simp), heap_alloc, if_pos (by simp)]
  have a0 : ((((w.alloc (.cells #[.pointer (some ⟨g, 0, none⟩)] 168)).alloc (.cells #[.bool false] 4)).alloc (.cells #[I p.ph] 3)).setCell ⟨g, 0, none⟩ (.int .i64 14)).heap[w.heap.size + 1 + 1]? = some (.cells #[I p.ph] 3 (0, 0)) := by
    rw [heap_setCell, if_neg (fun e => hgn2 e.symm), heap_alloc, if_pos (by simp)]
  have x0 : ((((w.alloc (.cells #[.pointer (some ⟨g, 0, none⟩)] 168)).alloc (.cells #[.bool false] 4)).alloc (.cells #[I p.ph] 3)).setCell ⟨g, 0, none⟩ (.int .i64 14)).heap[w.heap.size]? = some (.cells #[.pointer (some ⟨g, 0, none⟩)] 168 (0, 0)) := by
    rw [heap_setCell, if_neg (fun e => hgn e.symm), heap_alloc, if_neg (by simp; omega), heap_alloc, if_neg (by simp), heap_alloc, if_pos rfl]
  generalize ((((w.alloc (.cells #[.pointer (some ⟨g, 0, none⟩)] 168)).alloc (.cells #[.bool false] 4)).alloc (.cells #[I p.ph] 3)).setCell ⟨g, 0, none⟩ (.int .i64 14)) = W0 at *
  obtain ⟨B, hB⟩ : ∃ B, w.heap.size = B := ⟨_, rfl⟩
  rw [hB] at t0 a0 x0 ⊢
  have HB := Lib.hid hB
  clear hB hg hgn hgn1 hgn2
  refine (callsIn_wide.2 (stores_any g _)).mono ?_
  rintro e W1 ⟨r, b, rfl, hst, hc1⟩
  have g1 := hkeep hc1 g0'
  have t1 := hkeep hc1 t0
  have a1 := hkeep hc1 a0
  have x1 := hkeep hc1 x0
  have C1 : Ch [g] w W1 := C0.pure hc1
  clear g0' t0 a0 x0 C0 hc1
  obtain ⟨q, Yq, ⟨hrl, hbl, hgl, hql⟩, hkb⟩ := stat_yields { p with ph := 14 } r b g W1 hn3 g1 hst
  have Yq : Yields Tryz.prog 253 #[.pointer (some ⟨r, 0, none⟩), .pointer (some ⟨b, 0, none⟩)] (fun x : Int => #[I x]) (storesL (wantsP p)) [] [r, b, g, q] W1 := Yq
  have hTk : ∀ k, k ∈ [r, b, g, q] → k ≠ B + 1 := fun k hk e => hkb k hk _ (e ▸ t1)
  have hTl := (Array.getElem?_eq_some_iff.1 t1).1
  have hAl := (Array.getElem?_eq_some_iff.1 a1).1
  have hBl := (Array.getElem?_eq_some_iff.1 x1).1
  have hwB : w.heap.size ≤ B := by rw [HB.out]; exact Nat.le_refl _
  have hHIT := fun (pre post : List Int) (y : Int) h1 h2 => NextI.hit hn3 (pre := pre) (post := post) (x := p.ph) (y := y) h1 h2
  have hEND := fun (b : Bool) h => NextI.end hn3 (x := p.ph) (b := b) hx h
  clear hkb hst hn3 hx
  generalize nextP (wantsP p) p.ph = np at *
  generalize storesL (wantsP p) = xs at *
  gi_wp2
  refine range_law2 (n := 1) (xs := xs) rfl enters_stores Yq (fun _ => rfl) (by simp) (by simp; omega)
    (fun pre W => Ch [g] w W ∧ W.heap[g]? = some (.cells (penC { p with ph := 14 }) 170 (0, 0)) ∧ W.heap[B]? = some (.cells #[.pointer (some ⟨g, 0, none⟩)] 168 (0, 0)) ∧ W.heap[B + 1 + 1]? = some (.cells #[I p.ph] 3 (0, 0)) ∧ ∃ f : Bool, W.heap[B + 1]? = some (.cells #[.bool f] 4 (0, 0)) ∧ NextI xs p.ph pre f)
    (fun c W => c = .ret ∧ Ch [g] w W ∧ W.heap[g]? = some (.cells (penC { p with ph := np }) 170 (0, 0)))
    ?hI ?hIx ⟨C1, g1, x1, a1, false, t1, NextI.nil _ _⟩ ?a9 ?assign ?body ?done ?stop
  case hI =>
    rintro pre A Bw ⟨hc, h1, h2, h3, f, h4, h5⟩ hAB
    exact ⟨hc.trans2 hAB (by simp <;> omega), (hAB.block _ (Array.getElem?_eq_some_iff.1 h1).1 (by simp <;> omega)).trans h1, (hAB.block _ (Array.getElem?_eq_some_iff.1 h2).1 (by simp <;> omega)).trans h2, (hAB.block _ (Array.getElem?_eq_some_iff.1 h3).1 (by simp <;> omega)).trans h3, f, (hAB.block _ (Array.getElem?_eq_some_iff.1 h4).1 (by simp <;> omega)).trans h4, h5⟩
  case hIx =>
    rintro c A Bw ⟨rfl, hc, h1⟩ hAB
    exact ⟨rfl, hc.trans2 hAB (by simp <;> omega), (hAB.block _ (Array.getElem?_eq_some_iff.1 h1).1 (by simp <;> omega)).trans h1⟩
  case assign =>
    intro y W K hK
    gi_wp2
    exact hK
  case body =>
    rintro pre y post W hxs ⟨hc, h1, h2, h3, f, h4, h5⟩ hsz
    have hgB : g ≠ B + 1 := hTk g (by simp)
    have hB2 : ¬ B + 1 + 1 = B + 1 := by omega
    have hB0 : ¬ B = B + 1 := by omega
    cases f with
    | true =>
      have hy := Lib.hid (hHIT pre post y h5 hxs)
      clear hxs h5
      gi_wp2
      refine ⟨⟨rfl, hc.setCell (p := ⟨g, 0, none⟩) (.inl (by simp)) _, ?_⟩, ?_⟩
      · rw [hy.out, heap_setCell, if_pos rfl, h1, Option.map_some, setAt_cells, pen_s0]
      · intro k hk
        have hkg : k ≠ g := by rcases hk with rfl | rfl <;> omega
        rw [heap_setCell, if_neg hkg]
    | false =>
      have HN := Lib.hid (h5.on hxs)
      clear hxs h5
      gi_wp2
      refine ⟨⟨hc.setCell (p := ⟨B + 1, 0, none⟩) (.inr (by show w.heap.size ≤ B + 1; omega)) _, ?_, ?_, ?_, _, ?_, HN.out⟩, by simp [World.setCell], ?_, ?_⟩
      · rw [heap_setCell, if_neg hgB]; exact h1
      · rw [heap_setCell, if_neg hB0]; exact h2
      · rw [heap_setCell, if_neg hB2]; exact h3
      · rw [heap_setCell, if_pos rfl, h4]; rfl
      · intro k hk
        have hkT : k ≠ B + 1 := by rcases hk with rfl | rfl <;> omega
        rw [heap_setCell, if_neg hkT]
      · intro k hk
        rw [heap_setCell, if_neg (hTk k hk)]
  case done =>
    rintro W ⟨hc, h1, h2, h3, f, h4, h5⟩ hd
    have hE := Lib.hid (hEND f h5)
    clear h5
    gi_wp2
    refine marks_end hd (results_none Tryz.results226 _ _ _) ⟨rfl, hc.trans2 (ch_putObj _ _ _) (by simp; omega), ?_⟩
    rw [hE.out, heap_putObj, if_neg (by omega)]; exact h1
  case stop =>
    rintro c W ⟨rfl, hc, h1⟩ hd
    gi_wp2
    refine marks_ret hd (results_none Tryz.results226 _ _ _) ⟨rfl, hc.trans2 (ch_putObj _ _ _) (by simp; omega), ?_⟩
    rw [heap_putObj, if_neg (by omega)]; exact h1
end Go.Proofs.Hc
