/- A range over a function whose body owns blocks that may change: the blocks that the iterator made for itself are kept. -/
import Derived.Test.YtmfajobocpaimaaGreatKHmet
import Derived.Test.YtmfajobocpaimaaGreatKHj
import Derived.Test.YtmfajobocpaimaaGreatKHm
import Derived.Test.YtmfajobocpaimaaGreatKHye
import Derived.Test.YtmfajobocpaimaaGreatKHq2
import Derived.Test.YtmfajobocpaimaaGreatKHh
import Derived.Test.YtmfajobocpaimaaGreatKHni
import Derived.Below
import Derived.BigQuiet
import Derived.Deep.Draws
import Derived.Deep.QuietTactic
import Derived.Laws.CopyRow
import Derived.Laws.Tables
import Derived.Lib.Hide
import Derived.LoopIn
import Derived.LoopNIn
import Derived.OwnWalkIn
import Derived.RangeFuncCalls
import Derived.RangeFuncRecord
import Derived.RangeFuncSeq
import Derived.TacticsInMore
import Derived.Test.YtmfajobocpaimaaGreatProg
import Derived.WalkKit
import Derived.Lib.AppendZerosOnto
import Derived.Lib.Tables
import Derived.Lib.Walk
import Derived.LoopN
import Derived.Maps.AppendAt
import Derived.RangeFuncBox
import Derived.Recover
import Derived.RegionTactic
import Derived.Shelf.Slices.Clone
import Derived.StillTail
import Derived.WalkLawsBesides
import Derived.WalkMore
import Derived.WalkSpells
set_option linter.unusedSimpArgs false
set_option linter.unusedVariables false
namespace Go.Proofs.Hc
open Go.RowKit
/-- As Yields; O: the blocks that the loop's body may change, new ones of its own among them. -/
def YieldsO {α : Type} (P : Program) (g : Nat) (lb : Array Value) (encs : α → Array Value) (xs : List α) (own kept : List Nat) (w : World) : Prop :=
  ∀ (n l : Nat) (J : List α → (Nat → Prop) → World → Prop) (Jx : World → Prop) (W : World) (O0 : Nat → Prop), Ch [] w W → (∀ b ∈ kept, W.heap[b]? = w.heap[b]?) →
    (∀ pre O A, J pre O A → ∀ b, O b → b < A.heap.size ∧ b ∉ kept) →
    (∀ pre O A B, J pre O A → Ch own A B → J pre O B) → (∀ A B, Jx A → Ch own A B → Jx B) →
    (∀ pre O x post W1, xs = pre ++ x :: post → J pre O W1 → YieldAt Wd n P l (encs x) W1 fun e W' =>
      (e = .returned (.bool true) ∧ (∃ O', J (pre ++ [x]) O' W' ∧ ∀ b, O' b → O b ∨ W1.heap.size ≤ b) ∧ W1.heap.size ≤ W'.heap.size ∧ ∀ b, b < W1.heap.size → ¬ O b → W'.heap[b]? = W1.heap[b]?) ∨ (e = .returned (.bool false) ∧ Jx W')) →
    J [] O0 W →
    CallsIn Wd (n + 1) P g (#[.func (.yield l) #[] #[]] ++ lb) W fun e W' => (∃ v, e = .returned v) ∧ ((∃ O, J xs O W') ∨ Jx W')
/-- How the body of a round may be left. -/
def bodyO (I : (Nat → Prop) → World → Prop) (Ix : Code → World → Prop) (O : Nat → Prop) (W : World) : Exit → Act → World → Prop
  | .normal, _, W' => (∃ O', I O' W' ∧ ∀ b, O' b → O b ∨ W.heap.size ≤ b) ∧ W.heap.size ≤ W'.heap.size ∧ ∀ b, b < W.heap.size → ¬ O b → W'.heap[b]? = W.heap[b]?
  | .ret, _, W' => Ix .ret W' ∧ ∀ b, b < W.heap.size → ¬ O b → W'.heap[b]? = W.heap[b]?
  | .exit id, _, W' => Ix (.exit id) W' ∧ ∀ b, b < W.heap.size → ¬ O b → W'.heap[b]? = W.heap[b]?
  | .goto t, _, W' => Ix (.goto t) W' ∧ ∀ b, b < W.heap.size → ¬ O b → W'.heap[b]? = W.heap[b]?
  | .panic _, _, _ => False
  | .outgrown, _, _ => False
theorem range_lawO {α : Type} {P : Program} {n : Nat} {g : Operand} {ps : Array Tmp} {assign body : Code} {Q : Exit → Act → World → Prop} {a : Act} {w : World}
    {gf : Nat} {lb : Array Value} (hg : a.eval g = .func (.func gf) #[] lb) (eg : ∀ args w, (callFunc gf args).run P w = .ok (.enter gf args) w)
    {encs : α → Array Value} {xs : List α} {own kept : List Nat} (hseq : YieldsO P gf lb encs xs own kept w) (hps : ∀ x, (encs x).size = ps.size)
    (hown : ∀ b ∈ own, b < w.heap.size) (hkept : ∀ b ∈ kept, b < w.heap.size)
    (I : List α → (Nat → Prop) → World → Prop) (Ix : Code → World → Prop) (O0 : Nat → Prop)
    (hIO : ∀ pre O A, I pre O A → ∀ b, O b → (b < w.heap.size ∨ w.heap.size + 2 ≤ b) ∧ b < A.heap.size ∧ b ∉ kept)
    (hI : ∀ pre O A B, I pre O A → Ch ((w.heap.size + 1) :: own) A B → I pre O B) (hIx : ∀ c A B, Ix c A → Ch ((w.heap.size + 1) :: own) A B → Ix c B) (h0 : I [] O0 w) (a₁ : α → Act)
    (hassign : ∀ (x : α) (W : World) (K : Act → World → Prop), K (a₁ x) W →
      assign.wpIn (Wd.inRound (w.heap.size + 1)) n P (Exit.then K (fun _ _ _ => False)) { tmps := (ps.zip (encs x)).foldl (fun t (p, v) => t.setIfInBounds p v) a.tmps, defers := [] } W)
    (hbody : ∀ (pre : List α) (O : Nat → Prop) (x : α) (post : List α) (W : World), xs = pre ++ x :: post → I pre O W → w.heap.size + 2 ≤ W.heap.size →
      body.wpIn (Wd.inRound (w.heap.size + 1)) n P (bodyO (I (pre ++ [x])) Ix O W) (a₁ x) W)
    (hdone : ∀ (O : Nat → Prop) (W : World), I xs O W → W.heap[w.heap.size]? = some (.deferred (some [])) → Q .normal { a with defers := { target := .collected w.heap.size, args := #[] } :: a.defers } W)
    (hstop : ∀ (c : Code) (W : World), Ix c W → W.heap[w.heap.size]? = some (.deferred (some [])) → c.wpIn Wd (n + 2) P Q { a with defers := { target := .collected w.heap.size, args := #[] } :: a.defers } W) :
    (Code.rangeFunc g ps assign body).wpIn Wd (n + 2) P Q a w := by
  refine wpIn_rangeFunc ?_
  intro fn hfn
  rw [show Wd.round = none from rfl]
  obtain ⟨rec, hrec⟩ : ∃ rec : LoopState → Option Code → Loop, rec = fun st pe => { state := st, pending := pe, fn, tmps := a.tmps, params := ps, assign, body, defers := w.heap.size } := ⟨_, rfl⟩
  obtain ⟨W1, hW1⟩ : ∃ W1, (w.alloc (.deferred (some []))).alloc (.loop (rec .ready none)) = W1 := ⟨_, rfl⟩
  have hL1 : W1.heap[w.heap.size + 1]? = some (.loop (rec .ready none)) := by
    rw [← hW1, heap_alloc, if_pos (by simp)]
  have hK1 : W1.heap[w.heap.size]? = some (.deferred (some [])) := by
    rw [← hW1, heap_alloc, if_neg (by simp), heap_alloc, if_pos rfl]
  have hC1 : Ch [] w W1 := by rw [← hW1]; exact ((Ch.refl [] w).alloc _).alloc _
  have hsz1 : W1.heap.size = w.heap.size + 2 := by rw [← hW1]; simp
  refine ⟨w.heap.size + 1, [{ target := .collected w.heap.size, args := #[] }], W1, { target := .fn (.func gf) lb, args := #[.func (.yield (w.heap.size + 1)) #[] #[]] }, W1, gf,
    #[.func (.yield (w.heap.size + 1)) #[] #[]] ++ lb, W1, ?_, ?_, fun _ _ => trivial, ?_, fun _ => by omega, ?_⟩
  · rw [← hW1, hrec]; exact run_enterLoop_outer _ _ _ _ _
  · simp only [resolve, hg]
    simp [go_sem]
  · simp [invoke, go_sem, eg]
  · have hne : w.heap.size ∉ (w.heap.size + 1) :: own := by
      simp only [List.mem_cons, not_or]; exact ⟨by omega, fun hb => by have := hown _ hb; omega⟩
    have hle : w.heap.size + 1 ∉ own := fun hb => by have := hown _ hb; omega
    have hne' : w.heap.size ∉ own := fun hb => by have := hown _ hb; omega
    refine (hseq n (w.heap.size + 1)
      (fun pre O W => I pre O W ∧ W.heap[w.heap.size + 1]? = some (.loop (rec .ready none)) ∧ W.heap[w.heap.size]? = some (.deferred (some [])))
      (fun W => ∃ c, Ix c W ∧ W.heap[w.heap.size + 1]? = some (.loop (rec .done (some c))) ∧ W.heap[w.heap.size]? = some (.deferred (some [])))
      W1 O0 hC1 (fun b hb => hC1.block b (hkept b hb) (by simp)) ?_ ?_ ?_ ?_ ⟨hI _ _ _ _ h0 hC1.of_nil, hL1, hK1⟩).mono ?_
    · rintro pre O A ⟨hi, _, _⟩ b hb
      exact (hIO _ _ _ hi b hb).2
    · rintro pre O A B ⟨hi, hl, hk⟩ hc
      exact ⟨hI _ _ _ _ hi (hc.mono fun s hs => .tail _ hs), (hc.block _ (Array.getElem?_eq_some_iff.1 hl).1 hle).trans hl, (hc.block _ (Array.getElem?_eq_some_iff.1 hk).1 hne').trans hk⟩
    · rintro A B ⟨c, hi, hl, hk⟩ hc
      exact ⟨c, hIx _ _ _ hi (hc.mono fun s hs => .tail _ hs), (hc.block _ (Array.getElem?_eq_some_iff.1 hl).1 hle).trans hl, (hc.block _ (Array.getElem?_eq_some_iff.1 hk).1 hne').trans hk⟩
    · rintro pre O x post W hxs ⟨hi, hl, hk⟩
      have hlt : w.heap.size + 1 < W.heap.size := (Array.getElem?_eq_some_iff.1 hl).1
      have hy := run_yield (P := P) (args := encs x) hl (by rw [hrec]; exact hps x)
      rw [hrec] at hy
      have hDO : ¬ O w.heap.size := fun h => by have := (hIO _ _ _ hi _ h).1; omega
      have hLO : ¬ O (w.heap.size + 1) := fun h => by have := (hIO _ _ _ hi _ h).1; omega
      refine ⟨fn, _, assign, body, hy, roundIn_of_wpIn trivial (hassign x W _ ⟨_, run_beginRound hl (by rw [hrec]), ?_⟩)⟩
      have hl2 : (W.putObj (w.heap.size + 1) (.loop { rec .ready none with state := .busy })).heap[w.heap.size + 1]? = some (.loop { rec .ready none with state := .busy }) := World.putObj_heap_same hlt
      have hk2 : (W.putObj (w.heap.size + 1) (.loop { rec .ready none with state := .busy })).heap[w.heap.size]? = some (.deferred (some [])) := (World.putObj_heap_other (by omega)).trans hk
      have hzz : (W.putObj (w.heap.size + 1) (.loop { rec .ready none with state := .busy })).heap.size = W.heap.size := by simp
      refine wpIn_mono (hbody pre O x post _ hxs (hI _ _ _ _ hi ((ch_putObj _ _ _).mono fun s hs => by rw [List.mem_singleton.1 hs]; exact .head _)) (by simp; omega)) ?_
      have fin : ∀ (jump : Option Code) (W3 : World), (∀ b, b < W.heap.size → ¬ O b → W3.heap[b]? = (W.putObj (w.heap.size + 1) (.loop { rec .ready none with state := .busy })).heap[b]?) →
          (Instr.endRound (w.heap.size + 1) jump).run P W3 = .ok (.bool jump.isNone) (W3.putObj (w.heap.size + 1) (.loop (rec (if jump.isNone then .ready else .done) jump))) ∧
          (W3.putObj (w.heap.size + 1) (.loop (rec (if jump.isNone then .ready else .done) jump))).heap[w.heap.size + 1]? = some (.loop (rec (if jump.isNone then .ready else .done) jump)) ∧
          (W3.putObj (w.heap.size + 1) (.loop (rec (if jump.isNone then .ready else .done) jump))).heap[w.heap.size]? = some (.deferred (some [])) := fun jump W3 hk3 => by
        have hl3 := (hk3 _ hlt hLO).trans hl2
        have := run_endRound (P := P) jump hl3
        rw [hrec] at this ⊢
        exact ⟨this, World.putObj_heap_same (Array.getElem?_eq_some_iff.1 hl3).1, (World.putObj_heap_other (by omega)).trans ((hk3 _ (by omega) hDO).trans hk2)⟩
      have one : ∀ s ∈ [w.heap.size + 1], s ∈ (w.heap.size + 1) :: own := fun s hs => by rw [List.mem_singleton.1 hs]; exact .head _
      rintro e a3 W3 hp
      cases e with
      | normal =>
        obtain ⟨⟨O', hi3, hO'⟩, hz3, hk3⟩ := hp
        rw [hzz] at hk3 hz3 hO'
        obtain ⟨hr, hl4, hk4⟩ := fin none W3 hk3
        refine ⟨_, _, hr, .inl ⟨rfl, ⟨O', ⟨hI _ _ _ _ hi3 ((ch_putObj _ _ _).mono one), hl4, hk4⟩, hO'⟩, by simpa using hz3, fun b hb hn => ?_⟩⟩
        by_cases hbl : b = w.heap.size + 1
        · subst hbl; exact hl4.trans hl.symm
        · exact (World.putObj_heap_other hbl).trans ((hk3 b hb hn).trans (World.putObj_heap_other hbl))
      | ret =>
        obtain ⟨hi3, hk3⟩ := hp
        rw [hzz] at hk3
        obtain ⟨hr, hl4, hk4⟩ := fin (some .ret) W3 hk3
        exact ⟨_, _, hr, .inr ⟨rfl, .ret, hIx _ _ _ hi3 ((ch_putObj _ _ _).mono one), hl4, hk4⟩⟩
      | exit id =>
        obtain ⟨hi3, hk3⟩ := hp
        rw [hzz] at hk3
        obtain ⟨hr, hl4, hk4⟩ := fin (some (.exit id)) W3 hk3
        exact ⟨_, _, hr, .inr ⟨rfl, .exit id, hIx _ _ _ hi3 ((ch_putObj _ _ _).mono one), hl4, hk4⟩⟩
      | goto t =>
        obtain ⟨hi3, hk3⟩ := hp
        rw [hzz] at hk3
        obtain ⟨hr, hl4, hk4⟩ := fin (some (.goto t)) W3 hk3
        exact ⟨_, _, hr, .inr ⟨rfl, .goto t, hIx _ _ _ hi3 ((ch_putObj _ _ _).mono one), hl4, hk4⟩⟩
      | panic ch => exact hp.elim
      | outgrown => exact hp.elim
    · have one : ∀ s ∈ [w.heap.size + 1], s ∈ (w.heap.size + 1) :: own := fun s hs => by rw [List.mem_singleton.1 hs]; exact .head _
      rintro e W2 ⟨⟨v, rfl⟩, ⟨O, hi, hl, hk⟩ | ⟨c, hi, hl, hk⟩⟩
      · exact ⟨none, _, by have := run_endLoop (P := P) hl (by rw [hrec]; simp); rw [hrec] at this; exact this, hdone O _ (hI _ _ _ _ hi ((ch_putObj _ _ _).mono one)) ((World.putObj_heap_other (by omega)).trans hk)⟩
      · exact ⟨some c, _, by have := run_endLoop (P := P) hl (by rw [hrec]; simp); rw [hrec] at this; exact this, hstop c _ (hIx _ _ _ hi ((ch_putObj _ _ _).mono one)) ((World.putObj_heap_other (by omega)).trans hk)⟩
end Go.Proofs.Hc
/- Package table: the row of a key's groups, told one by one. -/
namespace Go.Proofs.Hc
open Go.RowKit
attribute [local go_sem] wrap_u64 wrap_u8 bits_xor64 bits_and64 bits_or64 bits_not64 bits_xor8 bits_and8 bits_or8 signed64 signed8 ofInt_N BitVec.ofInt_add BitVec.ofInt_mul ofInt_sub' ofInt8_N64 ofInt64_N8 wide8 eqN neN shr_pow shr1 shr7 shr56
attribute [local go_sem high] bits_com64 shl_wrap
attribute [local go_sem] cell_heap ice_heap cellAt_cells iceAt_cells setAt_cells rowAt_cells canLay_cells laidAt_cells size_onObj size_setCell rowRes_some layRes_true
attribute [local go_sem] load26 load73 load23 store26 build73
attribute [local go_sem ↓] lrow26 lrow73 lrow23 srow26 zero26 brow73 heap_alloc heap_drew heap_drewN heap_setCell heap_onObj
attribute [local go_sem] tcells_size hcells_size tcells_get hcells_get tcells_one hcells_one hcells_table tcells_table hcells_all hcells_ctrl tcells_ctrl
attribute [local go_sem] nn2 nm2 nn3 nm3 nn4 nm4 nn5 nm5 nn6 nm6 nn7 nm7 nn8 nm8
attribute [local go_sem] nn2 nm2 nn3 nm3 nn4 nm4 nn5 nm5 nn6 nm6 nn7 nm7 nn8 nm8
attribute [local go_sem] Oper.semAt_some make_func1
attribute [local go_sem] box26 tcells_idx cell0 cell1 cell2 cell3 cell4 hcells_idx hcells_pop
/-- The first group of a key. -/
def gOf (s k : BitVec 64) : Nat := g0 (hash1 (hashOf s k))
/-- A key's groups, as long as their control words do not stop. -/
def rowT (t : Tab) (s k : BitVec 64) : List Nat := if emptyM (t.c (gOf s k)) != 0#8 then [gOf s k] else [gOf s k, 1 - gOf s k]
theorem hcells_ctrl_at (t : Tab) (s : BitVec 64) (g : Nat) (h : g < 2) : (hcells t s)[5 + g]? = some (U (t.c g)) := by
  rw [hcells_get, if_pos (by omega), if_neg (by omega)]
  match g, h with
  | 0, _ => rfl
  | 1, _ => rfl
theorem lt_two {g : Nat} (h : g < 2) : g = 0 ∨ g = 1 := by omega
theorem cell5 (t : Tab) : t.cell 5 = U (t.c 0) := rfl
theorem cell6 (t : Tab) : t.cell 6 = U (t.c 1) := rfl
attribute [local go_sem] cell5 cell6
theorem pick_ok (t : Tab) (g : Nat) (h : g < 2) (h0 : ctrlOk (t.c 0) = true) (h1 : ctrlOk (t.c 1) = true) : ctrlOk (t.c g) = true := by
  match g, h with
  | 0, _ => exact h0
  | 1, _ => exact h1
theorem enters_row (args : Array Value) (w : World) : (callFunc 193 args).run Tryz.prog w = .ok (.enter 193 args) w := by kernel_rfl
set_option maxHeartbeats 4000000 in
set_option maxRecDepth 100000 in
theorem row_yields (t : Tab) (s k : BitVec 64) (b p q : Nat) (w : World) (hok0 : ctrlOk (t.c 0) = true) (hok1 : ctrlOk (t.c 1) = true) (hb : w.heap[b]? = some (.cells (hcells t s) 112 (0, 0)))
    (hp : w.heap[p]? = some (.cells #[.pointer (some ⟨b, 0, none⟩)] 109 (0, 0))) (hq : w.heap[q]? = some (.cells #[U k] 22 (0, 0))) :
    YieldsO Tryz.prog 193 #[.pointer (some ⟨p, 0, none⟩), .pointer (some ⟨q, 0, none⟩)] (fun g : Nat => #[I g]) (rowT t s k) [] [b, p, q] w := by
  intro n l J Jx W O0 hW hk hO hJ hJx hY h0
  have hb' := (hk b (by simp)).trans hb
  have hp' := (hk p (by simp)).trans hp
  have hq' := (hk q (by simp)).trans hq
  clear hb hp hq hk hW
  have H1 := fun w => hashOf_any s k w
  have H2 := fun w => hash1_any (hashOf s k) w
  have H3 := fun w => row_any (hash1 (hashOf s k)) w
  have hg2 := g0_lt (hash1 (hashOf s k))
  unfold rowT gOf at hY ⊢
  generalize g0 (hash1 (hashOf s k)) = g at *
  generalize hash1 (hashOf s k) = h1 at *
  generalize hashOf s k = h0' at *
  have S1 : ∀ w, Calls Tryz.prog 92 #[U (t.c g)] w fun e w' => e = .returned (.bool (emptyM (t.c g) != 0#8)) ∧ Ch [] w w' := fun w => stops_ok (t.c g) (pick_ok t g hg2 hok0 hok1) w
  have S2 : ∀ w, Calls Tryz.prog 92 #[U (t.c (1 - g))] w fun e w' => e = .returned (.bool (emptyM (t.c (1 - g)) != 0#8)) ∧ Ch [] w w' := fun w => stops_ok (t.c (1 - g)) (pick_ok t (1 - g) (Nat.lt_of_le_of_lt (Nat.sub_le 1 g) (Nat.lt_succ_self 1)) hok0 hok1) w
  clear hok0 hok1
  generalize (emptyM (t.c g) != 0#8) = st at *
  generalize (emptyM (t.c (1 - g)) != 0#8) = st2 at *
  have hgW : ∀ g : Gar W, (g.1).heap[b]? = some (.cells (hcells t s) 112 (0, 0)) ∧ (g.1).heap[p]? = some (.cells #[.pointer (some ⟨b, 0, none⟩)] 109 (0, 0)) ∧ (g.1).heap[q]? = some (.cells #[U k] 22 (0, 0)) :=
    fun g => ⟨(g.2.block b (Array.getElem?_eq_some_iff.1 hb').1 (by simp)).trans hb', (g.2.block p (Array.getElem?_eq_some_iff.1 hp').1 (by simp)).trans hp', (g.2.block q (Array.getElem?_eq_some_iff.1 hq').1 (by simp)).trans hq'⟩
  have hgb := fun g => (hgW g).1
  have hgp := fun g => (hgW g).2.1
  have hgq := fun g => (hgW g).2.2
  have hkk : ∀ W' : World, Ch [] W W' → W'.heap[b]? = some (.cells (hcells t s) 112 (0, 0)) ∧ W'.heap[p]? = some (.cells #[.pointer (some ⟨b, 0, none⟩)] 109 (0, 0)) := fun W' c => ⟨hgb ⟨W', c⟩, hgp ⟨W', c⟩⟩
  clear hgW hb' hp' hq'
  refine callsIn_of_wp Tryz.func193 rfl trivial ?_
  simp only [Tryz.ntmps193, List.size_toArray, List.length_cons, List.length_nil, Nat.reduceAdd, Nat.reduceSub, Array.replicate_succ, Array.replicate_zero, List.push_toArray, List.append_toArray, List.nil_append, List.cons_append]
  gi_wp2
  refine wpIn_wide.2 (wp_region_gar_mid 5 2 (by kernel_rfl) (by kernel_rfl) ?_)
  simp only [List.take_succ_cons, List.take_zero, List.drop_succ_cons, List.drop_zero]
  repeat (go_big_quiet_step (fail))
  refine wpQuiet_nil ?_
  rintro W1 ⟨g1, hw1⟩
  have hc1 : Ch [] W W1 := by rw [hw1]; exact g1.2
  clear hw1 g1 hgb hgp hgq
  go_wp2_with (first
    | (go_at_call 54; refine (H1 _).mono ?_; rintro e w' ⟨rfl, rfl⟩)
    | (go_at_call 195; refine (H2 _).mono ?_; rintro e w' ⟨rfl, rfl⟩)
    | (go_at_call 194; refine (H3 _).mono ?_; rintro e W2 ⟨v, rfl, hown, hc2⟩))
  have hC2 : Ch [] W W2 := hc1.trans hc2
  obtain ⟨r, cap, rfl⟩ := ownsRow_succ hown
  have hown' := hown
  obtain ⟨_, ⟨hx, _⟩ | ⟨r', cap', cur, hv, hrW, hr, hc2', hcm, hsz, hcur⟩⟩ := hown'
  · cases hx
  cases hv
  have hrow : W2.heap[r]? = some (.cells cur 3 (0, 0)) := hr
  have hcur0 : cur[0]? = some (I g) := by
    have : (cur.toList.take (2 * 1))[0]? = some (I g) := by rw [hcur]; rfl
    simpa using this
  have hcur1 : cur[1]? = some (I (1 - g : Nat)) := by
    have : (cur.toList.take (2 * 1))[1]? = some (I (1 - g : Nat)) := by rw [hcur]; rfl
    simpa using this
  repeat (go_big_quiet_step (fail))
  refine wpQuiet_nil ?_
  rintro W3 ⟨g3, hw3⟩
  have hc3 : Ch [] W2 W3 := by rw [hw3]; exact g3.2
  clear hw3 g3
  have hrow3 : W3.heap[r]? = some (.cells cur 3 (0, 0)) := (hc3.block r (Array.getElem?_eq_some_iff.1 hrow).1 (by simp)).trans hrow
  have hC3 : Ch [] W W3 := hC2.trans hc3
  obtain ⟨hb3, hp3⟩ := hkk W3 hC3
  have hJ3 := hJ _ _ _ _ h0 hC3
  have hrO : ¬ O0 r := fun h => by have := (hO _ _ _ h0 r h).1; have := hc1.size; omega
  clear hown hr hrow hc1 hc2 hc3 hC2 hcur hsz
  have hnb : b ∈ [b, p, q] ∧ p ∈ [b, p, q] := by simp
  have ob0 : ¬ O0 b := fun h => (hO _ _ _ h0 b h).2 hnb.1
  have op0 : ¬ O0 p := fun h => (hO _ _ _ h0 p h).2 hnb.2
  rcases lt_two hg2 with rfl | rfl
  · have hcur0 : cur[0]? = some (.int .i64 0) := hcur0
    have hcur1 : cur[1]? = some (.int .i64 1) := hcur1
    have S1 : ∀ w, Calls Tryz.prog 92 #[U (t.c 0)] w fun e w' => e = .returned (.bool st) ∧ Ch [] w w' := S1
    have S2 : ∀ w, Calls Tryz.prog 92 #[U (t.c 1)] w fun e w' => e = .returned (.bool st2) ∧ Ch [] w w' := S2
    gi_wp2
    refine wpIn_loop_rounds 3 ?_
    rw [roundsIn_succ]
    gi_wp2
    cases st with
    | true =>
      obtain ⟨fn, tmps, assign, body, hy, hR⟩ := hY [] O0 0 [] W3 rfl hJ3
      have hy : Sem.run Tryz.prog (Instr.yield l #[.int .i64 0]) W3 = .ok (.round l fn tmps assign body) W3 := hy
      gi_wp2
      first
        | refine hR.mono ?_
        | (rw [show Sem.run Tryz.prog (Instr.yield l #[I 0]) W3 = _ from hy]
           gi_wp2
           refine hR.mono ?_)
      clear hy hR
      rintro e W4 (⟨rfl, ⟨O', hJ4, hO'⟩, hz4, hk4⟩ | ⟨rfl, hJx4⟩)
      · have hb4 := (hk4 b (Array.getElem?_eq_some_iff.1 hb3).1 ob0).trans hb3
        have hp4 := (hk4 p (Array.getElem?_eq_some_iff.1 hp3).1 op0).trans hp3
        have hrow4 := (hk4 r (Array.getElem?_eq_some_iff.1 hrow3).1 hrO).trans hrow3
        have hl3 : b < W3.heap.size ∧ p < W3.heap.size ∧ r < W3.heap.size := ⟨(Array.getElem?_eq_some_iff.1 hb3).1, (Array.getElem?_eq_some_iff.1 hp3).1, (Array.getElem?_eq_some_iff.1 hrow3).1⟩
        have bO' : ¬ O' b ∧ ¬ O' p ∧ ¬ O' r := ⟨fun h => (hO' b h).elim ob0 (fun h => Nat.lt_irrefl _ (Nat.lt_of_lt_of_le hl3.1 h)), fun h => (hO' p h).elim op0 (fun h => Nat.lt_irrefl _ (Nat.lt_of_lt_of_le hl3.2.1 h)), fun h => (hO' r h).elim hrO (fun h => Nat.lt_irrefl _ (Nat.lt_of_lt_of_le hl3.2.2 h))⟩
        clear hk4 hl3
        gi_wp2_with (refine ⟨trivial, ?_⟩; gi_at_call 92; refine (callsIn_wide.2 (S1 _)).mono ?_; rintro e W5 ⟨rfl, hc5⟩)
        refine bodyPost_ret (results_none rfl _ _ _) rfl ?_
        exact ⟨⟨_, rfl⟩, .inl ⟨_, hJ _ _ _ _ hJ4 hc5⟩⟩
      · gi_wp2
        refine ⟨trivial, ?_⟩
        gi_wp2
        refine bodyPost_ret (results_none rfl _ _ _) rfl ?_
        exact ⟨⟨_, rfl⟩, .inr hJx4⟩
    | false =>
      obtain ⟨fn, tmps, assign, body, hy, hR⟩ := hY [] O0 0 [1 - 0] W3 rfl hJ3
      have hy : Sem.run Tryz.prog (Instr.yield l #[.int .i64 0]) W3 = .ok (.round l fn tmps assign body) W3 := hy
      gi_wp2
      first
        | refine hR.mono ?_
        | (rw [show Sem.run Tryz.prog (Instr.yield l #[I 0]) W3 = _ from hy]
           gi_wp2
           refine hR.mono ?_)
      clear hy hR
      rintro e W4 (⟨rfl, ⟨O', hJ4, hO'⟩, hz4, hk4⟩ | ⟨rfl, hJx4⟩)
      · have hb4 := (hk4 b (Array.getElem?_eq_some_iff.1 hb3).1 ob0).trans hb3
        have hp4 := (hk4 p (Array.getElem?_eq_some_iff.1 hp3).1 op0).trans hp3
        have hrow4 := (hk4 r (Array.getElem?_eq_some_iff.1 hrow3).1 hrO).trans hrow3
        have hl3 : b < W3.heap.size ∧ p < W3.heap.size ∧ r < W3.heap.size := ⟨(Array.getElem?_eq_some_iff.1 hb3).1, (Array.getElem?_eq_some_iff.1 hp3).1, (Array.getElem?_eq_some_iff.1 hrow3).1⟩
        have bO' : ¬ O' b ∧ ¬ O' p ∧ ¬ O' r := ⟨fun h => (hO' b h).elim ob0 (fun h => Nat.lt_irrefl _ (Nat.lt_of_lt_of_le hl3.1 h)), fun h => (hO' p h).elim op0 (fun h => Nat.lt_irrefl _ (Nat.lt_of_lt_of_le hl3.2.1 h)), fun h => (hO' r h).elim hrO (fun h => Nat.lt_irrefl _ (Nat.lt_of_lt_of_le hl3.2.2 h))⟩
        clear hk4 hl3
        gi_wp2_with (refine ⟨trivial, ?_⟩; gi_at_call 92; refine (callsIn_wide.2 (S1 _)).mono ?_; rintro e W5 ⟨rfl, hc5⟩)
        have hb5 := (hc5.block b (Array.getElem?_eq_some_iff.1 hb4).1 (by simp)).trans hb4
        have hp5 := (hc5.block p (Array.getElem?_eq_some_iff.1 hp4).1 (by simp)).trans hp4
        have hrow5 := (hc5.block r (Array.getElem?_eq_some_iff.1 hrow4).1 (by simp)).trans hrow4
        obtain ⟨fn2, tmps2, assign2, body2, hy2, hR2⟩ := hY [0] O' (1 - 0) [] W5 rfl (hJ _ _ _ _ hJ4 hc5)
        have hy2 : Sem.run Tryz.prog (Instr.yield l #[.int .i64 1]) W5 = .ok (.round l fn2 tmps2 assign2 body2) W5 := hy2
        clear hb4 hp4 hrow4
        rw [roundsIn_succ]
        gi_wp2
        first
          | refine hR2.mono ?_
          | (rw [show Sem.run Tryz.prog (Instr.yield l #[I 1]) W5 = _ from hy2]
             gi_wp2
             refine hR2.mono ?_)
        clear hy2 hR2
        rintro e W6 (⟨rfl, ⟨O6, hJ6, hO6⟩, hz6, hk6⟩ | ⟨rfl, hJx6⟩)
        · have hb6 := (hk6 b (Array.getElem?_eq_some_iff.1 hb5).1 bO'.1).trans hb5
          have hp6 := (hk6 p (Array.getElem?_eq_some_iff.1 hp5).1 bO'.2.1).trans hp5
          clear hk6
          cases st2
          all_goals
            gi_wp2_with (refine ⟨trivial, ?_⟩; gi_at_call 92; refine (callsIn_wide.2 (S2 _)).mono ?_; rintro e W7 ⟨rfl, hc7⟩)
            first
              | (refine bodyPost_ret (results_none rfl _ _ _) rfl ?_
                 exact ⟨⟨_, rfl⟩, .inl ⟨_, hJ _ _ _ _ hJ6 hc7⟩⟩)
              | (rw [roundsIn_succ]
                 gi_wp2
                 refine bodyPost_end (results_none rfl _ _ _) rfl ?_
                 exact ⟨⟨_, rfl⟩, .inl ⟨_, hJ _ _ _ _ hJ6 hc7⟩⟩)
        · gi_wp2
          refine ⟨trivial, ?_⟩
          gi_wp2
          refine bodyPost_ret (results_none rfl _ _ _) rfl ?_
          exact ⟨⟨_, rfl⟩, .inr hJx6⟩
      · gi_wp2
        refine ⟨trivial, ?_⟩
        gi_wp2
        refine bodyPost_ret (results_none rfl _ _ _) rfl ?_
        exact ⟨⟨_, rfl⟩, .inr hJx4⟩
  · have hcur0 : cur[0]? = some (.int .i64 1) := hcur0
    have hcur1 : cur[1]? = some (.int .i64 0) := hcur1
    have S1 : ∀ w, Calls Tryz.prog 92 #[U (t.c 1)] w fun e w' => e = .returned (.bool st) ∧ Ch [] w w' := S1
    have S2 : ∀ w, Calls Tryz.prog 92 #[U (t.c 0)] w fun e w' => e = .returned (.bool st2) ∧ Ch [] w w' := S2
    gi_wp2
    refine wpIn_loop_rounds 3 ?_
    rw [roundsIn_succ]
    gi_wp2
    cases st with
    | true =>
      obtain ⟨fn, tmps, assign, body, hy, hR⟩ := hY [] O0 1 [] W3 rfl hJ3
      have hy : Sem.run Tryz.prog (Instr.yield l #[.int .i64 1]) W3 = .ok (.round l fn tmps assign body) W3 := hy
      gi_wp2
      first
        | refine hR.mono ?_
        | (rw [show Sem.run Tryz.prog (Instr.yield l #[I 1]) W3 = _ from hy]
           gi_wp2
           refine hR.mono ?_)
      clear hy hR
      rintro e W4 (⟨rfl, ⟨O', hJ4, hO'⟩, hz4, hk4⟩ | ⟨rfl, hJx4⟩)
      · have hb4 := (hk4 b (Array.getElem?_eq_some_iff.1 hb3).1 ob0).trans hb3
        have hp4 := (hk4 p (Array.getElem?_eq_some_iff.1 hp3).1 op0).trans hp3
        have hrow4 := (hk4 r (Array.getElem?_eq_some_iff.1 hrow3).1 hrO).trans hrow3
        have hl3 : b < W3.heap.size ∧ p < W3.heap.size ∧ r < W3.heap.size := ⟨(Array.getElem?_eq_some_iff.1 hb3).1, (Array.getElem?_eq_some_iff.1 hp3).1, (Array.getElem?_eq_some_iff.1 hrow3).1⟩
        have bO' : ¬ O' b ∧ ¬ O' p ∧ ¬ O' r := ⟨fun h => (hO' b h).elim ob0 (fun h => Nat.lt_irrefl _ (Nat.lt_of_lt_of_le hl3.1 h)), fun h => (hO' p h).elim op0 (fun h => Nat.lt_irrefl _ (Nat.lt_of_lt_of_le hl3.2.1 h)), fun h => (hO' r h).elim hrO (fun h => Nat.lt_irrefl _ (Nat.lt_of_lt_of_le hl3.2.2 h))⟩
        clear hk4 hl3
        gi_wp2_with (refine ⟨trivial, ?_⟩; gi_at_call 92; refine (callsIn_wide.2 (S1 _)).mono ?_; rintro e W5 ⟨rfl, hc5⟩)
        refine bodyPost_ret (results_none rfl _ _ _) rfl ?_
        exact ⟨⟨_, rfl⟩, .inl ⟨_, hJ _ _ _ _ hJ4 hc5⟩⟩
      · gi_wp2
        refine ⟨trivial, ?_⟩
        gi_wp2
        refine bodyPost_ret (results_none rfl _ _ _) rfl ?_
        exact ⟨⟨_, rfl⟩, .inr hJx4⟩
    | false =>
      obtain ⟨fn, tmps, assign, body, hy, hR⟩ := hY [] O0 1 [1 - 1] W3 rfl hJ3
      have hy : Sem.run Tryz.prog (Instr.yield l #[.int .i64 1]) W3 = .ok (.round l fn tmps assign body) W3 := hy
      gi_wp2
      first
        | refine hR.mono ?_
        | (rw [show Sem.run Tryz.prog (Instr.yield l #[I 1]) W3 = _ from hy]
           gi_wp2
           refine hR.mono ?_)
      clear hy hR
      rintro e W4 (⟨rfl, ⟨O', hJ4, hO'⟩, hz4, hk4⟩ | ⟨rfl, hJx4⟩)
      · have hb4 := (hk4 b (Array.getElem?_eq_some_iff.1 hb3).1 ob0).trans hb3
        have hp4 := (hk4 p (Array.getElem?_eq_some_iff.1 hp3).1 op0).trans hp3
        have hrow4 := (hk4 r (Array.getElem?_eq_some_iff.1 hrow3).1 hrO).trans hrow3
        have hl3 : b < W3.heap.size ∧ p < W3.heap.size ∧ r < W3.heap.size := ⟨(Array.getElem?_eq_some_iff.1 hb3).1, (Array.getElem?_eq_some_iff.1 hp3).1, (Array.getElem?_eq_some_iff.1 hrow3).1⟩
        have bO' : ¬ O' b ∧ ¬ O' p ∧ ¬ O' r := ⟨fun h => (hO' b h).elim ob0 (fun h => Nat.lt_irrefl _ (Nat.lt_of_lt_of_le hl3.1 h)), fun h => (hO' p h).elim op0 (fun h => Nat.lt_irrefl _ (Nat.lt_of_lt_of_le hl3.2.1 h)), fun h => (hO' r h).elim hrO (fun h => Nat.lt_irrefl _ (Nat.lt_of_lt_of_le hl3.2.2 h))⟩
        clear hk4 hl3
        gi_wp2_with (refine ⟨trivial, ?_⟩; gi_at_call 92; refine (callsIn_wide.2 (S1 _)).mono ?_; rintro e W5 ⟨rfl, hc5⟩)
        have hb5 := (hc5.block b (Array.getElem?_eq_some_iff.1 hb4).1 (by simp)).trans hb4
        have hp5 := (hc5.block p (Array.getElem?_eq_some_iff.1 hp4).1 (by simp)).trans hp4
        have hrow5 := (hc5.block r (Array.getElem?_eq_some_iff.1 hrow4).1 (by simp)).trans hrow4
        obtain ⟨fn2, tmps2, assign2, body2, hy2, hR2⟩ := hY [1] O' (1 - 1) [] W5 rfl (hJ _ _ _ _ hJ4 hc5)
        have hy2 : Sem.run Tryz.prog (Instr.yield l #[.int .i64 0]) W5 = .ok (.round l fn2 tmps2 assign2 body2) W5 := hy2
        clear hb4 hp4 hrow4
        rw [roundsIn_succ]
        gi_wp2
        first
          | refine hR2.mono ?_
          | (rw [show Sem.run Tryz.prog (Instr.yield l #[I 0]) W5 = _ from hy2]
             gi_wp2
             refine hR2.mono ?_)
        clear hy2 hR2
        rintro e W6 (⟨rfl, ⟨O6, hJ6, hO6⟩, hz6, hk6⟩ | ⟨rfl, hJx6⟩)
        · have hb6 := (hk6 b (Array.getElem?_eq_some_iff.1 hb5).1 bO'.1).trans hb5
          have hp6 := (hk6 p (Array.getElem?_eq_some_iff.1 hp5).1 bO'.2.1).trans hp5
          clear hk6
          cases st2
          all_goals
            gi_wp2_with (refine ⟨trivial, ?_⟩; gi_at_call 92; refine (callsIn_wide.2 (S2 _)).mono ?_; rintro e W7 ⟨rfl, hc7⟩)
            first
              | (refine bodyPost_ret (results_none rfl _ _ _) rfl ?_
                 exact ⟨⟨_, rfl⟩, .inl ⟨_, hJ _ _ _ _ hJ6 hc7⟩⟩)
              | (rw [roundsIn_succ]
                 gi_wp2
                 refine bodyPost_end (results_none rfl _ _ _) rfl ?_
                 exact ⟨⟨_, rfl⟩, .inl ⟨_, hJ _ _ _ _ hJ6 hc7⟩⟩)
        · gi_wp2
          refine ⟨trivial, ?_⟩
          gi_wp2
          refine bodyPost_ret (results_none rfl _ _ _) rfl ?_
          exact ⟨⟨_, rfl⟩, .inr hJx6⟩
      · gi_wp2
        refine ⟨trivial, ?_⟩
        gi_wp2
        refine bodyPost_ret (results_none rfl _ _ _) rfl ?_
        exact ⟨⟨_, rfl⟩, .inr hJx4⟩
end Go.Proofs.Hc
