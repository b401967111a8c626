/- A region that draws its order: its first operations read, or call what changes no old block; the others are forced behind them, one by one, and may write. -/
import Derived.Test.YtcikopeddljgkaaGreatJHmet
import Derived.Lib.Tables
import Derived.LoopIn
import Derived.LoopNIn
import Derived.OwnWalkIn
import Derived.RangeFuncBox
import Derived.RangeFuncCalls
import Derived.Shelf.Slices.Clone
import Derived.TacticsInMore
import Derived.WalkLawsBesides
import Derived.WalkSpells
import Derived.Lib.AppendZerosOnto
import Derived.Deep.Light
import Derived.Deep.RegionHeld
import Derived.StillTailTactics
import Derived.OpenShut
import Derived.ProofKit
import Derived.Deep.Slices
set_option linter.unusedSimpArgs false
set_option linter.unusedVariables false
set_option maxHeartbeats 2000000
set_option maxRecDepth 100000
namespace Go.Proofs.Hc
open Go.RowKit
section
variable {P : Program} {ops : Array Oper} {md : Region.Mode} {C : World → Prop}
def headAny (P : Program) (md : Region.Mode) (ops : Array Oper) (C : World → Prop) (n : Nat) (L : Array Bool → Act → Prop) : Nat → Array Bool → Act → Prop
  | 0, listed, a => L listed a
  | f + 1, listed, a => Region.ready md ops listed ≠ [] ∧ ∀ i ∈ Region.ready md ops listed, i < n ∧ qOp P ops C i (headAny P md ops C n L f (listed.setIfInBounds i true)) a
theorem any_of_head {n g : Nat} {L : Array Bool → Act → Prop} {Q : Exit → Act → World → Prop} (hL : ∀ listed a w, C w → L listed a → wpAny P md ops Q g listed a w) (f : Nat) :
    ∀ (listed : Array Bool) (a : Act) (w : World), C w → headAny P md ops C n L f listed a → wpAny P md ops Q (f + g) listed a w := by
  induction f with
  | zero => intro listed a w hw h; rw [Nat.zero_add]; exact hL _ _ _ hw h
  | succ f ih =>
    intro listed a w hw h
    rw [show f + 1 + g = f + g + 1 by omega]
    exact ⟨fun h0 => absurd h0 h.1, fun i hi => wpOp_of_qOp hw (fun a' w' hw' => ih _ a' w' hw') (h.2 i hi).2⟩
theorem head_first {n i : Nat} {oi : Oper} {v : Value} {L : Array Bool → Act → Prop} (hi : ops[i]? = some oi) (hsel : ∀ (j : Nat) (o : Oper) cs b, ops[j]? = some o → o.op ≠ .select cs b)
    (hs : Region.sinkB md ops n = true) (hc : Region.chainB md ops n = true) (hn : n < ops.size) (hin : i < n) (hdone : ∀ listed a, L listed a → ∀ j ∈ Region.ready md ops listed, n ≤ j) (f : Nat) :
    ∀ (listed : Array Bool) (a : Act), HeadInv md ops n listed →
      (∀ j oj, ops[j]? = some oj → j ≠ i → listed.getD j true = false → (∀ e ∈ oj.after, Region.binds md e = true → e.on ≠ i) → oi.apart ops oj = true) →
      i ∈ Region.ready md ops listed → YieldsIn P ops C oi v a →
      headAny P md ops C n L f (listed.setIfInBounds i true) (a.put oi.dst v) → headAny P md ops C n L (f + 1) listed a := by
  have small : ∀ listed : Array Bool, HeadInv md ops n listed → i ∈ Region.ready md ops listed → ∀ j ∈ Region.ready md ops listed, j < n := fun listed inv hr j hj =>
    (Nat.lt_or_ge j n).elim id fun h => absurd hj (tail_waits hs hc hn inv _ i rfl hin (mem_ready.1 hr).1 j h)
  induction f with
  | zero =>
    intro listed a inv _ hr hy H
    refine ⟨List.ne_nil_of_mem hr, fun j hj => ⟨small listed inv hr j hj, ?_⟩⟩
    by_cases hji : j = i
    · subst hji; exact hy.qOp hi H
    · have h1 := hdone _ _ H j (ready_mono hj hji)
      have h2 := small listed inv hr j hj
      omega
  | succ f ih =>
    intro listed a inv hfree hr hy H
    refine ⟨List.ne_nil_of_mem hr, fun j hj => ⟨small listed inv hr j hj, ?_⟩⟩
    by_cases hji : j = i
    · subst hji; exact hy.qOp hi H
    · obtain ⟨hjun, oj, hoj, hall⟩ := mem_ready.1 hj
      have hun := (mem_ready.1 hr).1
      have hnot : ∀ e ∈ oj.after, Region.binds md e = true → e.on ≠ i := fun e he hb heq => by
        have h1 := hall e he hb
        rw [heq, getD_both hun] at h1
        cases h1
      have h2 := qOp_put hoj (hfree j oj hoj hji hjun hnot) (fun cs b => hsel i oi cs b hi) (fun cs b => hsel j oj cs b hoj) hy (H.2 j (ready_mono hj hji)).2
      refine qOp_mono (fun a' h3 => ih (listed.setIfInBounds j true) a' (inv.set hj (small listed inv hr j hj)) (fun k ok hk hki hu hno => ?_) (ready_mono hr (Ne.symm hji)) h3.1 ?_) h2
      · refine hfree k ok hk hki ?_ hno
        by_cases hjk : j = k
        · subst hjk; exact hjun
        · rwa [getD_set_ne true hjk] at hu
      · rw [Array.setIfInBounds_comm _ _ hji]
        exact h3.2
theorem head_lex {n g : Nat} {Lq : Act → Prop} (hsel : Region.noSelect ops = true) (hs : Region.sinkB md ops n = true) (hc : Region.chainB md ops n = true) (hn : n < ops.size) (l : List Oper) :
    ∀ (k : Nat) (listed : Array Bool) (a : Act), (∀ j, j < l.length → l[j]? = ops[k + j]?) → k + l.length = n → HeadInv md ops n listed →
    Region.lexHead md ops g l.length k listed = true → wpQuiet P ops C Lq l a →
    headAny P md ops C n (fun listed' a' => Region.seqB md ops g n listed' = true ∧ Lq a') l.length listed a := by
  induction l with
  | nil =>
    intro k listed a _ hk _ hB h
    have : k = n := by simpa using hk
    subst this
    exact ⟨by simpa [Region.lexHead] using hB, h⟩
  | cons o l ih =>
    intro k listed a hl hk inv hB h
    have h0 : ops[k]? = some o := by simpa using (hl 0 (by simp)).symm
    simp only [List.length_cons, Region.lexHead, Bool.and_eq_true] at hB
    obtain ⟨⟨hr, hf⟩, hB'⟩ := hB
    have hk' : k + 1 + l.length = n := by simp only [List.length_cons] at hk; omega
    have hkn : k < n := by omega
    have hr' : k ∈ Region.ready md ops listed := by simpa using hr
    have hst : qOp P ops C k (wpQuiet P ops C Lq l) a := by unfold qOp; simp only [h0]; exact h
    obtain ⟨v, hy, hK⟩ := yieldsIn_of_qOp h0 hst
    exact head_first h0 (Region.noSelect_spec hsel) hs hc hn hkn (fun listed' a' hL => seqB_ready hL.1) l.length listed a inv (Region.free_spec h0 hf) hr' hy
      (ih (k + 1) _ _ (fun j hj => by have := hl (j + 1) (by simp; omega); simpa [Nat.add_assoc, Nat.add_comm 1 j] using this) hk' (inv.set hr' hkn) hB' hK)
end
theorem zdb {P : Program} {id : Nat} {Q : Exit → Act → World → Prop} {a : Act} {w : World} {l : List Oper} (n : Nat) (hm : P.follows .mixedOrders = true) (hB : Region.lexTailB .any l.toArray n = true)
    (h : wpQuiet P l.toArray (fun w' => ∃ g : Gar w, w' = g.1) (fun a' => ∀ w', (∃ g : Gar w, w' = g.1) → wpList P l.toArray Q (l.drop n) a' w') (l.take n) a) : (Code.region id l.toArray true).wp P Q a w := by
  simp only [Region.lexTailB, Bool.and_eq_true, decide_eq_true_eq] at hB
  obtain ⟨⟨⟨⟨hsel, hn⟩, hs⟩, hc⟩, hlex⟩ := hB
  have hn' : n < l.length := by simpa using hn
  have htl : (l.take n).length = n := by simp; omega
  have hdl : (l.drop n).length = l.toArray.size - n := by simp
  have inv0 : HeadInv .any l.toArray n (Array.replicate l.toArray.size false) :=
    ⟨by simp, fun j oj _ hl => (by rw [getD_replicate_false] at hl; cases hl), fun t _ ht => getD_in (by simpa using ht) (getD_replicate_false _ _)⟩
  have H := head_lex (md := .any) (g := l.toArray.size - n) hsel hs hc hn (l.take n) 0 _ a (fun j hj => by
    have hj' : j < n := by rw [htl] at hj; exact hj
    simp [hj']) (by simpa using htl) inv0 (by rw [htl]; exact hlex) h
  refine wp_region_any hm ?_
  have := any_of_head (Q := Q) (g := l.toArray.size - n) (fun listed a' w' hw' hL => by
    have := wpAny_of_seq (md := .any) (Q' := Q) (l.drop n) n listed a' w' (fun j => by simp [List.getElem?_drop]) (by rw [hdl]; exact hL.1) (hL.2 w' hw')
    rwa [hdl] at this) (l.take n).length _ a { w with drawn := w.drawn + 1 } ⟨⟨_, (Ch.refl [] w).drew⟩, rfl⟩ H
  rw [htl, show n + (l.toArray.size - n) = l.toArray.size by omega] at this
  exact this
end Go.Proofs.Hc
namespace Go.Proofs.Hc
open Go.RowKit
attribute [local go_sem] zbu zcc zax zbf zbo zbd zbn zbp zbw signed64 signed8 zap BitVec.ofInt_add BitVec.ofInt_mul ofInt_sub' zbb zbc wide8 eqN neN zca shr1 shr7 shr56
attribute [local go_sem high] zbe zbv
attribute [local go_sem] zaw zby zaj zas zaf zaz zar zak zbm zal zay zba
attribute [local go_sem] load26 load73 load23 store26 build73
attribute [local go_sem ↓] lrow26 lrow73 lrow23 srow26 zero26 brow73 zae zbk zbg zaa zab
attribute [local go_sem] zai zav zat zbj zbl zbr zaq zau zbs zbi zbh
attribute [local go_sem] nn2 nm2 nn3 nm3 nn4 nm4 nn5 nm5 nn6 nm6 nn7 nm7 nn8 nm8
section
theorem box26 (t : Tab) (w : World) : (Instr.box 26 (.agg (tcells t))).run Tryz.prog w = .ok (.pointer (some ⟨w.heap.size, 0, none⟩)) (w.alloc (.cells (tcells t) 26)) := rfl
theorem zcb (t : Tab) (i : Nat) (h : i < (tcells t).size) : (tcells t)[i] = t.cell i := by simp [tcells]
theorem cell0 (t : Tab) : t.cell 0 = U t.count := rfl
theorem cell1 (t : Tab) : t.cell 1 = I t.depth := rfl
theorem cell2 (t : Tab) : t.cell 2 = U t.pre := rfl
theorem cell3 (t : Tab) : t.cell 3 = I t.can := rfl
theorem cell4 (t : Tab) : t.cell 4 = I t.live := rfl
attribute [local go_sem] box26 zcb cell0 cell1 cell2 cell3 cell4
def flatT (t : Tab) : Bool :=
  decide (0 ≤ t.depth) && decide (t.depth ≤ 5) && (N (t.pre >>> t.depth.toNat) == 0) && (decide (0 ≤ t.can) && decide (t.can ≤ 14)) && (decide (0 ≤ t.live) && decide (t.live ≤ 14))
theorem flat_any (t : Tab) (w : World) : Calls Tryz.prog 109 #[.agg (tcells t)] w fun e w' => e = .returned (.bool (flatT t)) ∧ Ch [] w w' := by
  go_enter Tryz.func109, Tryz.ntmps109
  go_wp2
  all_goals
    go_ret
    refine ⟨?_, (Ch.refl [] w).alloc _⟩
    unfold flatT
    simp_all
    try omega
def topT (h : BitVec 64) (d : Int) : BitVec 64 := h >>> 1 >>> (63 - d).toNat
theorem top_any (h : BitVec 64) (d : Int) (hd : 0 ≤ d) (hd5 : d ≤ 5) (w : World) : Calls Tryz.prog 126 #[U h, I d] w fun e w' => e = .returned (U (topT h d)) ∧ w = w' := by
  have hm : 0 ≤ 63 - d := by omega
  go_enter Tryz.func126, Tryz.ntmps126
  go_wp2
  go_ret
  exact ⟨rfl, rfl⟩
def hasT (t : Tab) (h : BitVec 64) : Bool := flatT t && (topT h t.depth == t.pre)
theorem flat_depth (t : Tab) (h : flatT t = true) : 0 ≤ t.depth ∧ t.depth ≤ 5 := by
  unfold flatT at h; simp at h; omega
theorem has_any (t : Tab) (h : BitVec 64) (w : World) : Calls Tryz.prog 68 #[.agg (tcells t), U h] w fun e w' => e = .returned (.bool (hasT t h)) ∧ Ch [] w w' := by
  unfold hasT
  have F1 := fun w => flat_any t w
  have hd := flat_depth t
  have T1 := fun w (hf : flatT t = true) => top_any h t.depth (hd hf).1 (hd hf).2 w
  generalize topT h t.depth = x at *
  generalize flatT t = f at *
  clear hd
  go_enter Tryz.func68, Tryz.ntmps68
  go_wp2
  obtain ⟨W0, hW0⟩ : ∃ W0, w.alloc (.cells (tcells t) 26) = W0 := ⟨_, rfl⟩
  have hC0 : Ch [] w W0 := by rw [← hW0]; exact (Ch.refl [] w).alloc _
  have hg : ∀ g : Gar W0, (g.1).heap[w.heap.size]? = some (.cells (tcells t) 26 (0, 0)) := fun g => (g.2.block w.heap.size (by rw [← hW0]; simp) (by simp)).trans (by rw [← hW0]; simp [go_sem])
  rw [hW0]
  clear hW0
  cases f with
  | false =>
    refine wp_region_gar (by kernel_rfl) (by kernel_rfl) ?_
    repeat (go_big_quiet_step ((first | (go_at_call 109; exact garC (F1 _)) | (go_at_call 126; exact garL (T1 _ rfl)))))
    refine wpQuiet_nil ?_
    rintro w1 ⟨g1, hw1⟩
    have hc1 : Ch [] W0 w1 := by rw [hw1]; exact g1.2
    clear hw1 g1 hg
    go_wp2
    go_ret
    exact ⟨rfl, hC0.trans hc1⟩
  | true =>
    refine wp_region_gar (by kernel_rfl) (by kernel_rfl) ?_
    repeat (go_big_quiet_step ((first | (go_at_call 109; exact garC (F1 _)) | (go_at_call 126; exact garL (T1 _ rfl)))))
    refine wpQuiet_nil ?_
    rintro w1 ⟨g1, hw1⟩
    have hc1 : Ch [] W0 w1 := by rw [hw1]; exact g1.2
    clear hw1 g1 hg
    go_wp2
    go_ret
    exact ⟨by rw [← eqN]; rfl, hC0.trans hc1⟩
end
end Go.Proofs.Hc
namespace Go.Proofs.Hc
open Go.RowKit
attribute [local go_sem] zbu zcc zax zbf zbo zbd zbn zbp zbw signed64 signed8 zap BitVec.ofInt_add BitVec.ofInt_mul ofInt_sub' zbb zbc wide8 eqN neN zca shr1 shr7 shr56
attribute [local go_sem high] zbe zbv
attribute [local go_sem] nn2 nm2 nn3 nm3 nn4 nm4 nn5 nm5 nn6 nm6 nn7 nm7 nn8 nm8
attribute [local go_sem] Oper.semAt_some zao
attribute [local go_sem] zaw zby zaj zas zaf zal
attribute [local go_sem ↓] zae zbk zbg zaa
theorem infoU : (Tryz.prog.info? 22).map (fun i => (i.zero, i.size, i.bytes)) = some (some (U 0#64), 1, 8) := by kernel_rfl
theorem zeroCells_one (v : Value) (n : Nat) : Builtin.zeroCells #[v] n = Array.replicate n v := by
  apply Array.ext_getElem?; intro i
  by_cases h : i < n
  · simp [Builtin.zeroCells, Nat.mod_one, h]
  · simp [Builtin.zeroCells, Nat.mod_one, h]
theorem grow_nil (w : World) : Calls Tryz.prog 215 #[.slice none 0 0, .int .i64 38] w fun e w' => ∃ v, e = .returned v ∧ w'.ownsRow w.heap.size 22 1 v 0 [] ∧ v ≠ .slice none 0 0 ∧ Ch [] w w' := by
  obtain ⟨i0, hi, hz0, hz1, hz2⟩ := info_parts infoU
  go_enter Tryz.func215, Tryz.ntmps215
  go_wp2_with (at_builtin; refine Lib.wpList_append_run _ rfl _ _ 44 3 rfl _ _ rfl rfl _ _ (Lib.run_append_nil_zeros _ 44 3 _ 22 i0 (U 0#64) .i64 .i64 Tryz.underlying44 Tryz.underlying3 hi hz0 38 (by omega) (by omega) (by omega) (by omega)) ?_)
  go_ret
  have hge := grownCap_ge w 38 0 22
  have hle := grownCap_le_maxLen w 38 0 22 (by unfold maxLen; omega)
  refine ⟨_, rfl, ⟨rfl, .inr ⟨w.heap.size, grownCap w 38 0 22, Builtin.zeroCells #[U 0#64] 38 ++ Builtin.zeroCells #[U 0#64] (grownCap w 38 0 22 - 38), rfl, Nat.le_refl _, ?_, Nat.zero_le _, hle, ?_, rfl⟩⟩, by simp, ((Ch.refl [] w).alloc _).drew⟩
  · rw [zbk, zae, if_pos rfl]
  · rw [zeroCells_one, zeroCells_one]; simp; omega
structure RowAt (w : World) (b o : Nat) (xs : List Value) : Prop where
  old : b < w.heap.size
  one : ∀ u ∈ xs, u.oneCell' = true
  cells : ∀ j u, xs[j]? = some u → w.cell? ⟨b, o + j, none⟩ = some u
theorem RowAt.ch {w w1 : World} {b o : Nat} {xs : List Value} (h : RowAt w b o xs) (c : Ch [] w w1) : RowAt w1 b o xs :=
  ⟨Nat.lt_of_lt_of_le h.old c.size, h.one, fun j u hj => (c.cell b (o + j) h.old).trans (h.cells j u hj)⟩
theorem own_grow {w W W' : World} {base n size : Nat} {e : TypeId} {v : Value} {xs : List Value} (ho : W.ownsRow base e size v n xs) (c : Ch [] w W) (hg : W.grownBy W' v.ownBlock) (hb : w.heap.size ≤ base) : Ch [] w W' :=
  c.trans2 (Ch.of_grown (S := v.ownBlock.toList) hg (fun k hk => by simp [hk])) (fun t ht => .inr (by have := own_block ho t (by simpa using ht); omega))
theorem concat4 (g c0 c1 c2 c3 b0 b1 b2 b3 o0 o1 o2 o3 : Nat) (x0 x1 x2 x3 : List Value) (w : World) (hg : w.heap[g]? = some (.cells #[.slice (some ⟨b0, o0, none⟩) 4 c0, .slice (some ⟨b1, o1, none⟩) 2 c1, .slice (some ⟨b2, o2, none⟩) 16 c2, .slice (some ⟨b3, o3, none⟩) 16 c3] 44 (0, 0)))
    (l0 : x0.length = 4) (l1 : x1.length = 2) (l2 : x2.length = 16) (l3 : x3.length = 16) (r0 : RowAt w b0 o0 x0) (r1 : RowAt w b1 o1 x1) (r2 : RowAt w b2 o2 x2) (r3 : RowAt w b3 o3 x3) :
    Calls Tryz.prog 141 #[.slice (some ⟨g, 0, none⟩) 4 4] w fun e w' => ∃ v, e = .returned v ∧ w'.ownsRow w.heap.size 22 1 v 38 (x0 ++ x1 ++ x2 ++ x3) ∧ Ch [] w w' := by
  have hgl := (Array.getElem?_eq_some_iff.1 hg).1
  obtain ⟨gl, hgl'⟩ : ∃ f : ∀ w', Ch [] w w' → w'.heap[g]? = some (.cells #[.slice (some ⟨b0, o0, none⟩) 4 c0, .slice (some ⟨b1, o1, none⟩) 2 c1, .slice (some ⟨b2, o2, none⟩) 16 c2, .slice (some ⟨b3, o3, none⟩) 16 c3] 44 (0, 0)), True :=
    ⟨fun w' c => (c.block g hgl (by simp)).trans hg, trivial⟩
  clear hgl hgl'
  obtain ⟨i0, hi, hz0, hz1, hz2⟩ := info_parts infoU
  go_enter Tryz.func141, Tryz.ntmps141
  go_wp2
  refine wp_loop_rounds 5 ?_
  rw [rounds_succ]
  go_wp2
  rw [rounds_succ]
  go_wp2
  rw [rounds_succ]
  go_wp2
  rw [rounds_succ]
  go_wp2
  rw [rounds_succ]
  go_wp2_with (go_at_call 215; refine (grow_nil _).mono ?_; rintro e w1 ⟨v, rfl, hown, hnn, hc1⟩)
  clear hg
  have hg1 := gl w1 hc1
  refine wp_loop_rounds 5 ?_
  rw [rounds_succ]
  go_wp2_with (at_builtin; refine wpList_append_own _ rfl _ _ 44 rfl w.heap.size 22 i0 (U 0#64) 1 8 Tryz.underlying44 hi hz0 hz1 hz2 rfl (by decide) _ _ _ rfl hown ⟨b0, o0, none⟩ 4 c0 x0 rfl (by simp [l0]) (fun j u hj => by rw [Addr.add_lit]; exact (r0.ch hc1).cells j u hj) r0.one (by unfold maxLen; omega) (by omega) hc1.size ?_; intro v2 w2 hown2 hgr2 _; have hc2 := own_grow hown hc1 hgr2 (Nat.le_refl _); have hg2 := gl w2 hc2; clear hg1 hgr2)
  rw [rounds_succ]
  go_wp2_with (at_builtin; refine wpList_append_own _ rfl _ _ 44 rfl w.heap.size 22 i0 (U 0#64) 1 8 Tryz.underlying44 hi hz0 hz1 hz2 rfl (by decide) _ _ _ rfl hown2 ⟨b1, o1, none⟩ 2 c1 x1 rfl (by simp [l1]) (fun j u hj => by rw [Addr.add_lit]; exact (r1.ch hc2).cells j u hj) r1.one (by unfold maxLen; omega) (by omega) hc2.size ?_; intro v3 w3 hown3 hgr3 _; have hc3 := own_grow hown2 hc2 hgr3 (Nat.le_refl _); have hg3 := gl w3 hc3; clear hg2 hgr3)
  rw [rounds_succ]
  go_wp2_with (at_builtin; refine wpList_append_own _ rfl _ _ 44 rfl w.heap.size 22 i0 (U 0#64) 1 8 Tryz.underlying44 hi hz0 hz1 hz2 rfl (by decide) _ _ _ rfl hown3 ⟨b2, o2, none⟩ 16 c2 x2 rfl (by simp [l2]) (fun j u hj => by rw [Addr.add_lit]; exact (r2.ch hc3).cells j u hj) r2.one (by unfold maxLen; omega) (by omega) hc3.size ?_; intro v4 w4 hown4 hgr4 _; have hc4 := own_grow hown3 hc3 hgr4 (Nat.le_refl _); have hg4 := gl w4 hc4; clear hg3 hgr4)
  rw [rounds_succ]
  go_wp2_with (at_builtin; refine wpList_append_own _ rfl _ _ 44 rfl w.heap.size 22 i0 (U 0#64) 1 8 Tryz.underlying44 hi hz0 hz1 hz2 rfl (by decide) _ _ _ rfl hown4 ⟨b3, o3, none⟩ 16 c3 x3 rfl (by simp [l3]) (fun j u hj => by rw [Addr.add_lit]; exact (r3.ch hc4).cells j u hj) r3.one (by unfold maxLen; omega) (by omega) hc4.size ?_; intro v5 w5 hown5 hgr5 _; have hc5 := own_grow hown4 hc4 hgr5 (Nat.le_refl _); clear hg4 hgr5)
  rw [rounds_succ]
  go_wp2
  go_ret
  exact ⟨_, rfl, by simpa using hown5, hc5⟩
theorem run_append_fits_zeros {P : Program} (w : World) (t tn ty e : TypeId) (i : TypeInfo) (z : Value) (kq kn : IntKind) (ht : P.underlying t = some (.slice e)) (htn : P.underlying tn = some (.int kn)) (hi : P.info? e = some i) (hz : i.zero = some z)
    (hs1 : i.size = 1) (hzc : z.cells = #[z]) (hz1 : z.oneCell' = true) (q n cap k : Nat) (cur : Array Value) (T : TypeId) (hq : w.heap[q]? = some (.cells cur T (0, 0))) (hcur : cur.size = cap) (h0 : 0 < k) (hfit : n + k ≤ cap) (h63 : k * i.bytes ≤ 281474976710656) (hk : k ≤ 1000) :
    ∃ w', (Builtin.append_ #[t, tn] ty #[.slice (some ⟨q, 0, none⟩) n cap, .int kq k]).run P w = .ok (.slice (some ⟨q, 0, none⟩) (n + k) cap) w' ∧ Ch [q] w w' := by
  have hkn : k ≠ 0 := by omega
  have hw : IntKind.i64.wrap (k : Int) = k := by rw [IntKind.wrap_i64]; omega
  have hneg : ¬ ((k : Int) < 0) := by omega
  have h48i : ¬ (281474976710656 < (k : Int) * (i.bytes : Int)) := by
    rw [← Int.natCast_mul]
    omega
  have hst := run_storeCells_at (P := P) q n T (List.replicate k z) 0 cur w hq (by simp; omega) (fun v hv => by rw [(List.mem_replicate.1 hv).2]; exact hz1)
  have hadd : (⟨q, 0, none⟩ : Addr).add n = ⟨q, n, none⟩ := by unfold Addr.add; split <;> simp_all
  refine ⟨w.setRow q (List.take (n + 0) cur.toList ++ List.replicate k z ++ List.drop (n + 0 + (List.replicate k z).length) cur.toList).toArray, ?_, ?_⟩
  · generalize w.setRow q (List.take (n + 0) cur.toList ++ List.replicate k z ++ List.drop (n + 0 + (List.replicate k z).length) cur.toList).toArray = w' at *
    have hst' : (storeCells ⟨q, n, none⟩ (List.replicate k z)).run P w = .ok () w' := hst
    simp [Builtin.append_, run_underlying ht, run_underlying htn, sizeOf, typeInfo, zeroValue, hi, hz, hs1, asInt, asIntOf, hw, hkn, hneg, h48i, hfit, hzc, zeroCells_one, hadd, hst']
  · refine ⟨rfl, rfl, rfl, by simp [World.setRow], fun j hj hn => ?_⟩
    simp only [World.setRow, Array.getElem?_modify]
    rw [if_neg (fun e => hn (by simp [e]))]
theorem padded38 (base : Nat) (v : Value) (xs : List Value) (w : World) (hown : w.ownsRow base 22 1 v 38 xs) :
    Calls Tryz.prog 140 #[v] w fun e w' => ∃ v', e = .returned v' ∧ Ch v.ownBlock.toList w w' := by
  obtain ⟨hlen, h⟩ := hown
  rcases h with ⟨_, h⟩ | ⟨q, cap, cur, rfl, hq, hb, h38, hcm, hsz, hx⟩
  · cases h
  obtain ⟨i0, hi, hz0, hz1, hz2⟩ := info_parts infoU
  have hsz' : cur.size = cap := by omega
  rcases Nat.lt_or_ge cap 40 with hlt | hge
  · go_enter Tryz.func140, Tryz.ntmps140
    go_wp2_with (at_builtin; refine Lib.wpList_append_run _ rfl _ _ 44 3 rfl _ _ rfl rfl _ _ (Lib.run_append_grow_zeros _ 44 3 _ 22 i0 (U 0#64) .i64 .i64 Tryz.underlying44 Tryz.underlying3 hi hz0 (some ⟨q, 0, none⟩) 38 cap (cur.toList.take 38) ?hold 2 (by omega) (by omega) (by omega) (by omega) (by omega) ?hfit) ?_)
    case hold =>
      have := run_firstCells_some (P := Tryz.prog) w.drew i0.size 38 ⟨q, 0, none⟩ 38 cap (cur.toList.take 38) (by simp; omega) (fun j u hj => by
        rw [Addr.add_lit, zaw, zbk, hb, Option.bind_some, zaj, Nat.zero_add]
        rw [List.getElem?_take] at hj
        split at hj
        · simpa using hj
        · cases hj)
      exact this
    case hfit =>
      have : cap = 38 ∨ cap = 39 := by omega
      rw [hz2]
      rcases this with rfl | rfl <;> decide
    go_ret
    exact ⟨_, rfl, (((Ch.refl [] w).drew).alloc _).of_nil⟩
  · obtain ⟨w2, hr2, hc2⟩ := run_append_fits_zeros (P := Tryz.prog) w 44 3 44 22 i0 (U 0#64) .i64 .i64 Tryz.underlying44 Tryz.underlying3 hi hz0 hz1 rfl rfl q 38 cap 2 cur 22 hb hsz' (by omega) (by omega) (by omega) (by omega)
    go_enter Tryz.func140, Tryz.ntmps140
    go_wp2_with (at_builtin; refine Lib.wpList_append_run _ rfl _ _ 44 3 rfl _ _ rfl rfl _ _ hr2 ?_)
    go_ret
    exact ⟨_, rfl, hc2⟩
end Go.Proofs.Hc
namespace Go.Proofs.Hc
open Go.RowKit
attribute [local go_sem] zbu zcc zax zbf zbo zbd zbn zbp zbw signed64 signed8 zap BitVec.ofInt_add BitVec.ofInt_mul ofInt_sub' zbb zbc wide8 eqN neN zca shr1 shr7 shr56
attribute [local go_sem high] zbe zbv
attribute [local go_sem] zaw zby zaj zas zaf zaz zar zak zbm zal zay zba
attribute [local go_sem] load26 load73 load23 store26 build73
attribute [local go_sem ↓] lrow26 lrow73 lrow23 srow26 zero26 brow73 zae zbk zbg zaa zab
attribute [local go_sem] zai zav zat zbj zbl zbr zaq zau zbs zbi zbh
attribute [local go_sem] nn2 nm2 nn3 nm3 nn4 nm4 nn5 nm5 nn6 nm6 nn7 nm7 nn8 nm8
section
attribute [local go_sem] box26 zcb cell0 cell1 cell2 cell3 cell4
theorem rowAt_part {w : World} {b o n : Nat} {cs : Array Value} {T : TypeId} {fr : Nat × Nat} (hb : w.heap[b]? = some (.cells cs T fr)) (h1 : allOne cs = true) : RowAt w b o (cs.extract o (o + n)).toList := by
  refine ⟨(Array.getElem?_eq_some_iff.1 hb).1, fun u hu => ?_, fun j u hj => ?_⟩
  · have hm : u ∈ cs := by
      have h2 : u ∈ cs.extract o (o + n) := Array.mem_toList_iff.1 hu
      obtain ⟨k, hk, rfl⟩ := Array.mem_iff_getElem.1 h2
      simp
    exact (Array.all_eq_true_iff_forall_mem.1 (show cs.all (·.oneCell') = true from h1)) u hm
  · rw [zaw, hb, Option.bind_some, zaj]
    have h2 : (cs.extract o (o + n))[j]? = some u := by rw [← Array.getElem?_toList]; exact hj
    rw [Array.getElem?_extract] at h2
    split at h2
    · exact h2
    · cases h2
theorem part_len (cs : Array Value) (o n : Nat) (h : o + n ≤ cs.size) : (cs.extract o (o + n)).toList.length = n := by simp; omega
theorem words_bad (t : Tab) (hf : flatT t = false) (w : World) : Calls Tryz.prog 74 #[.agg (tcells t)] w fun e w' => e = .returned (.tuple #[.slice none 0 0, I 260]) ∧ Ch [] w w' := by
  have F1 := fun w => flat_any t w
  rw [hf] at F1
  clear hf
  go_enter Tryz.func74, Tryz.ntmps74
  go_wp2_with (go_at_call 109; refine (F1 _).mono ?_; rintro e w1 ⟨rfl, hc1⟩)
  go_ret2
  exact ⟨rfl, ((Ch.refl [] w).alloc _).trans hc1⟩
theorem words_ok (t : Tab) (hf : flatT t = true) (w : World) : Calls Tryz.prog 74 #[.agg (tcells t)] w fun e w' => ∃ v, e = .returned (.tuple #[v, I 0]) ∧ Ch [] w w' := by
  have F1 := fun w => flat_any t w
  rw [hf] at F1
  clear hf
  go_enter Tryz.func74, Tryz.ntmps74
  go_wp2_with (go_at_call 109; refine (F1 _).mono ?_; rintro e w1 ⟨rfl, hc1⟩; have hb1 : w1.heap[w.heap.size]? = some (.cells (tcells t) 26 (0, 0)) := (hc1.block _ (by simp) (by simp)).trans (by simp [go_sem]))
  obtain ⟨x0, hx0⟩ : ∃ x, N (BitVec.ofInt 64 t.depth ||| t.pre * 256#64) = x := ⟨_, rfl⟩
  obtain ⟨x1, hx1⟩ : ∃ x, N (BitVec.ofInt 64 t.can) = x := ⟨_, rfl⟩
  obtain ⟨x2, hx2⟩ : ∃ x, N (BitVec.ofInt 64 t.live) = x := ⟨_, rfl⟩
  rw [hx0, hx1, hx2]
  clear hx0 hx1 hx2
  obtain ⟨W0, hW0⟩ : ∃ W0, w1.alloc (.cells #[U t.count, .int .u64 x0, .int .u64 x1, .int .u64 x2] 22) = W0 := ⟨_, rfl⟩
  have hsz := hc1.size
  simp only [World.size_alloc] at hsz
  have hC0 : Ch [] w W0 := by rw [← hW0]; exact (((Ch.refl [] w).alloc _).trans hc1).alloc _
  have b0 : W0.heap[w.heap.size]? = some (.cells (tcells t) 26 (0, 0)) := by rw [← hW0, zae, if_neg (by omega)]; exact hb1
  have b1 : W0.heap[w1.heap.size]? = some (.cells #[U t.count, .int .u64 x0, .int .u64 x1, .int .u64 x2] 22 (0, 0)) := by rw [← hW0]; simp [go_sem]
  have hn : w.heap.size < W0.heap.size ∧ w1.heap.size < W0.heap.size := by rw [← hW0]; simp; omega
  rw [hW0]
  clear hW0 hb1 hc1
  refine zdb 7 (by kernel_rfl) (by kernel_rfl) ?_
  simp only [List.take_succ_cons, List.take_zero, List.drop_succ_cons, List.drop_zero]
  repeat (go_big_quiet_step (fail))
  refine wpQuiet_nil ?_
  rintro w2 ⟨g1, hw1⟩
  have hc1 : Ch [] W0 w2 := by rw [hw1]; exact g1.2
  clear hw1 g1
  have hz2 := hc1.size
  have d0 := (hc1.block _ hn.1 (by simp)).trans b0
  have d1 := (hc1.block _ hn.2 (by simp)).trans b1
  clear b0 b1
  go_wp2_with fail
  refine (concat4 w2.heap.size 4 2 16 16 w1.heap.size w.heap.size w.heap.size w.heap.size 0 5 7 23 ((#[U t.count, .int .u64 x0, .int .u64 x1, .int .u64 x2] : Array Value).extract 0 (0 + 4)).toList ((tcells t).extract 5 (5 + 2)).toList ((tcells t).extract 7 (7 + 16)).toList ((tcells t).extract 23 (23 + 16)).toList _ (by rw [zae, if_pos rfl])
         (part_len _ _ _ (by simp)) (part_len _ _ _ (by rw [zai]; omega)) (part_len _ _ _ (by rw [zai]; omega)) (part_len _ _ _ (by rw [zai]; omega))
         ((rowAt_part d1 (by simp [allOne, Value.oneCell'])).ch ((Ch.refl [] w2).alloc _)) ((rowAt_part d0 (zbl t)).ch ((Ch.refl [] w2).alloc _)) ((rowAt_part d0 (zbl t)).ch ((Ch.refl [] w2).alloc _)) ((rowAt_part d0 (zbl t)).ch ((Ch.refl [] w2).alloc _))).mono ?_
  rintro e w3 ⟨v, rfl, hown, hc3⟩
  have hob := own_block hown
  have P1 := padded38 _ v _ w3 hown
  clear hown
  go_wp2_with (go_at_call 140; refine P1.mono ?_; rintro e w4 ⟨v', rfl, hc4⟩)
  go_ret2
  refine ⟨v', rfl, ?_⟩
  have hC3 : Ch [] w w3 := ((hC0.trans hc1).alloc _).trans hc3
  simp only [World.size_alloc] at hob
  exact hC3.trans2 hc4 (fun s hs => .inr (by have := hob s (by simpa using hs); omega))
end
section
attribute [local go_sem] zap
theorem half_shr (h : BitVec 64) (j : Nat) : (N (h >>> j)).tdiv 2 = N (h >>> (j + 1)) := by
  rw [Int.tdiv_eq_ediv_of_nonneg (N_nonneg _)]
  unfold N
  rw [BitVec.toNat_ushiftRight, BitVec.toNat_ushiftRight, Nat.shiftRight_succ]
  simp
theorem topT_shr (h : BitVec 64) (d : Nat) (hd : d ≤ 5) : h >>> (64 - d) = topT h d := by
  unfold topT
  rw [← BitVec.shiftRight_add]
  congr 1
  omega
theorem rTop_any (h : BitVec 64) (d : Nat) (hd : d ≤ 5) (w : World) : Calls Tryz.prog 152 #[U h, I d] w fun e w' => e = .returned (U (topT h d)) ∧ w = w' := by
  have hT := topT_shr h d hd
  go_enter Tryz.func152, Tryz.ntmps152
  go_wp2
  go_loop [0, 7] (fun v i => ∃ j : Nat, j ≤ 64 - d ∧ i = .int .i64 j ∧ v = U (h >>> j)) (fun _ i => 64 - d - (intOf i).toNat)
  case atStart => exact ⟨0, by omega, rfl, by simp⟩
  case round =>
    obtain ⟨j, hj, rfl, rfl⟩ := hrel
    by_cases hlt : j < 64 - d
    · have HS := Lib.hid (half_shr h j)
      generalize h >>> j = m at *
      go_wp2
      go_round
      case rel => exact ⟨j + 1, by omega, by go_num, by rw [HS.out, zap]⟩
      case measure => simp [intOf]; omega
    · have hjn : j = 64 - d := by omega
      subst hjn
      rw [hT] at *
      go_wp2
      go_ret
      exact ⟨rfl, rfl⟩
end
end Go.Proofs.Hc
namespace Go.Proofs.Hc
open Go.ChangeShapes Go.WideShapes Go.ChangeAt Go.RowKit
theorem wfr_u64 {n : Int} (h : (Lit.int .u64 n).wf = true) : 0 ≤ n ∧ n < 18446744073709551616 := by
  have : 0 ≤ n ∧ n ≤ 18446744073709551615 := by simpa [Lit.wf, IntKind.min, IntKind.max, IntKind.signed, IntKind.bits] using h
  omega
theorem U_of {n : Int} (h : (Lit.int .u64 n).wf = true) : U (BitVec.ofInt 64 n) = .int .u64 n := by
  obtain ⟨h0, h1⟩ := wfr_u64 h
  show Value.int .u64 (N (BitVec.ofInt 64 n)) = _
  have : N (BitVec.ofInt 64 n) = n := by
    unfold N
    rw [BitVec.toNat_ofInt]
    have e : ((2 ^ 64 : Nat) : Int) = 18446744073709551616 := by decide
    rw [e, Int.emod_eq_of_lt h0 h1]
    omega
  rw [this]
section
variable {H : Type} {enc : TypeId × Value → H} {w : World} {base : Nat} {spare : Nat → Bool} {held : Bool}
theorem one_cell {cs : List Value} {o : Nat} {v : Value} (h : (cs.drop o).take 1 = [v]) : cs[o]? = some v := by
  have := congrArg (fun l => l[0]?) h
  simpa using this
theorem cells_u64 : Tryz.prog.cellsOf 22 = 1 := by kernel_rfl
theorem cells_int : Tryz.prog.cellsOf 3 = 1 := by kernel_rfl
theorem row_u64 {n : Nat} {t : TypeId} {fuel : Nat} {cs : List Value} {x : DataW H × List MemPlace} (ht : Tryz.prog.underlying t = some (.array n 22)) (h : DataW.trod enc Tryz.prog w base spare held fuel t cs = some x) :
    ∀ i, i < n → ∃ m, cs[i]? = some (.int .u64 m) ∧ (Lit.int .u64 m).wf = true := by
  obtain ⟨xs, m, _, _, _, hl, hx⟩ := DataW.trod_array ht h
  intro i hi
  have h1 := hx i hi
  rw [cells_u64, Nat.mul_one, List.getElem?_eq_getElem (by omega)] at h1
  obtain ⟨k, hk, _, hw⟩ := DataW.trod_int Tryz.underlying22 h1
  exact ⟨k, one_cell hk, hw⟩
theorem field_at {fs : Array Field} {l : List (TypeId × Nat)} (h : fs.toList.map (fun f => (f.type, f.offset)) = l) {i : Nat} {t o : Nat} (hi : l[i]? = some (t, o)) : ∃ f, fs[i]? = some f ∧ f.type = t ∧ f.offset = o := by
  rw [← h, List.getElem?_map] at hi
  cases hf : fs.toList[i]? with
  | none => rw [hf] at hi; cases hi
  | some f =>
    rw [hf] at hi
    simp only [Option.map_some, Option.some.injEq, Prod.mk.injEq] at hi
    exact ⟨f, by simpa using hf, hi.1, hi.2⟩
theorem drop_take_get {cs : List Value} {o n i : Nat} {v : Value} (h : ((cs.drop o).take n)[i]? = some v) : cs[o + i]? = some v := by
  rw [List.getElem?_take] at h
  split at h
  · rwa [List.getElem?_drop] at h
  · cases h
def intAt (cs : List Value) (i : Nat) : Int := match cs[i]? with
  | some (.int _ n) => n
  | _ => 0
theorem intAt_eq {cs : List Value} {i : Nat} {k : IntKind} {m : Int} (h : cs[i]? = some (.int k m)) : intAt cs i = m := by unfold intAt; rw [h]
end
end Go.Proofs.Hc
namespace Go.Proofs.Hc
open Go.ChangeShapes Go.WideShapes Go.ChangeAt Go.RowKit
section
variable {H : Type} {enc : TypeId × Value → H} {w : World} {base : Nat} {held : Bool}
def KeysIn (w : World) (a : Option Addr) (n : Nat) (ks : Nat → BitVec 64) : Prop := ∀ j, j < n → ∃ kb ko, a = some ⟨kb, ko, none⟩ ∧ kb < w.heap.size ∧ (w.heap[kb]?).bind (cellAt (ko + j)) = some (U (ks j))
theorem cell_in {w : World} {b o : Nat} {v : Value} (h : w.cell? ⟨b, o, none⟩ = some v) : b < w.heap.size ∧ (w.heap[b]?).bind (cellAt o) = some v := by
  rw [zaw] at h
  refine ⟨?_, h⟩
  cases hb : w.heap[b]? with
  | none => rw [hb] at h; cases h
  | some x => exact (Array.getElem?_eq_some_iff.1 hb).1
theorem open_keys {r : Reach} {b0 : Nat} {v : Value} {d : DataW H} {p : List MemPlace} (hv : Value.okWide Tryz.prog w r b0 44 v) (h : DataW.Trod enc Tryz.prog w 0 (fun _ => true) held 44 v d p) :
    ∃ a n c ks, v = .slice a n c ∧ n ≤ 9223372036854775807 ∧ KeysIn w a n ks := by
  obtain ⟨a, n, c, rfl⟩ := okWide_slice Tryz.underlying44 hv
  obtain ⟨fuel, hf⟩ := h
  rcases open_ints Tryz.underlying44 Tryz.underlying22 cells_u64 hf with ⟨hcs, _⟩ | ⟨x, l, c', zs, hcs, _, hl, hm, hz, _, hcell, hwz⟩
  · simp [Value.cells] at hcs
    obtain ⟨rfl, rfl, rfl⟩ := hcs
    exact ⟨none, 0, 0, fun _ => 0#64, rfl, by omega, fun j hj => by omega⟩
  · simp [Value.cells] at hcs
    obtain ⟨rfl, rfl, rfl⟩ := hcs
    simp only [if_true] at hz
    unfold maxLen at hm
    refine ⟨some x, n, c, fun j => BitVec.ofInt 64 (zs.getD j 0), rfl, by omega, fun j hj => ?_⟩
    obtain ⟨b, off, rfl, hc⟩ := ints_at hcell (by omega)
    have h1 := hc j (by omega)
    have hmem : zs.getD j 0 ∈ zs := by
      rw [List.getD_eq_getElem?_getD, List.getElem?_eq_getElem (by omega)]
      exact List.getElem_mem _
    rw [← U_of (hwz _ hmem)] at h1
    obtain ⟨h2, h3⟩ := cell_in h1
    exact ⟨b, off, rfl, h2, h3⟩
end
end Go.Proofs.Hc
namespace Go.Proofs.Hc
open Go.ChangeShapes Go.WideShapes Go.ChangeAt Go.RowKit
section
variable {H : Type} {enc : TypeId × Value → H} {w : World} {base : Nat} {spare : Nat → Bool} {held : Bool}
theorem open_words {r : Reach} {b0 : Nat} {v : Value} {d : DataW H} {p : List MemPlace} (hv : Value.okWide Tryz.prog w r b0 44 v) (h : DataW.Trod enc Tryz.prog w 0 (fun _ => true) held 44 v d p) :
    ∃ a n c ks, v = .slice a n c ∧ n ≤ c ∧ c ≤ 9223372036854775807 ∧ (a = none → n = 0 ∧ c = 0) ∧ KeysIn w a n ks := by
  obtain ⟨a, n, c, ks, rfl, hn, hps⟩ := open_keys hv h
  obtain ⟨fuel, hf⟩ := h
  rcases Go.Deep.open_slice Tryz.underlying44 hf with ⟨hcs, _⟩ | ⟨x, l, c', m, n', D, Pl, hcs, _, hl, hm, hmm, _, hel⟩
  · simp [Value.cells] at hcs
    obtain ⟨rfl, rfl, rfl⟩ := hcs
    exact ⟨none, 0, 0, ks, rfl, by omega, by omega, fun _ => ⟨rfl, rfl⟩, hps⟩
  · simp [Value.cells] at hcs
    obtain ⟨rfl, rfl, rfl⟩ := hcs
    unfold maxLen at hm
    exact ⟨some x, n, c, ks, rfl, hl, by omega, (fun h => by cases h), hps⟩
theorem fields_at {fs : Array Field} {l : List (TypeId × Nat)} (hl : fs.toList.map (fun f => (f.type, f.offset)) = l) {xs : List (DataW H × List MemPlace)} {n : Nat} {cs : List Value} (hxl : xs.length = fs.size)
    (hx : ∀ (i : Nat) (f : Field), fs[i]? = some f → DataW.trod enc Tryz.prog w base spare held n f.type ((cs.drop f.offset).take (Tryz.prog.cellsOf f.type)) = xs[i]?) : ∀ (i t o : Nat), l[i]? = some (t, o) → ∃ y, DataW.trod enc Tryz.prog w base spare held n t ((cs.drop o).take (Tryz.prog.cellsOf t)) = some y := by
  intro i t o hi
  obtain ⟨f, hf, rfl, rfl⟩ := field_at hl hi
  have := hx i f hf
  have hlt := (Array.getElem?_eq_some_iff.1 hf).1
  rw [List.getElem?_eq_getElem (by omega)] at this
  exact ⟨_, this⟩
theorem rd_int {n o : Nat} {t : TypeId} {k : IntKind} {cs : List Value} {y : DataW H × List MemPlace} (ht : Tryz.prog.underlying t = some (.int k)) (hc : Tryz.prog.cellsOf t = 1) (h : DataW.trod enc Tryz.prog w base spare held n t ((cs.drop o).take (Tryz.prog.cellsOf t)) = some y) : ∃ m, cs[o]? = some (.int k m) ∧ (Lit.int k m).wf = true := by
  obtain ⟨m, hm, _, hw⟩ := DataW.trod_int ht h
  rw [hc] at hm
  exact ⟨m, one_cell hm, hw⟩
end
theorem KeysIn.ch {w w' : World} {a : Option Addr} {n : Nat} {ks : Nat → BitVec 64} (h : KeysIn w a n ks) (c : Ch [] w w') {k : Nat} (hk : k ≤ n) : KeysIn w' a k ks := fun j hj => by
  obtain ⟨kb, ko, h1, h2, h3⟩ := h j (by omega)
  exact ⟨kb, ko, h1, by have := c.size; omega, by rw [c.block kb h2 (by simp)]; exact h3⟩
attribute [local go_sem] zbu zcc zax zbf zbo zbd zbn zbp zbw signed64 signed8 zap BitVec.ofInt_add BitVec.ofInt_mul ofInt_sub' zbb zbc wide8 eqN neN zca shr1 shr7 shr56
attribute [local go_sem high] zbe zbv
attribute [local go_sem] zaw zby zaj zas zaf zaz zar zak zbm zal zay zba
attribute [local go_sem] load26 load73 load23 store26 build73
attribute [local go_sem ↓] lrow26 lrow73 lrow23 srow26 zero26 brow73 zae zbk zbg zaa zab
attribute [local go_sem] zai zav zat zbj zbl zbr zaq zau zbs zbi zbh
attribute [local go_sem] nn2 nm2 nn3 nm3 nn4 nm4 nn5 nm5 nn6 nm6 nn7 nm7 nn8 nm8
attribute [local go_sem] nn2 nm2 nn3 nm3 nn4 nm4 nn5 nm5 nn6 nm6 nn7 nm7 nn8 nm8
attribute [local go_sem] Oper.semAt_some zao
def frontW (ks : Nat → BitVec 64) (n : Nat) : List (BitVec 64) := (List.range n).map ks
theorem frontW_len (ks : Nat → BitVec 64) (n : Nat) : (frontW ks n).length = n := by simp [frontW]
end Go.Proofs.Hc
