/- Package cells: Do, as a model. -/
import Derived.Test.YtmfajobocpaimaaGreatKHm
import Derived.Test.YtmfajobocpaimaaGreatKHcs
import Derived.Test.YtmfajobocpaimaaGreatKHcd
import Derived.Test.YtmfajobocpaimaaGreatKHce
import Derived.Test.YtmfajobocpaimaaGreatKHcg
import Derived.Test.YtmfajobocpaimaaGreatKHch
import Derived.Test.YtmfajobocpaimaaGreatKHpk
import Derived.Test.YtmfajobocpaimaaGreatKHdv
import Derived.Test.YtmfajobocpaimaaGreatKHj
import Derived.Test.YtmfajobocpaimaaGreatKHma
import Derived.Test.YtmfajobocpaimaaGreatKHmy
import Derived.Test.YtmfajobocpaimaaGreatKHnl
import Derived.Test.YtmfajobocpaimaaGreatKHye
import Derived.Test.YtmfajobocpaimaaGreatKHpa
import Derived.Test.YtmfajobocpaimaaGreatKHtg
import Derived.Test.YtmfajobocpaimaaGreatKHtj
import Derived.Test.YtmfajobocpaimaaGreatKHtq
import Derived.Test.YtmfajobocpaimaaGreatKHtr
import Derived.Test.YtmfajobocpaimaaGreatKHxc
import Derived.Below
import Derived.BigQuiet
import Derived.Deep.Draws
import Derived.Deep.Light
import Derived.Deep.OwnRows
import Derived.Deep.QuietTactic
import Derived.Deep.RegionHeld
import Derived.IntWalk
import Derived.Laws.CopyOwn
import Derived.Laws.CopyRow
import Derived.Laws.Tables
import Derived.Lib.AppendZerosOnto
import Derived.Lib.Hide
import Derived.Lib.Tables
import Derived.Lib.Walk
import Derived.LoopIn
import Derived.LoopN
import Derived.LoopNIn
import Derived.Maps.AppendAt
import Derived.Maps.Views
import Derived.OwnWalkIn
import Derived.RangeFuncBox
import Derived.RangeFuncCalls
import Derived.RangeFuncRecord
import Derived.RangeFuncSeq
import Derived.Recover
import Derived.RegionTactic
import Derived.Shelf.Slices.Clone
import Derived.StillTail
import Derived.StillTailTactics
import Derived.TacticsInMore
import Derived.Test.YtmfajobocpaimaaGreatProg
import Derived.WalkKit
import Derived.WalkLawsBesides
import Derived.WalkMore
import Derived.WalkSpells
import Derived.Laws.StructEq
import Derived.ScopeJumps
import Derived.Deep.Slices
import Derived.OpenShut
import Derived.ProofKit
import Derived.ChangeKeysEq
set_option linter.unusedSimpArgs false
set_option linter.unusedVariables false
namespace Go.Proofs.Hc
open Go.RowKit
attribute [local go_sem] wrap_u64 wrap_u8 bits_xor64 bits_and64 bits_or64 bits_not64 bits_xor8 bits_and8 bits_or8 signed64 signed8 ofInt_N BitVec.ofInt_add BitVec.ofInt_mul ofInt_sub' ofInt8_N64 ofInt64_N8 wide8 eqN neN shr_pow shr1 shr7 shr56
attribute [local go_sem high] bits_com64 shl_wrap
attribute [local go_sem] cell_heap ice_heap cellAt_cells iceAt_cells setAt_cells rowAt_cells canLay_cells laidAt_cells size_onObj size_setCell rowRes_some layRes_true
attribute [local go_sem] load26 load73 load23 store26 build73
attribute [local go_sem ↓] lrow26 lrow73 lrow23 srow26 zero26 brow73 heap_alloc heap_drew heap_drewN heap_setCell heap_onObj
attribute [local go_sem] tcells_size hcells_size tcells_get hcells_get tcells_one hcells_one hcells_table tcells_table hcells_all hcells_ctrl tcells_ctrl
attribute [local go_sem] nn2 nm2 nn3 nm3 nn4 nm4 nn5 nm5 nn6 nm6 nn7 nm7 nn8 nm8
attribute [local go_sem] nn2 nm2 nn3 nm3 nn4 nm4 nn5 nm5 nn6 nm6 nn7 nm7 nn8 nm8
attribute [local go_sem] acc_g0 acc_g1 acc_g2 acc_g4 acc_s0 acc_s1 acc_s2 acc_s4 accC_size accC_one accC_all loadAcc storeAcc bacc0 bacc2 bacc3 bacc3u bacc4
attribute [local go_sem ↓] lrowAcc srowAcc browAcc zeroAcc_run
attribute [local go_sem high] laidAt_acc
attribute [local go_sem] loadAcs storeAcs buildAcs boxAcs boxAcc meth_load meth_swap
attribute [local go_sem ↓] lrowAcs srowAcs browAcs zeroAcs_run
attribute [local go_sem] seenC_size seenC_one seenC_all seenC_g0 loadSeen storeSeen buildSeen buildSeen0
attribute [local go_sem ↓] lrowSeen srowSeen browSeen zeroSeen_run
attribute [local go_sem high] laidAt_seen
attribute [local irreducible] seenC
attribute [local go_sem] Oper.semAt_some make_func1 ofInt_N
attribute [local irreducible] accC
set_option maxHeartbeats 2000000 in
set_option maxRecDepth 100000 in
theorem Do_bad (k : Int) (a d : Int) (n g c : Nat) (w : World) (hk : 1 ≤ k) (hk4 : k ≤ 4) (ha : (n : Int) ≤ a) (hn1 : 1 ≤ n) (hl : n ≤ 8192) :
    Calls Tryz.prog 105 #[.slice (some ⟨g, 0, none⟩) n c, .agg (accC 0 k a d)] w fun e w' => e = .returned (.tuple #[.slice none 0 0, .agg (seenC 0 false), I 2]) ∧ Ch [] w w' := by
  have K1 := fun w => cCheck_at k a n d hk hk4 (by omega) ha (by omega) (by omega) w
  have C0 : Ch [] w (World.onObj (((w.alloc (.cells (accC 0 k a d) 96)).alloc (.cells (seenC 0 false) 157)).alloc (.cells (accC 0 0 0 0) 217)) (w.heap.size + 1 + 1) (laidAt 0 (accC 0 k a d))) := ((((Ch.refl [] w).alloc _).alloc _).alloc _).onObj (p := w.heap.size + 1 + 1) (.inr (by omega)) _
  have z0 : (World.onObj (((w.alloc (.cells (accC 0 k a d) 96)).alloc (.cells (seenC 0 false) 157)).alloc (.cells (accC 0 0 0 0) 217)) (w.heap.size + 1 + 1) (laidAt 0 (accC 0 k a d))).heap[w.heap.size + 1]? = some (.cells (seenC 0 false) 157 (0, 0)) := by
    rw [heap_onObj, if_neg (by omega), heap_alloc, if_neg (by simp), heap_alloc, if_pos (by simp)]
  clear hk hk4 ha hn1 hl
  go_enter Tryz.func105, Tryz.ntmps105
  go_wp2_with fail
  generalize World.onObj (((w.alloc (.cells (accC 0 k a d) 96)).alloc (.cells (seenC 0 false) 157)).alloc (.cells (accC 0 0 0 0) 217)) (w.heap.size + 1 + 1) (laidAt 0 (accC 0 k a d)) = W0 at *
  refine (K1 _).mono ?_
  rintro e w1 ⟨rfl, hc1⟩
  have z1 := hkeep hc1 z0
  have C1 := C0.trans hc1
  go_wp2
  refine bodyPost_ret (do_results Tryz.results105 _ (w.heap.size + 1) _ 0 false _ _ rfl rfl rfl ?_) rfl ⟨rfl, C1.onObj (p := w.heap.size + 1) (.inr (by omega)) _⟩
  simp [go_sem, z1]
/-- A row that the call made, at a block of its own. -/
def RowAt_ (w0 w : World) (R : Nat) (l : List (BitVec 64)) : Prop := w0.heap.size ≤ R ∧ w.heap[R]? = some (.cells (wcells l) 22 (0, 0))
/-- The answer of Do. -/
def DoPost (w : World) (l : List (BitVec 64)) (a : AccT) (e : Ending) (w' : World) : Prop :=
  match doP l a with
  | none => e = .returned (.tuple #[.slice none 0 0, .agg (seenC 0 false), I 2]) ∧ Ch [] w w'
  | some y => ∃ R, e = .returned (.tuple #[.slice (some ⟨R, 0, none⟩) l.length l.length, .agg (seenC (N y.2) true), I 0]) ∧ RowAt_ w w' R y.1 ∧ y.1.length = l.length ∧ Ch [] w w'
theorem Do_any (l : List (BitVec 64)) (a : AccT) (g c : Nat) (cur : Array Value) (w : World) (hk : a.kind = 1 ∨ a.kind = 2 ∨ a.kind = 4) (ha : 0 ≤ a.at_) (h1 : 1 ≤ l.length) (hl : l.length ≤ 8192)
    (hb : w.heap[g]? = some (.cells cur 22 (0, 0))) (hw : WordsAt cur l) :
    Calls Tryz.prog 105 #[.slice (some ⟨g, 0, none⟩) l.length c, .agg (accC 0 a.kind a.at_ (N a.new))] w (DoPost w l a) := by
  obtain ⟨kd, at_, new⟩ := a
  simp only at hk ha ⊢
  obtain ⟨j, rfl⟩ := Int.eq_ofNat_of_zero_le ha
  rcases Nat.lt_or_ge j l.length with hj | hj
  · obtain ⟨x, hx⟩ : ∃ x, l[j]? = some x := ⟨l[j]'hj, List.getElem?_eq_getElem hj⟩
    have key : ∀ (k : Nat) (z : BitVec 64), kd = (k : Int) → 1 ≤ k → k ≤ 4 → (doP l ⟨kd, (j : Int), new⟩ = some (l.set j z, x)) →
        (∀ (r : Nat) (w : World), w.heap[r]? = some (.cells (wcells l) 22 (0, 0)) → Calls Tryz.prog 156 #[.agg (accC 0 k j (N new)), .iface 221 (.agg #[.slice (some ⟨r, j, none⟩) 1 1])] w (DoesPost w r j (wcells l) x z)) →
        Calls Tryz.prog 105 #[.slice (some ⟨g, 0, none⟩) l.length c, .agg (accC 0 kd j (N new))] w (DoPost w l ⟨kd, (j : Int), new⟩) := by
      intro k z hkd h1k h4k hd hX
      subst hkd
      refine (Do_core k j (N new) x z l g c cur w h1k h4k hj hl hx hb hw hX).mono ?_
      rintro e w' ⟨R, rfl, hR, hRow, hC⟩
      unfold DoPost
      rw [hd]
      exact ⟨R, rfl, ⟨hR, hRow⟩, by simp, hC⟩
    have hset : l.set j x = l := by
      apply List.ext_getElem?
      intro i
      rw [List.getElem?_set]
      by_cases h : j = i
      · subst h; rw [if_pos rfl, if_pos hj, hx]
      · rw [if_neg h]
    rcases hk with rfl | rfl | rfl
    · refine key 1 x rfl (by omega) (by omega) ?_ (fun r w h => does_1 j (N new) x r j (wcells l) w h (wcells_at l j x hx))
      simp [doP, hx, hset]
    · refine key 2 new rfl (by omega) (by omega) ?_ (fun r w h => does_2 j new x r j (wcells l) w h (wcells_at l j x hx))
      simp [doP, hx]
    · refine key 4 (x + new) rfl (by omega) (by omega) ?_ (fun r w h => does_4 j new x r j (wcells l) w h (wcells_at l j x hx))
      simp [doP, hx]
  · refine (Do_bad kd j (N new) l.length g c w (by omega) (by omega) (by omega) h1 hl).mono ?_
    rintro e w' ⟨rfl, hC⟩
    unfold DoPost
    have hd : doP l ⟨kd, (j : Int), new⟩ = none := by
      simp [doP, List.getElem?_eq_none hj]
    rw [hd]
    exact ⟨rfl, hC⟩
end Go.Proofs.Hc
/- append of a row of pairs to a row of the call's own. -/
namespace Go.Proofs.Hc
open Go.RowKit
theorem own_form {W : World} {base n size : Nat} {e : TypeId} {v : Value} {xs : List Value} (h : W.ownsRow base e size v n xs) : ∃ a c, v = .slice a n c := by
  obtain ⟨_, ⟨rfl, h0⟩ | ⟨g, cap, cur, hv, _⟩⟩ := h
  · exact ⟨none, 0, by rw [h0]⟩
  · exact ⟨_, _, hv⟩
end Go.Proofs.Hc
/- Package write: Step, as a model. -/
namespace Go.Proofs.Hc
open Go.RowKit
theorem needP_some {p : PenT} {a : AccT} (h : needP p = some a) : rightP p = true ∧ p.ph ≤ 13 := by
  unfold needP at h
  cases hb : (rightP p && decide (p.ph ≤ 13)) with
  | false => rw [hb, if_neg (by decide)] at h; cases h
  | true => simpa using hb
/-- The access of a pen: a load, a store or an add, at a cell. -/
theorem needP_acc {p : PenT} {a : AccT} (h : needP p = some a) : (a.kind = 1 ∨ a.kind = 2 ∨ a.kind = 4) ∧ 0 ≤ a.at_ := by
  obtain ⟨hr, h13⟩ := needP_some h
  have R := (rightP_iff p).1 hr
  unfold needP at h
  rw [if_pos (by simp [hr, h13])] at h
  have h := Option.some.inj h
  by_cases h12 : p.ph = 12
  · rw [if_pos h12] at h; subst h; simp
  · rw [if_neg h12] at h
    subst h
    have hw := (wordP_range R h13).1
    have := R.sl0
    refine ⟨?_, by show 0 ≤ 16 + 40 * p.sl + wordP p; omega⟩
    by_cases h5 : 5 < p.ph
    · exact .inr (.inl (if_pos h5))
    · exact .inl (if_neg h5)
/-- What Step answers at a row of words. -/
def StepPost (w : World) (l : List (BitVec 64)) (p : PenT) (e : Ending) (w' : World) : Prop :=
  match stepP l p with
  | none => e = .returned (.tuple #[.slice none 0 0, .agg (penC zeroPen), I 2]) ∧ Ch [] w w'
  | some y => ∃ R, e = .returned (.tuple #[.slice (some ⟨R, 0, none⟩) y.1.length y.1.length, .agg (penC y.2), I 0]) ∧ RowAt_ w w' R y.1 ∧ y.1.length = l.length ∧ Ch [] w w'
theorem wStep_any (l : List (BitVec 64)) (g c : Nat) (cur : Array Value) (p : PenT) (w : World) (h1 : 1 ≤ l.length) (hl : l.length ≤ 8192) (hb : w.heap[g]? = some (.cells cur 22 (0, 0))) (hw : WordsAt cur l) (hr : rightP p = true) :
    Calls Tryz.prog 43 #[.slice (some ⟨g, 0, none⟩) l.length c, .agg (penC p)] w (StepPost w l p) := by
  cases hn : needP p with
  | none =>
    refine (wStep_over l g c cur p w h1 hl hb hw hr hn).mono ?_
    rintro e w' ⟨R, rfl, hR, hrow, hC⟩
    unfold StepPost stepP
    rw [hn]
    exact ⟨R, rfl, ⟨hR, hrow⟩, rfl, hC⟩
  | some a =>
    obtain ⟨ha, ha0⟩ := needP_acc hn
    have N1 : ∀ w, Calls Tryz.prog 57 #[.agg (penC p), .int .i64 0] w fun e w' => e = .returned (.tuple #[.agg (accC 0 a.kind a.at_ (N a.new)), .bool true]) ∧ Ch [] w w' := fun w => by
      have := wNeed_any p 0 w
      rw [hn, needV] at this
      exact this
    have D1 : ∀ w, w.heap[g]? = some (.cells cur 22 (0, 0)) → Calls Tryz.prog 105 #[.slice (some ⟨g, 0, none⟩) l.length c, .agg (accC 0 a.kind a.at_ (N a.new))] w (DoPost w l a) := fun w h => Do_any l a g c cur w ha ha0 h1 hl h hw
    cases hd : doP l a with
    | none =>
      have D2 : ∀ w, w.heap[g]? = some (.cells cur 22 (0, 0)) → Calls Tryz.prog 105 #[.slice (some ⟨g, 0, none⟩) l.length c, .agg (accC 0 a.kind a.at_ (N a.new))] w fun e w' => e = .returned (.tuple #[.slice none 0 0, .agg (seenC 0 false), I 2]) ∧ Ch [] w w' := fun w h => (D1 w h).mono fun e w' hh => by unfold DoPost at hh; rw [hd] at hh; exact hh
      refine (wStep_out l g c cur p a.kind a.at_ (N a.new) w h1 hl hb hw hr N1 D2).mono ?_
      rintro e w' ⟨rfl, hC⟩
      unfold StepPost stepP
      rw [hn]
      dsimp only
      rw [hd]
      exact ⟨rfl, hC⟩
    | some y =>
      have hyl : y.1.length = l.length := by
        unfold doP at hd
        split at hd
        · cases hd
        · have hd := Option.some.inj hd
          subst hd
          dsimp only
          split
          · rfl
          · split <;> simp
      have D2 : ∀ w, w.heap[g]? = some (.cells cur 22 (0, 0)) → Calls Tryz.prog 105 #[.slice (some ⟨g, 0, none⟩) l.length c, .agg (accC 0 a.kind a.at_ (N a.new))] w fun e w' => ∃ Rr, e = .returned (.tuple #[.slice (some ⟨Rr, 0, none⟩) l.length l.length, .agg (seenC (N y.2) true), I 0]) ∧ w.heap.size ≤ Rr ∧ w'.heap[Rr]? = some (.cells (wcells y.1) 22 (0, 0)) ∧ Ch [] w w' := fun w h => (D1 w h).mono fun e w' hh => by
        unfold DoPost at hh
        rw [hd] at hh
        obtain ⟨Rr, he, hrow, _, hC⟩ := hh
        exact ⟨Rr, he, hrow.1, hrow.2, hC⟩
      have hp := needP_some hn
      refine (wStep_go l g c cur (wcells y.1) p (takeP p y.2) a.kind a.at_ (N a.new) (N y.2) w h1 hl hb hw hr N1 D2 (fun w => wTake_yes p ((rightP_iff p).1 hr) hp.2 y.2 w)).mono ?_
      rintro e w' ⟨R, rfl, hR, hrow, hC⟩
      unfold StepPost stepP
      rw [hn]
      dsimp only
      rw [hd]
      exact ⟨R, by rw [hyl], ⟨hR, hrow⟩, hyl, hC⟩
end Go.Proofs.Hc
/- A whole run of a pen: the plain law. -/
namespace Go.Proofs.Hc
open Go.RowKit
/-- A right pen's access lies in a row that holds its slab. -/
theorem needP_in {p : PenT} {a : AccT} {n : Nat} (h : needP p = some a) (hn : 56 + 40 * p.sl ≤ (n : Int)) : a.at_.toNat < n := by
  obtain ⟨hr, h13⟩ := needP_some h
  have R := (rightP_iff p).1 hr
  have hs := R.sl0
  unfold needP at h
  rw [if_pos (by simp [hr, h13])] at h
  have h := Option.some.inj h
  by_cases h12 : p.ph = 12
  · rw [if_pos h12] at h; subst h; show (1 : Int).toNat < n; omega
  · rw [if_neg h12] at h
    subst h
    have hw := wordP_range R h13
    show (16 + 40 * p.sl + wordP p).toNat < n
    omega
theorem needP_yes {p : PenT} (hr : rightP p = true) (h13 : p.ph ≤ 13) : ∃ a, needP p = some a := by
  unfold needP
  rw [if_pos (by simp [hr, h13])]
  exact ⟨_, rfl⟩
theorem doP_in {l : List (BitVec 64)} {a : AccT} (h : a.at_.toNat < l.length) : ∃ y, doP l a = some y ∧ y.1.length = l.length := by
  unfold doP
  rw [List.getElem?_eq_getElem h]
  refine ⟨_, rfl, ?_⟩
  dsimp only
  split
  · rfl
  · split <;> simp
/-- A step of a right pen whose row holds its slab: it goes on, stays right, and comes nearer to its end. -/
theorem stepP_goes {l : List (BitVec 64)} {p : PenT} (hr : rightP p = true) (h13 : p.ph ≤ 13) (hn : 56 + 40 * p.sl ≤ (l.length : Int)) :
    ∃ a y, needP p = some a ∧ doP l a = some y ∧ stepP l p = some (y.1, takeP p y.2) ∧ y.1.length = l.length ∧ rightP (takeP p y.2) = true ∧ meas (takeP p y.2) < meas p := by
  obtain ⟨a, ha⟩ := needP_yes hr h13
  obtain ⟨y, hy, hyl⟩ := doP_in (needP_in ha hn)
  have R := (rightP_iff p).1 hr
  refine ⟨a, y, ha, hy, ?_, hyl, (rightP_iff _).2 (R.take h13 y.2), meas_take R h13 y.2⟩
  unfold stepP
  rw [ha]
  dsimp only
  rw [hy]
  rfl
theorem onP_sl (p : PenT) : (onP p).sl = p.sl := by
  unfold onP
  split
  · rfl
  · split <;> rfl
theorem freeP_sl (p : PenT) (w : BitVec 64) (o : Option Nat) : (freeP p w o).sl = p.sl := by
  cases o with
  | none => rfl
  | some x =>
    by_cases h : p.free = 0
    · rw [freeP_put p w x h]
    · rw [freeP_kept p w _ h]
theorem takeP_sl (p : PenT) (w : BitVec 64) : (takeP p w).sl = p.sl := by
  unfold takeP
  split
  · split <;> rfl
  · split
    · unfold lookedP; rw [onP_sl, freeP_sl]; rfl
    · split
      · split
        · rfl
        · rw [onP_sl]
      · split
        · rfl
        · split
          · rfl
          · split <;> rfl
/-- A whole run: the words and the pen behind it, and how many steps. -/
inductive RunsTo : List (BitVec 64) → PenT → Nat → List (BitVec 64) → PenT → Prop
  | done {l p} : 13 < p.ph → RunsTo l p 0 l p
  | step {l p a y k l' p'} : p.ph ≤ 13 → rightP p = true → needP p = some a → doP l a = some y → RunsTo y.1 (takeP p y.2) k l' p' → RunsTo l p (k + 1) l' p'
theorem runs_any : ∀ (m : Nat) (l : List (BitVec 64)) (p : PenT), meas p ≤ m → rightP p = true → 56 + 40 * p.sl ≤ (l.length : Int) → ∃ k l' p', k ≤ m ∧ RunsTo l p k l' p' ∧ l'.length = l.length := by
  intro m
  induction m with
  | zero =>
    intro l p hm hr hn
    by_cases h13 : p.ph ≤ 13
    · obtain ⟨a, y, _, _, _, _, _, hlt⟩ := stepP_goes hr h13 hn
      omega
    · exact ⟨0, l, p, Nat.le_refl _, .done (by omega), rfl⟩
  | succ m ih =>
    intro l p hm hr hn
    by_cases h13 : p.ph ≤ 13
    · obtain ⟨a, y, ha, hy, _, hyl, hr', hlt⟩ := stepP_goes hr h13 hn
      obtain ⟨k, l', p', hk, hrun, hl'⟩ := ih y.1 (takeP p y.2) (by omega) hr' (by rw [takeP_sl, hyl]; exact hn)
      exact ⟨k + 1, l', p', by omega, .step h13 hr ha hy hrun, by rw [hl', hyl]⟩
    · exact ⟨0, l, p, Nat.zero_le _, .done (by omega), rfl⟩
end Go.Proofs.Hc
/- The reference of layer 19: Run. -/
namespace Go.Proofs.Hc
open Go.RowKit
attribute [local go_sem] wrap_u64 wrap_u8 bits_xor64 bits_and64 bits_or64 bits_not64 bits_xor8 bits_and8 bits_or8 signed64 signed8 ofInt_N BitVec.ofInt_add BitVec.ofInt_mul ofInt_sub' ofInt8_N64 ofInt64_N8 wide8 eqN neN shr_pow shr1 shr7 shr56
attribute [local go_sem high] bits_com64 shl_wrap
attribute [local go_sem] cell_heap ice_heap cellAt_cells iceAt_cells setAt_cells rowAt_cells canLay_cells laidAt_cells size_onObj size_setCell rowRes_some layRes_true
attribute [local go_sem] load26 load73 load23 store26 build73
attribute [local go_sem ↓] lrow26 lrow73 lrow23 srow26 zero26 brow73 heap_alloc heap_drew heap_drewN heap_setCell heap_onObj
attribute [local go_sem] tcells_size hcells_size tcells_get hcells_get tcells_one hcells_one hcells_table tcells_table hcells_all hcells_ctrl tcells_ctrl
attribute [local go_sem] nn2 nm2 nn3 nm3 nn4 nm4 nn5 nm5 nn6 nm6 nn7 nm7 nn8 nm8
attribute [local go_sem] nn2 nm2 nn3 nm3 nn4 nm4 nn5 nm5 nn6 nm6 nn7 nm7 nn8 nm8
attribute [local go_sem] ofInt_N ofInt_pow8
attribute [local go_sem] Oper.semAt_some make_func1
attribute [local go_sem] pen_g0 pen_g1 pen_g2 pen_g3 pen_g4 pen_g5 pen_g6 pen_g7 pen_g8 pen_g9 pen_g10 pen_g11 pen_g12 pen_g13 pen_g14 pen_g15 pen_g16 pen_g17 penC_size penC_one penC_all
attribute [local irreducible] penC
attribute [local go_sem] pen_s0 pen_s1 pen_s2 pen_s3 pen_s4 pen_s5 pen_s6 pen_s7 pen_s8 pen_s9 pen_s10 pen_s11 pen_s12 pen_s13 pen_s14 pen_s15 pen_s16 pen_s17
attribute [local go_sem] boxPen loadPen storePen buildPen0
attribute [local go_sem ↓] lrowPen srowPen wzeroPen_run browPen
attribute [local go_sem high] wlaidAt_pen
theorem RunsTo.inv {l : List (BitVec 64)} {p : PenT} {k : Nat} {l' : List (BitVec 64)} {p' : PenT} (h : RunsTo l p k l' p') : (13 < p.ph ∧ k = 0 ∧ l' = l ∧ p' = p) ∨ ∃ a y k1, p.ph ≤ 13 ∧ k = k1 + 1 ∧ needP p = some a ∧ doP l a = some y ∧ RunsTo y.1 (takeP p y.2) k1 l' p' := by
  cases h with
  | done h => exact .inl ⟨h, rfl, rfl, rfl⟩
  | step h1 h2 h3 h4 h5 => exact .inr ⟨_, _, _, h1, rfl, h3, h4, h5⟩
theorem doP_len {l : List (BitVec 64)} {a : AccT} {y : List (BitVec 64) × BitVec 64} (h : doP l a = some y) : y.1.length = l.length := by
  unfold doP at h
  split at h
  · cases h
  · have h := Option.some.inj h
    subst h
    dsimp only
    split
    · rfl
    · split <;> simp
/-- A row of words at a block. -/
def RowIn (w : World) (v : Value) (n : Nat) (l : List (BitVec 64)) : Prop := ∃ r c cur, v = .slice (some ⟨r, 0, none⟩) n c ∧ l.length = n ∧ w.heap[r]? = some (.cells cur 22 (0, 0)) ∧ WordsAt cur l
theorem RowIn.own {w : World} {base n : Nat} {v : Value} {l : List (BitVec 64)} (h : w.ownsRow base 22 1 v n (l.map fun x => U x)) (h1 : 1 ≤ n) : RowIn w v n l := by
  obtain ⟨hlen, ⟨_, h0⟩ | ⟨r, c, cur, rfl, _, hW, _, _, _, htake⟩⟩ := h
  · omega
  · refine ⟨r, c, cur, rfl, by simpa using hlen, hW, ?_⟩
    intro j x hj
    have hjl : j < l.length := (List.getElem?_eq_some_iff.1 hj).1
    have hln : l.length = n := by simpa using hlen
    have : (cur.toList.take (n * 1))[j]? = some (U x) := by rw [htake, List.getElem?_map, hj]; rfl
    rw [List.getElem?_take, if_pos (by omega)] at this
    simpa using this
theorem RowIn.keep {w w' : World} {v : Value} {n : Nat} {l : List (BitVec 64)} (h : RowIn w v n l) (c : Ch [] w w') : RowIn w' v n l := by
  obtain ⟨r, d, cur, rfl, hn, hW, hA⟩ := h
  exact ⟨r, d, cur, rfl, hn, hkeep c hW, hA⟩
end Go.Proofs.Hc
/- Whole runs as a function, and the table's words: plain. -/
namespace Go.Proofs.Hc
open Go.RowKit
def runF : Nat → List (BitVec 64) → PenT → Nat → Option (List (BitVec 64) × PenT × Nat)
  | 0, _, _, _ => none
  | m + 1, l, p, k => if 13 < p.ph then some (l, p, k) else (needP p).bind fun a => (doP l a).bind fun y => runF m y.1 (takeP p y.2) (k + 1)
theorem runF_runs : ∀ (m : Nat) (l : List (BitVec 64)) (p : PenT) (k : Nat) (r : List (BitVec 64) × PenT × Nat), runF m l p k = some r → ∃ j, r.2.2 = k + j ∧ RunsTo l p j r.1 r.2.1 := by
  intro m
  induction m with
  | zero => intro l p k r h; cases h
  | succ m ih =>
    intro l p k r h
    unfold runF at h
    by_cases h13 : 13 < p.ph
    · rw [if_pos h13] at h
      have h := Option.some.inj h
      subst h
      exact ⟨0, rfl, .done h13⟩
    · rw [if_neg h13] at h
      obtain ⟨a, ha, h⟩ := Option.bind_eq_some_iff.1 h
      obtain ⟨y, hy, h⟩ := Option.bind_eq_some_iff.1 h
      obtain ⟨j, hj, hr⟩ := ih _ _ _ _ h
      exact ⟨j + 1, by omega, .step (by omega) (needP_some ha).1 ha hy hr⟩
/-- One who writes, at first. -/
def firstP (sl op : Int) (k a b h : BitVec 64) : PenT := ⟨0, sl, op, k, a, b, h, 0#64, 0#64, 0#64, 0, 0#64, 0#8, 0, 0#64, 0, 0#64, false⟩
end Go.Proofs.Hc
/- Tables laid anew, and halves: plain law. -/
namespace Go.Proofs.Hc
open Go.RowKit
/-- A table none of whose slots is deleted. -/
def Clean (t : Tab) : Prop := ∀ j, j < 16 → bt t j ≠ 254#8
theorem Clean.fill {t : Tab} (h : Clean t) (s k v : BitVec 64) (sl : Nat) : Clean (fillT t s k v sl) := by
  intro j hj
  rw [bt_fill]
  split
  · intro e
    have := hash2_lt (hashOf s k)
    rw [e] at this; exact absurd this (by decide)
  · exact h j hj
end Go.Proofs.Hc
/- slices.Equal and Clone at rows of words. -/
namespace Go.Proofs.Hc
open Go.RowKit
attribute [local go_sem] wrap_u64 wrap_u8 bits_xor64 bits_and64 bits_or64 bits_not64 bits_xor8 bits_and8 bits_or8 signed64 signed8 ofInt_N BitVec.ofInt_add BitVec.ofInt_mul ofInt_sub' ofInt8_N64 ofInt64_N8 wide8 eqN neN shr_pow shr1 shr7 shr56
attribute [local go_sem high] bits_com64 shl_wrap
attribute [local go_sem] cell_heap ice_heap cellAt_cells iceAt_cells setAt_cells rowAt_cells canLay_cells laidAt_cells size_onObj size_setCell rowRes_some layRes_true
attribute [local go_sem] load26 load73 load23 store26 build73
attribute [local go_sem ↓] lrow26 lrow73 lrow23 srow26 zero26 brow73 heap_alloc heap_drew heap_drewN heap_setCell heap_onObj
attribute [local go_sem] tcells_size hcells_size tcells_get hcells_get tcells_one hcells_one hcells_table tcells_table hcells_all hcells_ctrl tcells_ctrl
attribute [local go_sem] nn2 nm2 nn3 nm3 nn4 nm4 nn5 nm5 nn6 nm6 nn7 nm7 nn8 nm8
attribute [local go_sem] nn2 nm2 nn3 nm3 nn4 nm4 nn5 nm5 nn6 nm6 nn7 nm7 nn8 nm8
attribute [local go_sem] Oper.semAt_some make_func1
set_option maxHeartbeats 1000000 in
set_option maxRecDepth 100000 in
theorem eqWords_any (l : List (BitVec 64)) (a b : Option Addr) (c d : Nat) (cur cur2 : Array Value) (w : World) (hl : l.length ≤ 900000)
    (hpa : WordsAt cur l) (ha : 0 < l.length → ∃ r, a = some ⟨r, 0, none⟩) (hr : ∀ r, a = some ⟨r, 0, none⟩ → w.heap[r]? = some (.cells cur 22 (0, 0)))
    (hpb : WordsAt cur2 l) (hb : 0 < l.length → ∃ r, b = some ⟨r, 0, none⟩) (hs : ∀ r, b = some ⟨r, 0, none⟩ → w.heap[r]? = some (.cells cur2 22 (0, 0))) :
    Calls Tryz.prog 46 #[.slice a l.length c, .slice b l.length d] w fun e w' => e = .returned (.bool true) ∧ Ch [] w w' := by
  have HP := Lib.hid hpa
  have HA := Lib.hid ha
  have HR := Lib.hid hr
  have HPB := Lib.hid hpb
  have HAB := Lib.hid hb
  have HRB := Lib.hid hs
  clear hpa ha hr hpb hb hs
  go_enter Tryz.func46, Tryz.ntmps46
  go_wp2
  go_loopw [13] (fun i wr => ∃ j : Nat, i = .int .i64 j ∧ j ≤ l.length ∧ Ch [] w wr) (fun i _ => l.length - (intOf i).toNat)
  case atStart => exact ⟨0, rfl, Nat.zero_le _, Ch.refl _ _⟩
  case round =>
    obtain ⟨j, hj, hjl, hcr⟩ := hrel
    subst hj
    rcases Nat.lt_or_ge j l.length with hlt | hge
    · obtain ⟨r, hra⟩ := HA.out (by omega)
      obtain ⟨q, hqb⟩ := HAB.out (by omega)
      obtain ⟨y, hy⟩ : ∃ y, l[j]? = some y := ⟨l[j]'hlt, List.getElem?_eq_getElem hlt⟩
      have hrow : cur[j]? = some (U y) := HP.out j y hy
      have hrow2 : cur2[j]? = some (U y) := HPB.out j y hy
      subst hra hqb
      have hrr : wr.heap[r]? = some (.cells cur 22 (0, 0)) := hkeep hcr (HR.out r rfl)
      have hqq : wr.heap[q]? = some (.cells cur2 22 (0, 0)) := hkeep hcr (HRB.out q rfl)
      have hdec : decide (j < l.length) = true := by simpa using hlt
      have hg0 : ∀ g : Gar wr, (g.1).heap[q]? = some (.cells cur2 22 (0, 0)) := fun g => hkeep g.2 hqq
      have hg1 : ∀ g : Gar wr, (g.1).heap[r]? = some (.cells cur 22 (0, 0)) := fun g => hkeep g.2 hrr
      clear hy
      go_wp2
      refine wp_region_gar (by kernel_rfl) (by kernel_rfl) ?_
      repeat (go_big_quiet_step (fail))
      refine wpQuiet_nil ?_
      rintro w1 ⟨g1, hw1⟩
      have hc1 : Ch [] w w1 := hcr.trans (by rw [hw1]; exact g1.2)
      clear hw1 g1 hg0 hg1
      go_wp2
      go_roundw
      case rel => exact ⟨j + 1, by go_num, hlt, hc1⟩
      case measure => simp [intOf]; omega
    · have hj : j = l.length := by omega
      subst hj
      go_wp2
      go_ret
      exact ⟨rfl, hcr⟩
theorem words_oneZ (l : List (BitVec 64)) : ∀ u ∈ l.map (fun x => U x), u.oneCell' = true := by
  intro u hu
  obtain ⟨y, _, rfl⟩ := List.mem_map.1 hu
  rfl
set_option maxHeartbeats 1000000 in
set_option maxRecDepth 100000 in
theorem cloneWords_any (l : List (BitVec 64)) (x : Addr) (c : Nat) (w : World) (hl : l.length ≤ 900000) (h : ∀ w', Ch [] w w' → ∀ j u, (l.map fun x => U x)[j]? = some u → w'.cell? (x.add j) = some u) :
    Calls Tryz.prog 47 #[.slice (some x) l.length c] w fun e w' => ∃ a' c', e = .returned (.slice a' l.length c') ∧ w'.ownsRow w.heap.size 22 1 (.slice a' l.length c') l.length (l.map fun x => U x) ∧ Ch [] w w' := by
  have q22 : ∀ (w : World) (a : Option Addr) (n c n' c' : Nat), (binOp .eql 53 (.slice a n c) (.slice none n' c')).run Tryz.prog w = .ok (.bool a.isNone) w := fun w a n c n' c' => Lib.run_eql_slice_nil w _ _ a n c n' c' Tryz.underlying53
  obtain ⟨i0, hi, hz0, hz1, hz2⟩ := info_parts infoU
  have hmade : (w.alloc (.cells #[] 22)).ownsRow w.heap.size 22 1 (.slice (some ⟨w.heap.size, 0, none⟩) 0 0) 0 [] := World.ownsRow_made w #[] 0 (Nat.le_refl _) (Nat.zero_le _) (by simp)
  have hcA : Ch [] w (w.alloc (.cells #[] 22)) := (Ch.refl [] w).alloc _
  obtain ⟨v', w1, hrun, hown, hgr, _⟩ := run_append_own (P := Tryz.prog) (w.alloc (.cells #[] 22)) w.heap.size 53 53 22 i0 (U 0#64) 1 8 Tryz.underlying53 hi hz0 hz1 hz2 rfl (by decide) _ 0 [] hmade x l.length c (l.map fun x => U x) (by simp) (h _ hcA) (words_oneZ l) (by unfold maxLen; omega) (by omega) (by simp)
  rw [Nat.zero_add, List.nil_append] at hown
  have hc1 : Ch [] w w1 := hcA.trans2 (Ch.of_grown (S := [w.heap.size]) hgr (fun k hk => by simp [Value.ownBlock] at hk; simp [hk])) (by simp)
  have bs : ∀ w : World, (Instr.buildSlice 53 0 #[]).run Tryz.prog w = .ok (.slice (some ⟨w.heap.size, 0, none⟩) 0 0) (w.alloc (.cells #[] 22)) := fun w => by kernel_rfl
  have HO := Lib.hid hown
  have HC := Lib.hid hc1
  clear hmade hcA hgr hown hc1 h
  go_enter Tryz.func47, Tryz.ntmps47
  go_wp2_with (at_builtin; refine Lib.wpList_append_run _ rfl _ _ 53 53 rfl _ _ rfl rfl _ _ hrun ?_)
  go_ret
  obtain ⟨a', c', rfl⟩ := own_form HO.out
  exact ⟨a', c', rfl, HO.out, HC.out⟩
end Go.Proofs.Hc
/- Law 19: WriteSteps, the walk (printed by gen_steps19.py). -/
namespace Go.Proofs.Hc
open Go.RowKit
attribute [local go_sem] wrap_u64 wrap_u8 bits_xor64 bits_and64 bits_or64 bits_not64 bits_xor8 bits_and8 bits_or8 signed64 signed8 ofInt_N BitVec.ofInt_add BitVec.ofInt_mul ofInt_sub' ofInt8_N64 ofInt64_N8 wide8 eqN neN shr_pow shr1 shr7 shr56
attribute [local go_sem high] bits_com64 shl_wrap
attribute [local go_sem] cell_heap ice_heap cellAt_cells iceAt_cells setAt_cells rowAt_cells canLay_cells laidAt_cells size_onObj size_setCell rowRes_some layRes_true
attribute [local go_sem] load26 load73 load23 store26 build73
attribute [local go_sem ↓] lrow26 lrow73 lrow23 srow26 zero26 brow73 heap_alloc heap_drew heap_drewN heap_setCell heap_onObj
attribute [local go_sem] tcells_size hcells_size tcells_get hcells_get tcells_one hcells_one hcells_table tcells_table hcells_all hcells_ctrl tcells_ctrl
attribute [local go_sem] nn2 nm2 nn3 nm3 nn4 nm4 nn5 nm5 nn6 nm6 nn7 nm7 nn8 nm8
attribute [local go_sem] nn2 nm2 nn3 nm3 nn4 nm4 nn5 nm5 nn6 nm6 nn7 nm7 nn8 nm8
attribute [local go_sem] ofInt_N ofInt_pow8
attribute [local go_sem] Oper.semAt_some make_func1
attribute [local go_sem] pen_g0 pen_g1 pen_g2 pen_g3 pen_g4 pen_g5 pen_g6 pen_g7 pen_g8 pen_g9 pen_g10 pen_g11 pen_g12 pen_g13 pen_g14 pen_g15 pen_g16 pen_g17 penC_size penC_one penC_all
attribute [local irreducible] penC
attribute [local go_sem] pen_s0 pen_s1 pen_s2 pen_s3 pen_s4 pen_s5 pen_s6 pen_s7 pen_s8 pen_s9 pen_s10 pen_s11 pen_s12 pen_s13 pen_s14 pen_s15 pen_s16 pen_s17
attribute [local go_sem] boxPen loadPen storePen buildPen0
attribute [local go_sem ↓] lrowPen srowPen wzeroPen_run browPen
attribute [local go_sem high] wlaidAt_pen
theorem eqin_pen (p : PenT) (w : World) : (Op.equalIn 10000 71 (.agg (penC p)) (.agg (penC p))).run Tryz.prog w = .ok true w := self_pen 9997 p w
attribute [local go_sem] guardPen
attribute [local go_sem ↓] eqin_pen eql_pen neq_pen
theorem own_row {w : World} {base n : Nat} {v : Value} {l : List (BitVec 64)} (h : w.ownsRow base 22 1 v n (l.map fun x => U x)) (h1 : 1 ≤ n) : ∃ r c cur, v = .slice (some ⟨r, 0, none⟩) n c ∧ base ≤ r ∧ l.length = n ∧ WordsAt cur l ∧ w.heap[r]? = some (.cells cur 22 (0, 0)) := by
  obtain ⟨r0, c0, cur0, hv0, hl0, hW0, hA0⟩ := RowIn.own h h1
  obtain ⟨hlen, ⟨_, h0⟩ | ⟨r, c, cur, rfl, hb, hW, _⟩⟩ := h
  · omega
  · simp only [Value.slice.injEq, Option.some.injEq, Addr.mk.injEq] at hv0
    obtain ⟨⟨rfl, _⟩, _, rfl⟩ := hv0
    rw [hW0] at hW
    have := Option.some.inj hW
    injection this with e1
    subst e1
    exact ⟨r, c, cur0, rfl, hb, hl0, hA0, hW0⟩
theorem eq_rows {l : List (BitVec 64)} {n : Nat} (hn : n ≤ 900000) (hl : l.length = n) (R R2 c d : Nat) (cur cur2 : Array Value) (h1 : WordsAt cur l) (h2 : WordsAt cur2 l) (w : World) (hb : w.heap[R]? = some (.cells cur 22 (0, 0))) (hb2 : w.heap[R2]? = some (.cells cur2 22 (0, 0))) :
    Calls Tryz.prog 46 #[.slice (some ⟨R, 0, none⟩) n c, .slice (some ⟨R2, 0, none⟩) n d] w fun e w' => e = .returned (.bool true) ∧ Ch [] w w' := by
  subst hl
  exact eqWords_any l _ _ c d cur cur2 w hn h1 (fun _ => ⟨R, rfl⟩) (fun r h => by cases h; exact hb) h2 (fun _ => ⟨R2, rfl⟩) (fun r h => by cases h; exact hb2)
end Go.Proofs.Hc
