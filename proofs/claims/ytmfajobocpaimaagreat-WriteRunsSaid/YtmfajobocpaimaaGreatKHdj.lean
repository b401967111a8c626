/- A whole run of a pen: the plain law. -/
import Derived.Test.YtmfajobocpaimaaGreatKHci
import Derived.Test.YtmfajobocpaimaaGreatKHcs
import Derived.Test.YtmfajobocpaimaaGreatKHlan
import Derived.Test.YtmfajobocpaimaaGreatKHxe
import Derived.Test.YtmfajobocpaimaaGreatKHnl
import Derived.Test.YtmfajobocpaimaaGreatKHpa
import Derived.Test.YtmfajobocpaimaaGreatKHq
import Derived.Test.YtmfajobocpaimaaGreatKHr
import Derived.Test.YtmfajobocpaimaaGreatKHta
import Derived.Test.YtmfajobocpaimaaGreatKHop2
import Derived.Test.YtmfajobocpaimaaGreatKHxo
import Derived.Below
import Derived.BigQuiet
import Derived.Deep.Draws
import Derived.Deep.Light
import Derived.Deep.OwnRows
import Derived.Deep.QuietTactic
import Derived.Deep.RegionHeld
import Derived.IntWalk
import Derived.Laws.CopyOwn
import Derived.Laws.CopyRow
import Derived.Laws.StructEq
import Derived.Laws.Tables
import Derived.Lib.AppendZerosOnto
import Derived.Lib.Hide
import Derived.Lib.Tables
import Derived.Lib.Walk
import Derived.LoopIn
import Derived.LoopN
import Derived.LoopNIn
import Derived.Maps.AppendAt
import Derived.Maps.Views
import Derived.OwnWalkIn
import Derived.RangeFuncBox
import Derived.RangeFuncCalls
import Derived.RangeFuncRecord
import Derived.RangeFuncSeq
import Derived.Recover
import Derived.RegionTactic
import Derived.ScopeJumps
import Derived.Shelf.Slices.Clone
import Derived.StillTail
import Derived.StillTailTactics
import Derived.TacticsInMore
import Derived.Test.YtmfajobocpaimaaGreatProg
import Derived.WalkKit
import Derived.WalkLawsBesides
import Derived.WalkMore
import Derived.WalkSpells
set_option linter.unusedSimpArgs false
set_option linter.unusedVariables false
namespace Go.Proofs.Hc
open Go.RowKit
/-- A right pen's access lies in a row that holds its slab. -/
theorem needP_in {p : PenT} {a : AccT} {n : Nat} (h : needP p = some a) (hn : 56 + 40 * p.sl ≤ (n : Int)) : a.at_.toNat < n := by
  obtain ⟨hr, h13⟩ := needP_some h
  have R := (rightP_iff p).1 hr
  have hs := R.sl0
  unfold needP at h
  rw [if_pos (by simp [hr, h13])] at h
  have h := Option.some.inj h
  by_cases h12 : p.ph = 12
  · rw [if_pos h12] at h; subst h; show (1 : Int).toNat < n; omega
  · rw [if_neg h12] at h
    subst h
    have hw := wordP_range R h13
    show (16 + 40 * p.sl + wordP p).toNat < n
    omega
theorem needP_yes {p : PenT} (hr : rightP p = true) (h13 : p.ph ≤ 13) : ∃ a, needP p = some a := by
  unfold needP
  rw [if_pos (by simp [hr, h13])]
  exact ⟨_, rfl⟩
theorem doP_in {l : List (BitVec 64)} {a : AccT} (h : a.at_.toNat < l.length) : ∃ y, doP l a = some y ∧ y.1.length = l.length := by
  unfold doP
  rw [List.getElem?_eq_getElem h]
  refine ⟨_, rfl, ?_⟩
  dsimp only
  split
  · rfl
  · split <;> simp
/-- A step of a right pen whose row holds its slab: it goes on, stays right, and comes nearer to its end. -/
theorem stepP_goes {l : List (BitVec 64)} {p : PenT} (hr : rightP p = true) (h13 : p.ph ≤ 13) (hn : 56 + 40 * p.sl ≤ (l.length : Int)) :
    ∃ a y, needP p = some a ∧ doP l a = some y ∧ stepP l p = some (y.1, takeP p y.2) ∧ y.1.length = l.length ∧ rightP (takeP p y.2) = true ∧ meas (takeP p y.2) < meas p := by
  obtain ⟨a, ha⟩ := needP_yes hr h13
  obtain ⟨y, hy, hyl⟩ := doP_in (needP_in ha hn)
  have R := (rightP_iff p).1 hr
  refine ⟨a, y, ha, hy, ?_, hyl, (rightP_iff _).2 (R.take h13 y.2), meas_take R h13 y.2⟩
  unfold stepP
  rw [ha]
  dsimp only
  rw [hy]
  rfl
theorem onP_sl (p : PenT) : (onP p).sl = p.sl := by
  unfold onP
  split
  · rfl
  · split <;> rfl
theorem freeP_sl (p : PenT) (w : BitVec 64) (o : Option Nat) : (freeP p w o).sl = p.sl := by
  cases o with
  | none => rfl
  | some x =>
    by_cases h : p.free = 0
    · rw [freeP_put p w x h]
    · rw [freeP_kept p w _ h]
theorem takeP_sl (p : PenT) (w : BitVec 64) : (takeP p w).sl = p.sl := by
  unfold takeP
  split
  · split <;> rfl
  · split
    · unfold lookedP; rw [onP_sl, freeP_sl]; rfl
    · split
      · split
        · rfl
        · rw [onP_sl]
      · split
        · rfl
        · split
          · rfl
          · split <;> rfl
/-- A whole run: the words and the pen behind it, and how many steps. -/
inductive RunsTo : List (BitVec 64) → PenT → Nat → List (BitVec 64) → PenT → Prop
  | done {l p} : 13 < p.ph → RunsTo l p 0 l p
  | step {l p a y k l' p'} : p.ph ≤ 13 → rightP p = true → needP p = some a → doP l a = some y → RunsTo y.1 (takeP p y.2) k l' p' → RunsTo l p (k + 1) l' p'
theorem runs_any : ∀ (m : Nat) (l : List (BitVec 64)) (p : PenT), meas p ≤ m → rightP p = true → 56 + 40 * p.sl ≤ (l.length : Int) → ∃ k l' p', k ≤ m ∧ RunsTo l p k l' p' ∧ l'.length = l.length := by
  intro m
  induction m with
  | zero =>
    intro l p hm hr hn
    by_cases h13 : p.ph ≤ 13
    · obtain ⟨a, y, _, _, _, _, _, hlt⟩ := stepP_goes hr h13 hn
      omega
    · exact ⟨0, l, p, Nat.le_refl _, .done (by omega), rfl⟩
  | succ m ih =>
    intro l p hm hr hn
    by_cases h13 : p.ph ≤ 13
    · obtain ⟨a, y, ha, hy, _, hyl, hr', hlt⟩ := stepP_goes hr h13 hn
      obtain ⟨k, l', p', hk, hrun, hl'⟩ := ih y.1 (takeP p y.2) (by omega) hr' (by rw [takeP_sl, hyl]; exact hn)
      exact ⟨k + 1, l', p', by omega, .step h13 hr ha hy hrun, by rw [hl', hyl]⟩
    · exact ⟨0, l, p, Nat.zero_le _, .done (by omega), rfl⟩
end Go.Proofs.Hc
/- Package table: Set. -/
namespace Go.Proofs.Hc
open Go.RowKit
attribute [local go_sem] wrap_u64 wrap_u8 bits_xor64 bits_and64 bits_or64 bits_not64 bits_xor8 bits_and8 bits_or8 signed64 signed8 ofInt_N BitVec.ofInt_add BitVec.ofInt_mul ofInt_sub' ofInt8_N64 ofInt64_N8 wide8 eqN neN shr_pow shr1 shr7 shr56
attribute [local go_sem high] bits_com64 shl_wrap
attribute [local go_sem] cell_heap ice_heap cellAt_cells iceAt_cells setAt_cells rowAt_cells canLay_cells laidAt_cells size_onObj size_setCell rowRes_some layRes_true
attribute [local go_sem] load26 load73 load23 store26 build73
attribute [local go_sem ↓] lrow26 lrow73 lrow23 srow26 zero26 brow73 heap_alloc heap_drew heap_drewN heap_setCell heap_onObj
attribute [local go_sem] tcells_size hcells_size tcells_get hcells_get tcells_one hcells_one hcells_table tcells_table hcells_all hcells_ctrl tcells_ctrl
attribute [local go_sem] nn2 nm2 nn3 nm3 nn4 nm4 nn5 nm5 nn6 nm6 nn7 nm7 nn8 nm8
attribute [local go_sem] loadA loadT2 storeA storeT2 buildA_ts buildA_sm assert_errno make_func acells_size t2cells_size acells_get t2cells_get acells_one t2cells_one acells_table acells_all t2cells_all t2cells_l t2cells_r
attribute [local go_sem ↓] lrowA lrowT2 srowA srowT2 browA zeroA_run zeroT2_run
attribute [local go_sem] nn2 nm2 nn3 nm3 nn4 nm4 nn5 nm5 nn6 nm6 nn7 nm7 nn8 nm8
attribute [local go_sem] Oper.semAt_some make_func1 ofInt_pow8
attribute [local go_sem] box26 tcells_idx cell0 cell1 cell2 cell3 cell4 hcells_idx hcells_pop
attribute [local go_sem] cell5 cell6
attribute [local go_sem high] laidAt_t
/-- A table whose key has another value. -/
def setT (t : Tab) (j : Nat) (v : BitVec 64) : Tab := { t with v := fun i => if i = j then v else t.v i }
end Go.Proofs.Hc
/- What putting, setting and dropping do to a table that may be: plain law. -/
namespace Go.Proofs.Hc
open Go.RowKit
/-- A group's bytes when a slot of it is given up. -/
def goneC (t : Tab) (j : Nat) : BitVec 64 := withB (t.c (j / 8)) (j % 8) (gone (t.c (j / 8)))
/-- A table that gave up a slot. -/
def dropT (t : Tab) (j : Nat) : Tab := { t with c := fun i => if i = j / 8 then goneC t j else t.c i, can := if emptyM (goneC t j) != 0#8 then t.can + 1 else t.can, live := t.live - 1 }
theorem mk_depth (a : BitVec 64) (b : Int) (c : BitVec 64) (d e : Int) (f g h : Nat → BitVec 64) : (Tab.mk a b c d e f g h).depth = b := rfl
theorem mk_pre (a : BitVec 64) (b : Int) (c : BitVec 64) (d e : Int) (f g h : Nat → BitVec 64) : (Tab.mk a b c d e f g h).pre = c := rfl
theorem drop_depth (t : Tab) (sl : Nat) : (dropT t sl).depth = t.depth := by unfold dropT; exact mk_depth _ _ _ _ _ _ _ _
theorem drop_pre (t : Tab) (sl : Nat) : (dropT t sl).pre = t.pre := by unfold dropT; exact mk_pre _ _ _ _ _ _ _ _
theorem bt_with (t t' : Tab) (sl : Nat) (b : BitVec 8) (hc : t'.c = fun i => if i = sl / 8 then withB (t.c (sl / 8)) (sl % 8) b else t.c i) (j : Nat) : bt t' j = if j = sl then b else bt t j := by
  unfold bt
  rw [hc]
  dsimp only
  by_cases h : j / 8 = sl / 8
  · rw [if_pos h, byteAt_withB _ _ _ _ (by omega) (by omega), h]
    by_cases h2 : j % 8 = sl % 8
    · rw [if_pos h2, if_pos (by omega)]
    · rw [if_neg h2, if_neg (by intro e; rw [e] at h2; exact h2 rfl)]
  · rw [if_neg h, if_neg (by intro e; rw [e] at h; exact h rfl)]
theorem flatT_iff (t : Tab) : flatT t = true ↔ 0 ≤ t.depth ∧ t.depth ≤ 5 ∧ N (t.pre >>> t.depth.toNat) = 0 ∧ 0 ≤ t.can ∧ t.can ≤ 14 ∧ 0 ≤ t.live ∧ t.live ≤ 14 := by
  rw [flatT]
  simp only [Bool.and_eq_true, decide_eq_true_iff, beq_iff_eq]
  constructor
  · rintro ⟨⟨⟨⟨a, b⟩, c⟩, d, e⟩, f, g⟩; exact ⟨a, b, c, d, e, f, g⟩
  · rintro ⟨a, b, c, d, e, f, g⟩; exact ⟨⟨⟨⟨a, b⟩, c⟩, d, e⟩, f, g⟩
theorem flatT_of {t t' : Tab} (h : flatT t = true) (hd : t'.depth = t.depth) (hp : t'.pre = t.pre) (h1 : 0 ≤ t'.can) (h2 : t'.can ≤ 14) (h3 : 0 ≤ t'.live) (h4 : t'.live ≤ 14) : flatT t' = true := by
  obtain ⟨a, b, c, _⟩ := (flatT_iff t).1 h
  refine (flatT_iff t').2 ⟨?_, ?_, ?_, h1, h2, h3, h4⟩ <;> rw [hd]
  · exact a
  · exact b
  · rw [hp]; exact c
theorem hasT_iff (t : Tab) (h : BitVec 64) : hasT t h = true ↔ flatT t = true ∧ topT h t.depth = t.pre := by rw [hasT, Bool.and_eq_true, beq_iff_eq]
/-- From a slot's byte to its kind. -/
theorem hasT_of {t t' : Tab} {h : BitVec 64} (hh : hasT t h = true) (hf : flatT t' = true) (hd : t'.depth = t.depth) (hp : t'.pre = t.pre) : hasT t' h = true :=
  (hasT_iff t' h).2 ⟨hf, by rw [hd, hp]; exact ((hasT_iff t h).1 hh).2⟩
/-- A slot that is given up. -/
theorem bt_drop (t : Tab) (sl j : Nat) : bt (dropT t sl) j = if j = sl then gone (t.c (sl / 8)) else bt t j := bt_with t _ sl _ rfl j
theorem gone_eq (t : Tab) (g : Nat) : gone (t.c g) = if hasE t g = true then 128#8 else 254#8 := by
  rw [gone, hasE]
  by_cases h : emptyM (t.c g) = 0#8
  · rw [if_pos h, if_neg (by simpa using h)]
  · rw [if_neg h, if_pos (by simpa using h)]
theorem drop_full (t : Tab) (sl j : Nat) : fullJ (dropT t sl) j = if j = sl then false else fullJ t j := by
  rw [fullJ, bt_drop]
  by_cases h : j = sl
  · rw [if_pos h, if_pos h, gone_eq]; split <;> decide
  · rw [if_neg h, if_neg h, fullJ]
theorem drop_fill (t : Tab) (sl j : Nat) : fillJ (dropT t sl) j = if j = sl then !hasE t (sl / 8) else fillJ t j := by
  rw [fillJ, bt_drop]
  by_cases h : j = sl
  · rw [if_pos h, if_pos h, gone_eq]; cases hasE t (sl / 8) <;> decide
  · rw [if_neg h, if_neg h, fillJ]
theorem drop_hasE {t : Tab} {sl : Nat} (hf : fullJ t sl = true) (g : Nat) : hasE (dropT t sl) g = hasE t g := by
  rw [Bool.eq_iff_iff, hasE_iff, hasE_iff]
  constructor
  · rintro ⟨x, hx, hb⟩
    rw [bt_drop] at hb
    by_cases he : 8 * g + x = sl
    · rw [if_pos he, gone_eq] at hb
      have hg : sl / 8 = g := by omega
      rw [hg] at hb
      by_cases hE : hasE t g = true
      · exact (hasE_iff t g).1 hE
      · rw [if_neg hE] at hb; exact absurd hb (by decide)
    · rw [if_neg he] at hb; exact ⟨x, hx, hb⟩
  · rintro ⟨x, hx, hb⟩
    have he : 8 * g + x ≠ sl := by
      intro e
      rw [e] at hb
      have := full_lt hf
      rw [hb] at this; exact absurd this (by decide)
    exact ⟨x, hx, by rw [bt_drop, if_neg he]; exact hb⟩
theorem drop_can {t : Tab} {sl : Nat} (hf : fullJ t sl = true) : (dropT t sl).can = if hasE t (sl / 8) = true then t.can + 1 else t.can := by
  show (if emptyM (goneC t sl) != 0#8 then t.can + 1 else t.can) = _
  have h := drop_hasE hf (sl / 8)
  have e : hasE (dropT t sl) (sl / 8) = (emptyM (goneC t sl) != 0#8) := by
    rw [hasE]; show (emptyM (if sl / 8 = sl / 8 then goneC t sl else t.c (sl / 8)) != 0#8) = _; rw [if_pos rfl]
  rw [← e, h]
theorem drop_nFull {t : Tab} {sl : Nat} (hs : sl < 16) (hf : fullJ t sl = true) : nFull (dropT t sl) + 1 = nFull t := by
  have := countP_upd (fullJ t) (fullJ (dropT t sl)) sl 16 (fun j hj => by rw [drop_full, if_neg hj])
  rw [hf, drop_full, if_pos rfl, if_pos ⟨hs, rfl⟩, if_neg (by simp)] at this
  unfold nFull
  exact this
theorem drop_nFill {t : Tab} {sl : Nat} (hs : sl < 16) (hf : fullJ t sl = true) : nFill (dropT t sl) + (if hasE t (sl / 8) = true then 1 else 0) = nFill t := by
  have := countP_upd (fillJ t) (fillJ (dropT t sl)) sl 16 (fun j hj => by rw [drop_fill, if_neg hj])
  rw [full_fill hf, drop_fill, if_pos rfl, if_pos ⟨hs, rfl⟩] at this
  unfold nFill
  cases hE : hasE t (sl / 8) with
  | true => rw [hE] at this; simp only [Bool.not_true, Bool.false_eq_true, and_false, if_false] at this; rw [if_pos rfl]; omega
  | false => rw [hE] at this; simp only [Bool.not_false, and_true, hs, if_true] at this; rw [if_neg (by decide)]; omega
theorem May.drop {t : Tab} {s : BitVec 64} {sl : Nat} (m : May t s) (hs : sl < 16) (hf : fullJ t sl = true) : May (dropT t sl) s := by
  have h1 := drop_nFull hs hf
  have h2 := drop_nFill hs hf
  have h3 := drop_can hf
  have hcan' : (dropT t sl).can = 14 - (nFill (dropT t sl) : Int) := by
    rw [h3, m.can]
    cases hE : hasE t (sl / 8) with
    | true => rw [hE, if_pos rfl] at h2; rw [if_pos rfl]; omega
    | false => rw [hE, if_neg (by decide)] at h2; rw [if_neg (by decide)]; omega
  have hlive' : (dropT t sl).live = (nFull (dropT t sl) : Int) := by
    show t.live - 1 = _; rw [m.live]; omega
  have hfl : flatT (dropT t sl) = true := by
    obtain ⟨a, b, c, d, e, f, g⟩ := (flatT_iff t).1 m.flat
    have hle := nFull_le (dropT t sl)
    refine flatT_of m.flat (drop_depth ..) (drop_pre ..) ?_ (by rw [hcan']; omega) (by rw [hlive']; omega) ?_
    · rw [h3]; split <;> omega
    · show t.live - 1 ≤ 14; omega
  have hgoes : ∀ x, hasT t x = true → hasT (dropT t sl) x = true := fun x hx => hasT_of hx hfl (drop_depth ..) (drop_pre ..)
  refine ⟨hfl, fun j hj => ?_, fun j hj hfj => ?_, fun i j hi hj hfi hfj hk => ?_, hlive', hcan'⟩
  · rw [bt_drop]
    by_cases e : j = sl
    · rw [if_pos e, gone_eq]; split
      · exact .inr (.inl rfl)
      · exact .inr (.inr rfl)
    · rw [if_neg e]; exact m.ok j hj
  · rw [drop_full] at hfj
    by_cases e : j = sl
    · rw [if_pos e] at hfj; cases hfj
    · rw [if_neg e] at hfj
      obtain ⟨a, b, c⟩ := m.slot j hj hfj
      rw [bt_drop, if_neg e]
      exact ⟨a, hgoes _ b, row_mono (fun i _ h => by rw [← drop_hasE hf]; exact h) c⟩
  · rw [drop_full] at hfi hfj
    by_cases ei : i = sl
    · rw [if_pos ei] at hfi; cases hfi
    · by_cases ej : j = sl
      · rw [if_pos ej] at hfj; cases hfj
      · rw [if_neg ei] at hfi; rw [if_neg ej] at hfj
        exact m.inj i j hi hj hfi hfj hk
/-- Another value. -/
theorem May.set {t : Tab} {s : BitVec 64} (m : May t s) (j : Nat) (v : BitVec 64) : May (setT t j v) s :=
  ⟨m.flat, m.ok, m.slot, m.inj, by have h : nFull (setT t j v) = nFull t := by unfold nFull; rfl
                                   rw [h]; exact m.live, by have h : nFill (setT t j v) = nFill t := by unfold nFill; rfl
                                                            rw [h]; exact m.can⟩
end Go.Proofs.Hc
/- Whole runs as a function, and the table's words: plain. -/
namespace Go.Proofs.Hc
open Go.RowKit
def runF : Nat → List (BitVec 64) → PenT → Nat → Option (List (BitVec 64) × PenT × Nat)
  | 0, _, _, _ => none
  | m + 1, l, p, k => if 13 < p.ph then some (l, p, k) else (needP p).bind fun a => (doP l a).bind fun y => runF m y.1 (takeP p y.2) (k + 1)
theorem runF_runs : ∀ (m : Nat) (l : List (BitVec 64)) (p : PenT) (k : Nat) (r : List (BitVec 64) × PenT × Nat), runF m l p k = some r → ∃ j, r.2.2 = k + j ∧ RunsTo l p j r.1 r.2.1 := by
  intro m
  induction m with
  | zero => intro l p k r h; cases h
  | succ m ih =>
    intro l p k r h
    unfold runF at h
    by_cases h13 : 13 < p.ph
    · rw [if_pos h13] at h
      have h := Option.some.inj h
      subst h
      exact ⟨0, rfl, .done h13⟩
    · rw [if_neg h13] at h
      obtain ⟨a, ha, h⟩ := Option.bind_eq_some_iff.1 h
      obtain ⟨y, hy, h⟩ := Option.bind_eq_some_iff.1 h
      obtain ⟨j, hj, hr⟩ := ih _ _ _ _ h
      exact ⟨j + 1, by omega, .step (by omega) (needP_some ha).1 ha hy hr⟩
/-- One who writes, at first. -/
def firstP (sl op : Int) (k a b h : BitVec 64) : PenT := ⟨0, sl, op, k, a, b, h, 0#64, 0#64, 0#64, 0, 0#64, 0#8, 0, 0#64, 0, 0#64, false⟩
end Go.Proofs.Hc
