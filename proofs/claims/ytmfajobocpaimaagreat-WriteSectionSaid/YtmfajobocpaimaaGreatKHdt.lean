/- One who writes, in cells that hold a table: the whole run. Plain law, no program in sight. -/
import Derived.Test.YtmfajobocpaimaaGreatKHmet
import Derived.Test.YtmfajobocpaimaaGreatKHcs
import Derived.Test.YtmfajobocpaimaaGreatKHdh
import Derived.Test.YtmfajobocpaimaaGreatKHds
import Derived.Test.YtmfajobocpaimaaGreatKHj
import Derived.Test.YtmfajobocpaimaaGreatKHlan
import Derived.Test.YtmfajobocpaimaaGreatKHnl
import Derived.Test.YtmfajobocpaimaaGreatKHpb
import Derived.Test.YtmfajobocpaimaaGreatKHrw
import Derived.Test.YtmfajobocpaimaaGreatKHh
import Derived.Test.YtmfajobocpaimaaGreatKHni
import Derived.Test.YtmfajobocpaimaaGreatKHxh
import Derived.Test.YtmfajobocpaimaaGreatKHxo
import Derived.Below
import Derived.BigQuiet
import Derived.Deep.Draws
import Derived.Deep.Light
import Derived.Deep.OwnRows
import Derived.Deep.QuietTactic
import Derived.Deep.RegionHeld
import Derived.IntWalk
import Derived.Laws.CopyOwn
import Derived.Laws.CopyRow
import Derived.Laws.StructEq
import Derived.Laws.Tables
import Derived.Lib.AppendZerosOnto
import Derived.Lib.Hide
import Derived.Lib.Tables
import Derived.Lib.Walk
import Derived.LoopIn
import Derived.LoopN
import Derived.LoopNIn
import Derived.Maps.AppendAt
import Derived.Maps.Views
import Derived.OwnWalkIn
import Derived.RangeFuncBox
import Derived.RangeFuncCalls
import Derived.RangeFuncRecord
import Derived.RangeFuncSeq
import Derived.Recover
import Derived.RegionTactic
import Derived.ScopeJumps
import Derived.Shelf.Slices.Clone
import Derived.StillTail
import Derived.StillTailTactics
import Derived.TacticsInMore
import Derived.Test.YtmfajobocpaimaaGreatProg
import Derived.WalkKit
import Derived.WalkLawsBesides
import Derived.WalkMore
import Derived.WalkSpells
set_option linter.unusedSimpArgs false
set_option linter.unusedVariables false
namespace Go.Proofs.Hc
open Go.RowKit
def wd1 (t : Tab) : BitVec 64 := BitVec.ofInt 64 t.depth ||| t.pre * 256#64
/-- A table's words. -/
def tword (t : Tab) (i : Nat) : BitVec 64 :=
  if i = 0 then t.count else if i = 1 then wd1 t else if i = 2 then BitVec.ofInt 64 t.can else if i = 3 then BitVec.ofInt 64 t.live
  else if i < 6 then t.c (i - 4) else if i < 22 then t.k (i - 6) else if i < 38 then t.v (i - 22) else 0#64
def twords (t : Tab) : List (BitVec 64) := (List.range 40).map (tword t)
theorem twords_len (t : Tab) : (twords t).length = 40 := by unfold twords; simp
theorem twords_get (t : Tab) (i : Nat) (h : i < 40) : (twords t)[i]? = some (tword t i) := by
  unfold twords
  rw [List.getElem?_map, List.getElem?_range h]
  rfl
theorem tw_c (t : Tab) (g : Nat) (h : g < 2) : tword t (4 + g) = t.c g := by
  unfold tword
  rw [if_neg (by omega), if_neg (by omega), if_neg (by omega), if_neg (by omega), if_pos (by omega), show 4 + g - 4 = g by omega]
theorem tw_k (t : Tab) (j : Nat) (h : j < 16) : tword t (6 + j) = t.k j := by
  unfold tword
  rw [if_neg (by omega), if_neg (by omega), if_neg (by omega), if_neg (by omega), if_neg (by omega), if_pos (by omega), show 6 + j - 6 = j by omega]
theorem tw_v (t : Tab) (j : Nat) (h : j < 16) : tword t (22 + j) = t.v j := by
  unfold tword
  rw [if_neg (by omega), if_neg (by omega), if_neg (by omega), if_neg (by omega), if_neg (by omega), if_neg (by omega), if_pos (by omega), show 22 + j - 22 = j by omega]
theorem tws_count (t : Tab) (x : BitVec 64) (n : Nat) : tword { t with count := x } n = if n = 0 then x else tword t n := by
  unfold tword
  refine ite_congr rfl (fun _ => rfl) (fun h => ?_)
  rw [if_neg h]; rfl
theorem tws_can (t : Tab) (x : Int) (n : Nat) : tword { t with can := x } n = if n = 2 then BitVec.ofInt 64 x else tword t n := by
  unfold tword
  by_cases h : n = 2
  · subst h; rfl
  · rw [if_neg h, if_neg h, if_neg h]; rfl
theorem tws_live (t : Tab) (x : Int) (n : Nat) : tword { t with live := x } n = if n = 3 then BitVec.ofInt 64 x else tword t n := by
  unfold tword
  by_cases h : n = 3
  · subst h; rfl
  · rw [if_neg h, if_neg h, if_neg h]; rfl
theorem tws_c (t : Tab) (j : Nat) (hj : j < 2) (x : BitVec 64) (n : Nat) : tword { t with c := fun i => if i = j then x else t.c i } n = if n = 4 + j then x else tword t n := by
  by_cases h : n = 4 + j
  · subst h
    rw [tw_c _ _ hj, if_pos rfl]
    exact if_pos rfl
  · rw [if_neg h]
    unfold tword
    refine ite_congr rfl (fun _ => rfl) (fun _ => ite_congr rfl (fun _ => rfl) (fun _ => ite_congr rfl (fun _ => rfl) (fun _ => ite_congr rfl (fun _ => rfl) (fun _ => ite_congr rfl (fun _ => ?_) (fun _ => rfl)))))
    exact if_neg (by omega)
theorem tws_k (t : Tab) (j : Nat) (hj : j < 16) (x : BitVec 64) (n : Nat) : tword { t with k := fun i => if i = j then x else t.k i } n = if n = 6 + j then x else tword t n := by
  by_cases h : n = 6 + j
  · subst h
    rw [tw_k _ _ hj, if_pos rfl]
    exact if_pos rfl
  · rw [if_neg h]
    unfold tword
    refine ite_congr rfl (fun _ => rfl) (fun _ => ite_congr rfl (fun _ => rfl) (fun _ => ite_congr rfl (fun _ => rfl) (fun _ => ite_congr rfl (fun _ => rfl) (fun _ => ite_congr rfl (fun _ => rfl) (fun _ => ite_congr rfl (fun _ => ?_) (fun _ => rfl))))))
    exact if_neg (by omega)
theorem tws_v (t : Tab) (j : Nat) (hj : j < 16) (x : BitVec 64) (n : Nat) : tword { t with v := fun i => if i = j then x else t.v i } n = if n = 22 + j then x else tword t n := by
  by_cases h : n = 22 + j
  · subst h
    rw [tw_v _ _ hj, if_pos rfl]
    exact if_pos rfl
  · rw [if_neg h]
    unfold tword
    refine ite_congr rfl (fun _ => rfl) (fun _ => ite_congr rfl (fun _ => rfl) (fun _ => ite_congr rfl (fun _ => rfl) (fun _ => ite_congr rfl (fun _ => rfl) (fun _ => ite_congr rfl (fun _ => rfl) (fun _ => ite_congr rfl (fun _ => rfl) (fun _ => ite_congr rfl (fun _ => ?_) (fun _ => rfl)))))))
    exact if_neg (by omega)
/-- Cells with a table's words at B. -/
def laidW (c : List (BitVec 64)) (B : Nat) (t : Tab) : List (BitVec 64) := c.take B ++ (twords t ++ c.drop (B + 40))
theorem laidW_len {c : List (BitVec 64)} {B : Nat} (t : Tab) (hB : B + 40 ≤ c.length) : (laidW c B t).length = c.length := by
  unfold laidW; simp [twords_len]; omega
theorem laidW_get {c : List (BitVec 64)} {B : Nat} (t : Tab) (hB : B + 40 ≤ c.length) (i : Nat) : (laidW c B t)[i]? = if B ≤ i ∧ i < B + 40 then some (tword t (i - B)) else c[i]? := by
  unfold laidW
  have hl : (c.take B).length = B := by simp; omega
  by_cases h1 : i < B
  · rw [if_neg (by omega), List.getElem?_append_left (by omega), List.getElem?_take, if_pos h1]
  · rw [List.getElem?_append_right (by omega), hl]
    by_cases h2 : i < B + 40
    · rw [if_pos (by omega), List.getElem?_append_left (by rw [twords_len]; omega), twords_get _ _ (by omega)]
    · rw [if_neg (by omega), List.getElem?_append_right (by rw [twords_len]; omega), twords_len, List.getElem?_drop]
      congr 1; omega
theorem laidW_in {c : List (BitVec 64)} {B : Nat} (t : Tab) (hB : B + 40 ≤ c.length) (i : Nat) (h : i < 40) : (laidW c B t)[B + i]? = some (tword t i) := by
  rw [laidW_get t hB, if_pos (by omega), show B + i - B = i by omega]
theorem laidW_at {c : List (BitVec 64)} {B : Nat} (t : Tab) (hB : B + 40 ≤ c.length) : TabAt (laidW c B t) B t where
  cnt := laidW_in t hB 0 (by omega)
  can := laidW_in t hB 2 (by omega)
  live := laidW_in t hB 3 (by omega)
  ctrl := fun g hg => by rw [Nat.add_assoc, laidW_in t hB (4 + g) (by omega), tw_c t g hg]
  key := fun j hj => by rw [Nat.add_assoc, laidW_in t hB (6 + j) (by omega), tw_k t j hj]
  val := fun j hj => by rw [Nat.add_assoc, laidW_in t hB (22 + j) (by omega), tw_v t j hj]
theorem laidW_set {c : List (BitVec 64)} {B : Nat} {t t' : Tab} {i : Nat} {x : BitVec 64} (hB : B + 40 ≤ c.length) (hi : i < 40) (h : ∀ n, tword t' n = if n = i then x else tword t n) : (laidW c B t).set (B + i) x = laidW c B t' := by
  apply List.ext_getElem?
  intro n
  rw [List.getElem?_set, laidW_get t' hB, laidW_get t hB, laidW_len t hB]
  by_cases h1 : B + i = n
  · rw [if_pos h1, if_pos (by omega), if_pos (by omega), h, if_pos (by omega)]
  · rw [if_neg h1]
    by_cases h2 : B ≤ n ∧ n < B + 40
    · rw [if_pos h2, if_pos h2, h, if_neg (by omega)]
    · rw [if_neg h2, if_neg h2]
theorem laidW_set0 {c : List (BitVec 64)} {B : Nat} {t t' : Tab} {x : BitVec 64} (hB : B + 40 ≤ c.length) (h : ∀ n, tword t' n = if n = 0 then x else tword t n) : (laidW c B t).set B x = laidW c B t' := laidW_set (i := 0) hB (by omega) h
theorem laidW_one {c : List (BitVec 64)} {B : Nat} (t : Tab) (y : BitVec 64) (hB : B + 40 ≤ c.length) (h1 : 1 < B) : (laidW c B t).set 1 y = laidW (c.set 1 y) B t := by
  apply List.ext_getElem?
  intro n
  rw [laidW_get (c := c.set 1 y) t (by simpa using hB), List.getElem?_set, laidW_get t hB, laidW_len t hB, List.getElem?_set]
  by_cases h2 : 1 = n
  · rw [if_pos h2, if_pos (by omega), if_neg (by omega)]
    simp [h2.symm]
    try omega
  · rw [if_neg h2, if_neg h2]
theorem ofInt_subT (a b : Int) : BitVec.ofInt 64 (a - b) = BitVec.ofInt 64 a - BitVec.ofInt 64 b := by
  rw [Int.sub_eq_add_neg, BitVec.ofInt_add, BitVec.ofInt_neg, BitVec.sub_eq_add_neg]
theorem freeAt_is {t : Tab} {s k : BitVec 64} {y : Nat × Nat} (h : freeAt t (rowT t s k) = some y) : y.1 < 2 ∧ y.2 < 8 ∧ (freeM (t.c y.1)).getLsbD y.2 = true := by
  rw [freeAt] at h
  obtain ⟨g, hg, hgy⟩ := findSome_mem _ _ _ h
  rw [freeIn_eq] at hgy
  obtain ⟨x, hx, rfl⟩ := Option.map_eq_some_iff.1 hgy
  have hm := (mem_lanes _ _).1 (List.mem_of_head? hx)
  exact ⟨row_bound t s k g hg, hm.1, hm.2⟩
theorem and_laneB (m : BitVec 8) (x : Nat) (hx : x < 8) : (m &&& laneM x != 0#8) = m.getLsbD x := by
  have := and_lane m x hx
  cases h : m.getLsbD x with
  | false => rw [this.2 h]; decide
  | true => rw [bne_iff_ne]; intro e; rw [this.1 e] at h; cases h
/-- What a run in cells that hold a table comes to. -/
def RunIs (c : List (BitVec 64)) (B : Nat) (t : Tab) (s : BitVec 64) (x : BitVec 64) (op : Int) (key a b : BitVec 64) (l' : List (BitVec 64)) (p' : PenT) : Prop :=
  (∃ j n, foundE t s key = .ok (j, n) ∧ j < 16 ∧ p'.op = op ∧ p'.a = a ∧ p'.found = true ∧ p'.val = t.v j ∧ p'.ph = 14 ∧
    if op = 2 ∨ op = 4 ∧ t.v j = a then l' = laidW c B { setT t j (if op = 4 then b else a) with count := t.count + 2#64 }
    else if op = 3 then l' = laidW (c.set 1 (x - 1#64)) B { dropT t j with count := t.count + 2#64 }
    else l' = laidW c B t) ∨
  (foundE t s key = .error 4 ∧ hasKT t key = false ∧ p'.op = op ∧ p'.a = a ∧ p'.found = false ∧
    if op = 2 ∨ op = 5 then (match placeT t s key with
      | .ok sl => p'.ph = 14 ∧ l' = laidW (c.set 1 (x + 1#64)) B { fillT t s key a sl with count := t.count + 2#64 }
      | .error e => e = 6 ∧ p'.ph = 16 ∧ l' = laidW c B t)
    else p'.ph = 14 ∧ l' = laidW c B t)
theorem wants_foundT {p : PenT} (h : p.found = true) : wantsP p = if p.op == 2 || p.op == 4 && p.val == p.a then 2 else if p.op == 3 then 3 else 0 := by unfold wantsP; rw [h, if_pos rfl]
theorem wants_notT {p : PenT} (h : p.found = false) : wantsP p = if p.op == 2 || p.op == 5 then 1 else 0 := by unfold wantsP; rw [h, if_neg (by decide)]
theorem decided_0 {p : PenT} (h : wantsP p = 0) : decidedP p = { p with ph := 14 } := by unfold decidedP; rw [if_pos h]
theorem decided_2 {p : PenT} (h : wantsP p = 2) : decidedP p = { p with ph := 6 } := by unfold decidedP; rw [if_neg (by omega), if_pos h]
theorem decided_3 {p : PenT} (h : wantsP p = 3) : decidedP p = { p with ph := 4 } := by unfold decidedP; rw [if_neg (by omega), if_neg (by omega), if_neg (by omega)]
theorem decided_1 {p : PenT} (h : wantsP p = 1) : decidedP p = { p with ph := if p.free = 0 then 16 else 4 } := by
  unfold decidedP
  rw [if_neg (by omega), if_neg (by omega)]
  by_cases hf : p.free = 0
  · rw [if_pos ⟨h, hf⟩, if_pos hf]
  · rw [if_neg (fun e => hf e.2), if_neg hf]
theorem run_found {c l' : List (BitVec 64)} {B k j n : Nat} {t : Tab} {s x : BitVec 64} {p1 p' q : PenT} (m : May t s) (hB : B + 40 ≤ c.length) (h1B : 1 < B) (hx : c[1]? = some x) (hs : 0 ≤ q.sl) (hBe : B = (16 + 40 * q.sl).toNat) (hcnt : q.count = t.count)
    (hj : j < 16) (hf : fullJ t j = true) (hfo : foundE t s q.key = .ok (j, n)) (H : HitP p1 q t j) (h : RunsTo (laidW c B t) (decidedP p1) k l' p') : RunIs c B t s x q.op q.key q.a q.b l' p' := by
  have hT := laidW_at (c := c) t hB
  obtain ⟨A, hfd, hv, hsl, hct⟩ := H
  have hw := wants_foundT hfd
  rw [A.op, A.a, hv] at hw
  have hs1 : 0 ≤ p1.sl := by rw [A.sl]; exact hs
  have hB1 : B = (16 + 40 * p1.sl).toNat := by rw [A.sl]; exact hBe
  have hx1 : (laidW c B t)[1]? = some x := by rw [laidW_get t hB, if_neg (by omega)]; exact hx
  refine .inl ⟨j, n, hfo, hj, ?_⟩
  by_cases h2 : q.op = 2 ∨ q.op = 4 ∧ t.v j = q.a
  · rw [if_pos (by simpa using h2)] at hw
    rw [decided_2 hw] at h
    obtain ⟨el, ep⟩ := sec_set hs1 hB1 hw hsl h
    subst ep
    refine ⟨A.op, A.a, hfd, hv, rfl, ?_⟩
    rw [if_pos h2, el, A.op, A.b, A.a, A.count, hcnt, laidW_set0 hB (tws_count t _), laidW_set hB (by omega) (tws_v _ j hj _), laidW_set0 hB (tws_count _ _)]
    rfl
  · rw [if_neg (by simpa using h2)] at hw
    by_cases h3 : q.op = 3
    · rw [if_pos (by simpa using h3)] at hw
      rw [decided_3 hw] at h
      rcases sec_can hT hs1 hB1 h with ⟨hb, _⟩ | ⟨_, k1, hr⟩
      · rw [hw] at hb; cases hb
      · obtain ⟨el, ep⟩ := sec_drop (q := { p1 with can := BitVec.ofInt 64 t.can, live := BitVec.ofInt 64 t.live }) hs1 hB1 hw hsl hx1 hr
        subst ep
        refine ⟨A.op, A.a, hfd, hv, rfl, ?_⟩
        rw [if_neg h2, if_pos h3, el]
        have hmk : markP { p1 with can := BitVec.ofInt 64 t.can, live := BitVec.ofInt 64 t.live } = goneC t j := by
          have hsp : slotP { p1 with can := BitVec.ofInt 64 t.can, live := BitVec.ofInt 64 t.live } = (j : Int) := by
            show (if wantsP p1 == 1 then p1.free - 1 else p1.slot) = _
            rw [hw, if_neg (by decide)]; exact hsl
          unfold markP
          rw [show wantsP { p1 with can := BitVec.ofInt 64 t.can, live := BitVec.ofInt 64 t.live } = 3 from hw, if_neg (by decide), hsp]
          show withB p1.ctrl ((j : Int).toNat % 8) (if emptyM p1.ctrl != 0#8 then 128#8 else 254#8) = _
          rw [hct]
          unfold goneC
          rw [gone_eq]
          rfl
        have hc1 : (if emptyM p1.ctrl != 0#8 then BitVec.ofInt 64 t.can + 1#64 else BitVec.ofInt 64 t.can) = BitVec.ofInt 64 (dropT t j).can := by
          rw [drop_can hf, hct]
          show (if hasE t (j / 8) = true then _ else _) = _
          split
          · rw [BitVec.ofInt_add]; rfl
          · rfl
        have hl1 : BitVec.ofInt 64 t.live - 1#64 = BitVec.ofInt 64 (t.live - 1) := by rw [ofInt_subT]; rfl
        rw [hmk]
        show ((((((laidW c B t).set B (p1.count + 1#64)).set (B + (4 + j / 8)) (goneC t j)).set (B + 2) (if emptyM p1.ctrl != 0#8 then BitVec.ofInt 64 t.can + 1#64 else BitVec.ofInt 64 t.can)).set (B + 3) (BitVec.ofInt 64 t.live - 1#64)).set 1 (x - 1#64)).set B (p1.count + 2#64) = _
        rw [hc1, hl1, A.count, hcnt, laidW_set0 hB (tws_count t _), laidW_set hB (by omega) (tws_c _ (j / 8) (by omega) _), laidW_set hB (by omega) (tws_can _ _), laidW_set hB (by omega) (tws_live _ _), laidW_one _ _ hB h1B, laidW_set0 (by simpa using hB) (tws_count _ _)]
        rfl
    · rw [if_neg (by simpa using h3)] at hw
      rw [decided_0 hw] at h
      obtain ⟨el, ep, _⟩ := h.over (by show (13 : Int) < 14; omega)
      subst ep
      refine ⟨A.op, A.a, hfd, hv, rfl, ?_⟩
      rw [if_neg h2, if_neg h3]
      exact el
theorem run_not {c l' : List (BitVec 64)} {B k : Nat} {t : Tab} {s x : BitVec 64} {p1 p' q : PenT} (m : May t s) (hgo : hasT t (hashOf s q.key) = true) (hB : B + 40 ≤ c.length) (h1B : 1 < B) (hx : c[1]? = some x) (hs : 0 ≤ q.sl) (hBe : B = (16 + 40 * q.sl).toNat) (hcnt : q.count = t.count)
    (hh : q.hash = hashOf s q.key) (hfo : foundE t s q.key = .error 4) (hnk : hasKT t q.key = false) (A : Alike p1 q) (hfd : p1.found = false) (hF : FreeIs p1 t (freeAt t (rowT t s q.key))) (h : RunsTo (laidW c B t) (decidedP p1) k l' p') : RunIs c B t s x q.op q.key q.a q.b l' p' := by
  have hT := laidW_at (c := c) t hB
  have hw := wants_notT hfd
  rw [A.op] at hw
  have hs1 : 0 ≤ p1.sl := by rw [A.sl]; exact hs
  have hB1 : B = (16 + 40 * p1.sl).toNat := by rw [A.sl]; exact hBe
  have hx1 : (laidW c B t)[1]? = some x := by rw [laidW_get t hB, if_neg (by omega)]; exact hx
  refine .inr ⟨hfo, hnk, ?_⟩
  by_cases h2 : q.op = 2 ∨ q.op = 5
  · rw [if_pos (by simpa using h2)] at hw
    rw [decided_1 hw] at h
    rw [if_pos h2]
    have hmem := fun y (hy : freeAt t (rowT t s q.key) = some y) => freeAt_is hy
    obtain ⟨o, ho⟩ : ∃ o, freeAt t (rowT t s q.key) = o := ⟨_, rfl⟩
    rw [ho] at hF hmem
    cases o with
    | none =>
      have hpl : placeT t s q.key = .error 6 := by rw [placeT, if_pos hgo, if_neg (by rw [hnk]; decide), ho]
      rw [hpl]
      rw [if_pos (show p1.free = 0 from hF)] at h
      obtain ⟨el, ep, _⟩ := h.over (by show (13 : Int) < 16; omega)
      subst ep
      exact ⟨A.op, A.a, hfd, rfl, rfl, el⟩
    | some y =>
      obtain ⟨g, z⟩ := y
      obtain ⟨hg, hz, hbit⟩ := hmem _ rfl
      have hpl : placeT t s q.key = if (delM (t.c g) &&& laneM z != 0#8) || decide (0 < t.can) then .ok (8 * g + z) else .error 6 := by rw [placeT, if_pos hgo, if_neg (by rw [hnk]; decide), ho]
      rw [hpl]
      obtain ⟨hfr, hfc⟩ := hF
      dsimp only at hfr hfc hg hz hbit
      rw [if_neg (by omega)] at h
      have hfree := (free_iff t g z hz).1 hbit
      have hwas : wasP p1 = (bt t (8 * g + z) == 128#8) := by
        unfold wasP
        rw [hfc, hfr, show (((8 * g + z + 1 : Nat) : Int) - 1).toNat % 8 = z by omega, emptyM_bit _ z hz, bt_at t g z hz]
      have hdel : (delM (t.c g) &&& laneM z != 0#8) = (bt t (8 * g + z) == 254#8) := by
        rw [and_laneB _ z hz, delM_bit _ z hz, bt_at t g z hz]
      have hcan := (flatT_iff t).1 m.flat
      have hc0 : (BitVec.ofInt 64 t.can == 0#64) = !decide (0 < t.can) := by
        obtain ⟨_, _, _, hc, hc14, _⟩ := hcan
        rw [Bool.eq_iff_iff]
        simp only [beq_iff_eq, Bool.not_eq_true', decide_eq_false_iff_not]
        constructor
        · intro e
          have := congrArg BitVec.toInt e
          rw [BitVec.toInt_ofInt] at this
          have e2 : t.can.bmod (2 ^ 64) = t.can := by rw [Int.bmod_def]; omega
          rw [e2] at this
          have : t.can = 0 := this
          omega
        · intro e
          have : t.can = 0 := by omega
          rw [this]; rfl
      rcases sec_can hT hs1 hB1 h with ⟨hb, el, ep⟩ | ⟨hb, k1, hr⟩
      · rw [hw, hwas, hc0] at hb
        subst ep
        have hb : (bt t (8 * g + z) == 128#8) = true ∧ decide (0 < t.can) = false := by simpa using hb
        rw [hdel, hb.2, show bt t (8 * g + z) = 128#8 by simpa using hb.1]
        exact ⟨A.op, A.a, hfd, rfl, rfl, el⟩
      · rw [hw, hwas, hc0] at hb
        have hok : ((bt t (8 * g + z) == 254#8) || decide (0 < t.can)) = true := by
          rcases hfree with e | e
          · rw [e] at hb ⊢
            simpa using hb
          · rw [e]; rfl
        rw [hdel, hok, if_pos rfl]
        obtain ⟨el, ep⟩ := sec_put (j := 8 * g + z) (q := { p1 with can := BitVec.ofInt 64 t.can, live := BitVec.ofInt 64 t.live }) hs1 hB1 hw (by show p1.free = _; omega) hx1 hr
        subst ep
        refine ⟨A.op, A.a, hfd, rfl, ?_⟩
        rw [el]
        have hmk : markP { p1 with can := BitVec.ofInt 64 t.can, live := BitVec.ofInt 64 t.live } = withB (t.c ((8 * g + z) / 8)) ((8 * g + z) % 8) (hash2 (hashOf s q.key)) := by
          have hsp : slotP { p1 with can := BitVec.ofInt 64 t.can, live := BitVec.ofInt 64 t.live } = ((8 * g + z : Nat) : Int) := by
            show (if wantsP p1 == 1 then p1.free - 1 else p1.slot) = _
            rw [hw, if_pos (by decide)]; omega
          unfold markP
          rw [show wantsP { p1 with can := BitVec.ofInt 64 t.can, live := BitVec.ofInt 64 t.live } = 1 from hw, if_pos (by decide), hsp]
          show withB p1.fctrl (((8 * g + z : Nat) : Int).toNat % 8) (hash2 p1.hash) = _
          rw [hfc, A.hash, hh, show (8 * g + z) / 8 = g by omega]
          rfl
        have hc1 : (if wasP { p1 with can := BitVec.ofInt 64 t.can, live := BitVec.ofInt 64 t.live } then BitVec.ofInt 64 t.can - 1#64 else BitVec.ofInt 64 t.can) = BitVec.ofInt 64 (fillT t s q.key q.a (8 * g + z)).can := by
          rw [fill_can]
          show (if wasP p1 = true then _ else _) = _
          rw [hwas]
          by_cases e : bt t (8 * g + z) = 128#8
          · rw [if_pos (by simpa using e), if_pos e, ofInt_subT]; rfl
          · rw [if_neg (by simpa using e), if_neg e]
        have hl1 : BitVec.ofInt 64 t.live + 1#64 = BitVec.ofInt 64 (t.live + 1) := by rw [BitVec.ofInt_add]; rfl
        have hval : (if p1.op = 4 then p1.b else p1.a) = q.a := by rw [A.op, A.a, if_neg (by omega)]
        rw [hmk, hc1]
        show ((((((((laidW c B t).set B (p1.count + 1#64)).set (B + (6 + (8 * g + z))) p1.key).set (B + (22 + (8 * g + z))) (if p1.op = 4 then p1.b else p1.a)).set (B + (4 + (8 * g + z) / 8)) _).set (B + 2) _).set (B + 3) (BitVec.ofInt 64 t.live + 1#64)).set 1 (x + 1#64)).set B (p1.count + 2#64) = _
        rw [hval, hl1, A.count, A.key, hcnt, laidW_set0 hB (tws_count t _), laidW_set hB (by omega) (tws_k _ (8 * g + z) (by omega) _), laidW_set hB (by omega) (tws_v _ (8 * g + z) (by omega) _), laidW_set hB (by omega) (tws_c _ ((8 * g + z) / 8) (by omega) _), laidW_set hB (by omega) (tws_can _ _), laidW_set hB (by omega) (tws_live _ _), laidW_one _ _ hB h1B, laidW_set0 (by simpa using hB) (tws_count _ _)]
        rfl
  · rw [if_neg (by simpa using h2)] at hw
    rw [decided_0 hw] at h
    obtain ⟨el, ep, _⟩ := h.over (by show (13 : Int) < 14; omega)
    subst ep
    refine ⟨A.op, A.a, hfd, ?_⟩
    rw [if_neg h2]
    exact ⟨rfl, el⟩
theorem RunsTo.right {l l' : List (BitVec 64)} {p p' : PenT} {k : Nat} (h : RunsTo l p k l' p') : rightP p = true → rightP p' = true := by
  induction h with
  | done _ => exact id
  | step h13 hr _ _ _ ih => exact fun _ => ih ((rightP_iff _).2 (((rightP_iff _).1 hr).take h13 _))
/-- A whole run in cells that hold a table that may be: what it comes to. -/
theorem table_run {c l' : List (BitVec 64)} {B k : Nat} {t : Tab} {s x : BitVec 64} {sl op : Int} {key a b : BitVec 64} {p' : PenT} (m : May t s) (hgo : hasT t (hashOf s key) = true) (hB : B + 40 ≤ c.length) (h1B : 1 < B) (hx : c[1]? = some x) (hs : 0 ≤ sl)
    (hBe : B = (16 + 40 * sl).toNat) (hev : oddB t.count = false) (h : RunsTo (laidW c B t) (firstP sl op key a b (hashOf s key)) k l' p') : RunIs c B t s x op key a b l' p' := by
  have hT := laidW_at (c := c) t hB
  obtain ⟨f, hf⟩ : ∃ f, firstP sl op key a b (hashOf s key) = f := ⟨_, rfl⟩
  have hfs : f.sl = sl := by rw [← hf]; rfl
  have hfo : f.op = op := by rw [← hf]; rfl
  have hfk : f.key = key := by rw [← hf]; rfl
  have hfa : f.a = a := by rw [← hf]; rfl
  have hfb : f.b = b := by rw [← hf]; rfl
  have hfh : f.hash = hashOf s key := by rw [← hf]; rfl
  have hfp : f.ph = 0 := by rw [← hf]; rfl
  have hff : f.free = 0 := by rw [← hf]; rfl
  have hfd : f.found = false := by rw [← hf]; rfl
  rw [hf] at h
  clear hf
  have hw : wordP f = 0 := by unfold wordP; rw [if_pos (.inl hfp)]
  obtain ⟨k1, _, h1⟩ := h.load (by omega) (by omega) (w := t.count) (by rw [hw, ← hT.cnt]; congr 1; rw [hfs]; omega)
  have ht : takeP f t.count = { f with count := t.count, grp := 0, ph := 1 } := by
    unfold takeP
    rw [if_pos hfp, hev, if_neg (by decide)]
  rw [ht] at h1
  obtain ⟨q, hq⟩ : ∃ q : PenT, q = { f with count := t.count, grp := 0, ph := 1 } := ⟨_, rfl⟩
  rw [← hq] at h1
  have hqs : q.sl = sl := by rw [hq]; exact hfs
  have hqo : q.op = op := by rw [hq]; exact hfo
  have hqk : q.key = key := by rw [hq]; exact hfk
  have hqa : q.a = a := by rw [hq]; exact hfa
  have hqb : q.b = b := by rw [hq]; exact hfb
  have hqh : q.hash = hashOf s q.key := by rw [hqk, hq]; exact hfh
  have hqp : q.ph = 1 := by rw [hq]
  have hqg : q.grp = 0 := by rw [hq]
  have hqf : q.free = 0 := by rw [hq]; exact hff
  have hqd : q.found = false := by rw [hq]; exact hfd
  have hqc : q.count = t.count := by rw [hq]
  clear hq ht h
  rw [← hqk] at hgo
  rcases find_run hT hqp hqg hqf hqd (by omega) (by rw [hqs]; exact hBe) hqh h1 with ⟨j, p1, k2, hj, hb, hk, hr, H⟩ | ⟨hno, p1, k2, hr, A, hd, hF⟩
  · rw [hqh] at hb
    obtain ⟨n, hn⟩ := found_of m hj (full_of_h2 hb) hk
    have := run_found m hB h1B hx (by omega) (by rw [hqs]; exact hBe) hqc hj (full_of_h2 hb) hn H hr
    rw [hqo, hqk, hqa, hqb] at this
    exact this
  · have hnone : ∀ j, j < 16 → fullJ t j = true → t.k j ≠ q.key := by
      intro j hj hf hk
      obtain ⟨hb, _, hrow⟩ := m.slot j hj hf
      rw [hk] at hb hrow
      have e : 8 * (j / 8) + j % 8 = j := by omega
      have := hno (j / 8) (j % 8) hrow (by omega) (by rw [e, hqh]; exact hb)
      rw [e] at this
      exact this hk
    have hkt : hasKT t q.key = false := by
      cases hb : hasKT t q.key with
      | false => rfl
      | true =>
        obtain ⟨j, hj, hf, hk⟩ := (hasKT_iff t q.key).1 hb
        exact absurd hk (hnone j hj hf)
    have := run_not m hgo hB h1B hx (by omega) (by rw [hqs]; exact hBe) hqc hqh (found_none hnone) hkt A hd hF hr
    rw [hqo, hqk, hqa, hqb] at this
    exact this
end Go.Proofs.Hc
