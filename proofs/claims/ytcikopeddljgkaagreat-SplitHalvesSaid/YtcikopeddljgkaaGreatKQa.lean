/- Layer 19, who writes: the model. Plain law, no program in sight. -/
import Derived.Test.YtcikopeddljgkaaGreatKHpb
set_option linter.unusedSimpArgs false
set_option linter.unusedVariables false
namespace Go.Proofs.Hc
open Go.RowKit
structure PenT where
  ph : Int
  sl : Int
  op : Int
  key : BitVec 64
  a : BitVec 64
  b : BitVec 64
  hash : BitVec 64
  count : BitVec 64
  can : BitVec 64
  live : BitVec 64
  grp : Int
  ctrl : BitVec 64
  left : BitVec 8
  free : Int
  fctrl : BitVec 64
  slot : Int
  val : BitVec 64
  found : Bool
def penC (p : PenT) : Array Value := #[I p.ph, I p.sl, I p.op, U p.key, U p.a, U p.b, U p.hash, U p.count, U p.can, U p.live, I p.grp, U p.ctrl, Y p.left, I p.free, U p.fctrl, I p.slot, U p.val, .bool p.found]
theorem penC_size (p : PenT) : (penC p).size = 18 := rfl
theorem penC_one (p : PenT) : allOne (penC p) = true := by unfold allOne penC; simp [Value.oneCell']
theorem penC_all (p : PenT) : (penC p).extract 0 18 = penC p := by have := Array.extract_size (xs := penC p); rwa [penC_size] at this
def oddB (x : BitVec 64) : Bool := (x &&& 1#64) == 1#64
structure AccT where
  kind : Int
  at_ : Int
  new : BitVec 64
def doP (c : List (BitVec 64)) (x : AccT) : Option (List (BitVec 64) × BitVec 64) :=
  match c[x.at_.toNat]? with
  | none => none
  | some w => some (if x.kind = 1 then c else if x.kind = 2 then c.set x.at_.toNat x.new else c.set x.at_.toNat (w + x.new), w)
end Go.Proofs.Hc
namespace Go.Proofs.Hc
open Go.RowKit
structure PartT where
  ph : Int
  who : Int
  sl : Int
  t0 : Int
  t1 : Int
  seed : BitVec 64
  count : BitVec 64
  head : BitVec 64
  c : Nat → BitVec 64
  k : Nat → BitVec 64
  v : Nat → BitVec 64
  at_ : Int
  ws : Nat → BitVec 64
def zeroPart : PartT := ⟨0, 0, 0, 0, 0, 0#64, 0#64, 0#64, fun _ => 0#64, fun _ => 0#64, fun _ => 0#64, 0, fun _ => 0#64⟩
def inSlab (x : Int) : Bool := decide (0 ≤ x) && decide (x < 128)
def slabsS (a b c : Int) : Bool := (inSlab a && inSlab b && inSlab c) && (!(a == b) && !(a == c) && !(b == c))
def mostS (ph : Int) : Option Int := if ph = 2 then some 2 else if ph = 3 ∨ ph = 4 then some 16 else if ph = 6 then some 80 else none
def atS (p : PartT) : Bool := match mostS p.ph with
  | some n => decide (0 ≤ p.at_) && decide (p.at_ < n)
  | none => true
def rightS (p : PartT) : Bool := (decide (0 ≤ p.ph) && decide (p.ph ≤ 9)) && (decide (0 ≤ p.who) && decide (p.who < 8)) && slabsS p.sl p.t0 p.t1 && !oddB p.count && atS p
structure RightS (p : PartT) : Prop where
  ph0 : 0 ≤ p.ph
  ph9 : p.ph ≤ 9
  who0 : 0 ≤ p.who
  who7 : p.who < 8
  sl0 : 0 ≤ p.sl
  sl1 : p.sl < 128
  a0 : 0 ≤ p.t0
  a1 : p.t0 < 128
  b0 : 0 ≤ p.t1
  b1 : p.t1 < 128
  sa : p.sl ≠ p.t0
  sb : p.sl ≠ p.t1
  ab : p.t0 ≠ p.t1
  even : oddB p.count = false
  at2 : p.ph = 2 → 0 ≤ p.at_ ∧ p.at_ < 2
  at3 : p.ph = 3 ∨ p.ph = 4 → 0 ≤ p.at_ ∧ p.at_ < 16
  at6 : p.ph = 6 → 0 ≤ p.at_ ∧ p.at_ < 80
theorem slabsS_iff (a b c : Int) : slabsS a b c = true ↔ (0 ≤ a ∧ a < 128) ∧ (0 ≤ b ∧ b < 128) ∧ (0 ≤ c ∧ c < 128) ∧ a ≠ b ∧ a ≠ c ∧ b ≠ c := by
  unfold slabsS inSlab
  simp only [Bool.and_eq_true, decide_eq_true_eq, Bool.not_eq_true', beq_eq_false_iff_ne]
  constructor
  · rintro ⟨⟨⟨h1, h2⟩, h3⟩, ⟨h4, h5⟩, h6⟩; exact ⟨h1, h2, h3, h4, h5, h6⟩
  · rintro ⟨h1, h2, h3, h4, h5, h6⟩; exact ⟨⟨⟨h1, h2⟩, h3⟩, ⟨h4, h5⟩, h6⟩
theorem atS_iff (p : PartT) : atS p = true ↔ (p.ph = 2 → 0 ≤ p.at_ ∧ p.at_ < 2) ∧ (p.ph = 3 ∨ p.ph = 4 → 0 ≤ p.at_ ∧ p.at_ < 16) ∧ (p.ph = 6 → 0 ≤ p.at_ ∧ p.at_ < 80) := by
  unfold atS mostS
  by_cases h2 : p.ph = 2
  · rw [if_pos h2]
    simp only [Bool.and_eq_true, decide_eq_true_eq]
    exact ⟨fun h => ⟨fun _ => h, fun h' => by omega, fun h' => by omega⟩, fun h => h.1 h2⟩
  · rw [if_neg h2]
    by_cases h3 : p.ph = 3 ∨ p.ph = 4
    · rw [if_pos h3]
      simp only [Bool.and_eq_true, decide_eq_true_eq]
      exact ⟨fun h => ⟨fun h' => absurd h' h2, fun _ => h, fun h' => by omega⟩, fun h => h.2.1 h3⟩
    · rw [if_neg h3]
      by_cases h6 : p.ph = 6
      · rw [if_pos h6]
        simp only [Bool.and_eq_true, decide_eq_true_eq]
        exact ⟨fun h => ⟨fun h' => absurd h' h2, fun h' => absurd h' h3, fun _ => h⟩, fun h => h.2.2 h6⟩
      · rw [if_neg h6]
        exact ⟨fun _ => ⟨fun h' => absurd h' h2, fun h' => absurd h' h3, fun h' => absurd h' h6⟩, fun _ => rfl⟩
theorem rightS_iff (p : PartT) : rightS p = true ↔ RightS p := by
  unfold rightS
  rw [Bool.and_eq_true, Bool.and_eq_true, Bool.and_eq_true, Bool.and_eq_true, slabsS_iff, atS_iff]
  simp only [Bool.and_eq_true, decide_eq_true_eq, Bool.not_eq_true']
  constructor
  · rintro ⟨⟨⟨⟨h1, h2⟩, h3, h4, h5, h6, h7, h8⟩, h9⟩, h10, h11, h12⟩
    exact ⟨h1.1, h1.2, h2.1, h2.2, h3.1, h3.2, h4.1, h4.2, h5.1, h5.2, h6, h7, h8, h9, h10, h11, h12⟩
  · intro h
    exact ⟨⟨⟨⟨⟨h.ph0, h.ph9⟩, h.who0, h.who7⟩, ⟨h.sl0, h.sl1⟩, ⟨h.a0, h.a1⟩, ⟨h.b0, h.b1⟩, h.sa, h.sb, h.ab⟩, h.even⟩, h.at2, h.at3, h.at6⟩
def whereS (p : PartT) : Int :=
  if p.ph = 1 then 17 + 40 * p.sl else if p.ph = 2 then 20 + 40 * p.sl + p.at_ else if p.ph = 3 then 22 + 40 * p.sl + p.at_ else if p.ph = 4 then 38 + 40 * p.sl + p.at_
  else if p.ph = 6 then 16 + 40 * (if p.at_ < 40 then p.t0 else p.t1) + p.at_ % 40 else 16 + 40 * p.sl
def needS (p : PartT) : Option AccT :=
  if rightS p && decide (p.ph ≤ 6) then some ⟨if p.ph = 5 ∨ p.ph = 6 then 2 else 1, whereS p, if p.ph = 5 then p.count + 1#64 else if p.ph = 6 then p.ws p.at_.toNat else 0#64⟩ else none
def gotS (p : PartT) : Tab := ⟨0#64, 0, 0#64, 0, 0, p.c, p.k, p.v⟩
def deepS (p : PartT) : Int := ((p.head &&& 255#64).toNat : Int)
def preS (p : PartT) : BitVec 64 := p.head >>> 8
def firstS (p : PartT) (h : BitVec 64) : Bool := hasT (bareT 0#64 (deepS p + 1) (2#64 * preS p)) h
def halfS (p : PartT) (i : Nat) : Except Int Tab :=
  match newE (deepS p + 1) (2#64 * preS p + BitVec.ofNat 64 i) with
  | .error e => .error e
  | .ok t => laidT p.seed t ((pairsT (gotS p)).filter fun x => firstS p (hashOf p.seed x.1) == (i == 0))
def halvesS (p : PartT) : Option (Nat → BitVec 64) :=
  match halfS p 0, halfS p 1 with
  | .ok a, .ok b => some fun i => if i < 40 then tword a i else tword b (i - 40)
  | _, _ => none
def nextS (p : PartT) (from_ : Nat) : Option Nat := (List.range 16).find? fun j => decide (from_ ≤ j) && fullJ (gotS p) j
def onS (p : PartT) (from_ : Nat) : PartT :=
  match nextS p from_ with
  | some j => { p with at_ := (j : Int), ph := 3 }
  | none => match halvesS p with
    | some ws => { p with ws := ws, ph := 5 }
    | none => { p with ph := 9 }
def headS (p : PartT) (w : BitVec 64) : PartT :=
  if decide (5 ≤ (w &&& 255#64).toNat) || ((w >>> 8) >>> (w &&& 255#64).toNat != 0#64) then { p with head := w, at_ := 0, ph := 9 } else { p with head := w, at_ := 0, ph := 2 }
def takeS (p : PartT) (w : BitVec 64) : PartT :=
  if p.ph = 0 then (if oddB w then { p with ph := 8 } else { p with ph := 1, count := w })
  else if p.ph = 1 then headS p w
  else if p.ph = 2 then (if p.at_ = 1 then onS { p with c := updW p.c 1 w, at_ := 2 } 0 else { p with c := updW p.c 0 w, at_ := 1 })
  else if p.ph = 3 then { p with k := updW p.k p.at_.toNat w, ph := 4 }
  else if p.ph = 4 then onS { p with v := updW p.v p.at_.toNat w } (p.at_.toNat + 1)
  else if p.ph = 5 then { p with at_ := 0, ph := 6 }
  else { p with at_ := p.at_ + 1, ph := if p.at_ = 79 then 7 else 6 }
def manyS (p : PartT) : Int := if rightS p then (if p.ph = 5 then 81 else if p.ph = 6 then 80 - p.at_ else 0) else 0
end Go.Proofs.Hc
namespace Go.Proofs.Hc
open Go.RowKit
attribute [local go_sem] zbr zcd zat zaz zbn zax zbm zbo zbw signed64 signed8 zar BitVec.ofInt_add BitVec.ofInt_mul ofInt_sub' zav zaw wide8 eqN neN zcc shr1 shr7 shr56
attribute [local go_sem high] zay zbv
attribute [local go_sem] zau zbx zai zal zac zbd zan zah zbk zaj zbc zbe
attribute [local go_sem] load26 load73 load23 store26 build73
attribute [local go_sem ↓] lrow26 lrow73 lrow23 srow26 zero26 brow73 zab zba zbb zaa zae
attribute [local go_sem] zag zap zaf zbf zbi zbp zam zaq zbq zbh zbg
attribute [local go_sem] nn2 nm2 nn3 nm3 nn4 nm4 nn5 nm5 nn6 nm6 nn7 nm7 nn8 nm8
section
attribute [local go_sem] zar
theorem N_two : N 2#64 = 2 := rfl
attribute [local go_sem] N_two
def grp (g j : Nat) : List Nat := (List.range j).map fun i => (g + i) % 2
end
section
attribute [local go_sem] zar
theorem pen_g0 (p : PenT) : (penC p)[0]? = some (I p.ph) := rfl
theorem pen_g1 (p : PenT) : (penC p)[1]? = some (I p.sl) := rfl
theorem pen_g2 (p : PenT) : (penC p)[2]? = some (I p.op) := rfl
theorem pen_g3 (p : PenT) : (penC p)[3]? = some (U p.key) := rfl
theorem pen_g4 (p : PenT) : (penC p)[4]? = some (U p.a) := rfl
theorem pen_g5 (p : PenT) : (penC p)[5]? = some (U p.b) := rfl
theorem pen_g6 (p : PenT) : (penC p)[6]? = some (U p.hash) := rfl
theorem pen_g7 (p : PenT) : (penC p)[7]? = some (U p.count) := rfl
theorem pen_g8 (p : PenT) : (penC p)[8]? = some (U p.can) := rfl
theorem pen_g9 (p : PenT) : (penC p)[9]? = some (U p.live) := rfl
theorem pen_g10 (p : PenT) : (penC p)[10]? = some (I p.grp) := rfl
theorem pen_g11 (p : PenT) : (penC p)[11]? = some (U p.ctrl) := rfl
theorem pen_g12 (p : PenT) : (penC p)[12]? = some (Y p.left) := rfl
theorem pen_g13 (p : PenT) : (penC p)[13]? = some (I p.free) := rfl
theorem pen_g14 (p : PenT) : (penC p)[14]? = some (U p.fctrl) := rfl
theorem pen_g15 (p : PenT) : (penC p)[15]? = some (I p.slot) := rfl
theorem pen_g16 (p : PenT) : (penC p)[16]? = some (U p.val) := rfl
theorem pen_g17 (p : PenT) : (penC p)[17]? = some (.bool p.found) := rfl
theorem boxPen (p : PenT) (w : World) : (Instr.box 123 (.agg (penC p))).run Tryz.prog w = .ok (.pointer (some ⟨w.heap.size, 0, none⟩)) (w.alloc (.cells (penC p) 123)) := rfl
theorem loadPen (g o : Nat) (w : World) : (loadRow 123 ⟨g, o, none⟩).run Tryz.prog w = rowRes Tryz.prog 123 g o w ((w.heap[g]?).bind (rowAt o 18)) :=
  run_row Tryz.underlying123 rfl (by kernel_rfl) g o w
theorem storePen (g o : Nat) (vs : Array Value) (w : World) : (storeRow 123 ⟨g, o, none⟩ (.agg vs)).run Tryz.prog w = layRes Tryz.prog 123 g o vs w (((w.heap[g]?).map (canLay o 18 vs)).getD false) :=
  run_lay (by kernel_rfl) g o vs w
theorem lrowPen (a : Addr) : loadVar 123 a = loadRow 123 a := rfl
theorem srowPen (a : Addr) (v : Value) : storeVar 123 a v = storeRow 123 a v := rfl
attribute [local go_sem] pen_g0 pen_g1 pen_g2 pen_g3 pen_g4 pen_g5 pen_g6 pen_g7 pen_g8 pen_g9 pen_g10 pen_g11 pen_g12 pen_g13 pen_g14 pen_g15 pen_g16 pen_g17 penC_size penC_one penC_all boxPen loadPen storePen
attribute [local go_sem ↓] lrowPen srowPen
attribute [local irreducible] penC
end
end Go.Proofs.Hc
namespace Go.Proofs.Hc
open Go.RowKit
def onR (p : PartT) : Option Nat → Option (Nat → BitVec 64) → PartT
  | some j, _ => { p with at_ := (j : Int), ph := 3 }
  | none, some ws => { p with ws := ws, ph := 5 }
  | none, none => { p with ph := 9 }
theorem onS_def (p : PartT) (from_ : Nat) : onS p from_ = onR p (nextS p from_) (halvesS p) := by
  unfold onS
  generalize nextS p from_ = a
  generalize halvesS p = b
  cases a with
  | some j => rfl
  | none => cases b <;> rfl
def accS (p : PartT) : AccT := ⟨if p.ph = 5 ∨ p.ph = 6 then 2 else 1, whereS p, if p.ph = 5 then p.count + 1#64 else if p.ph = 6 then p.ws p.at_.toNat else 0#64⟩
theorem needS_is {p : PartT} (hr : rightS p = true) (h6 : p.ph ≤ 6) : needS p = some (accS p) := by
  unfold needS accS
  rw [if_pos (by simp [hr, h6])]
theorem needS_none {p : PartT} (h : ¬ (rightS p = true ∧ p.ph ≤ 6)) : needS p = none := by
  unfold needS
  rw [if_neg (by simpa using h)]
theorem whereS_in {p : PartT} (R : RightS p) (h6 : p.ph ≤ 6) : 0 ≤ whereS p ∧ ∃ s, (s = p.sl ∨ s = p.t0 ∨ s = p.t1) ∧ whereS p ≤ 55 + 40 * s := by
  have h0 := R.ph0
  have h2 := R.at2
  have h3 := R.at3
  have h6' := R.at6
  have hs := R.sl0
  have ha := R.a0
  have hb := R.b0
  unfold whereS
  by_cases c1 : p.ph = 1
  · rw [if_pos c1]; exact ⟨by omega, p.sl, .inl rfl, by omega⟩
  rw [if_neg c1]
  by_cases c2 : p.ph = 2
  · rw [if_pos c2]; have := h2 c2; exact ⟨by omega, p.sl, .inl rfl, by omega⟩
  rw [if_neg c2]
  by_cases c3 : p.ph = 3
  · rw [if_pos c3]; have := h3 (.inl c3); exact ⟨by omega, p.sl, .inl rfl, by omega⟩
  rw [if_neg c3]
  by_cases c4 : p.ph = 4
  · rw [if_pos c4]; have := h3 (.inr c4); exact ⟨by omega, p.sl, .inl rfl, by omega⟩
  rw [if_neg c4]
  by_cases c6 : p.ph = 6
  · rw [if_pos c6]
    have := h6' c6
    by_cases c : p.at_ < 40
    · rw [if_pos c]; exact ⟨by omega, p.t0, .inr (.inl rfl), by omega⟩
    · rw [if_neg c]; exact ⟨by omega, p.t1, .inr (.inr rfl), by omega⟩
  rw [if_neg c6]
  exact ⟨by omega, p.sl, .inl rfl, by omega⟩
structure ThereS (n : Nat) (p : PartT) : Prop where
  sl : 56 + 40 * p.sl ≤ (n : Int)
  t0 : 56 + 40 * p.t0 ≤ (n : Int)
  t1 : 56 + 40 * p.t1 ≤ (n : Int)
inductive RunsS : List (BitVec 64) → PartT → Nat → List (BitVec 64) → PartT → Prop
  | done {l p} : 6 < p.ph → RunsS l p 0 l p
  | step {l p y k l' p'} : p.ph ≤ 6 → rightS p = true → doP l (accS p) = some y → RunsS y.1 (takeS p y.2) k l' p' → RunsS l p (k + 1) l' p'
theorem RunsS.inv {l l' : List (BitVec 64)} {p p' : PartT} {k : Nat} (h : RunsS l p k l' p') : (6 < p.ph ∧ k = 0 ∧ l' = l ∧ p' = p) ∨ ∃ y k1, p.ph ≤ 6 ∧ k = k1 + 1 ∧ rightS p = true ∧ doP l (accS p) = some y ∧ RunsS y.1 (takeS p y.2) k1 l' p' := by
  cases h with
  | done h => exact .inl ⟨h, rfl, rfl, rfl⟩
  | step h6 hr hy hx => exact .inr ⟨_, _, h6, rfl, hr, hy, hx⟩
theorem accS_row {l : List (BitVec 64)} {p : PartT} {y : List (BitVec 64) × BitVec 64} (R : RightS p) (h6 : p.ph ≤ 6) (hy : doP l (accS p) = some y) :
    ∃ j : Nat, (accS p).at_ = (j : Int) ∧ j < l.length ∧ l[j]? = some y.2 ∧ ((accS p).kind = 1 ∧ y.1 = l ∨ (accS p).kind = 2 ∧ y.1 = l.set j (accS p).new) := by
  obtain ⟨j, hj⟩ := Int.eq_ofNat_of_zero_le (whereS_in R h6).1
  have hk : (accS p).kind = 1 ∨ (accS p).kind = 2 := by
    by_cases h : p.ph = 5 ∨ p.ph = 6
    · right; exact if_pos h
    · left; exact if_neg h
  unfold doP at hy
  have e : (accS p).at_.toNat = j := by show (whereS p).toNat = j; omega
  rw [e] at hy
  split at hy
  · cases hy
  · rename_i w hw
    have hy := Option.some.inj hy
    subst hy
    refine ⟨j, hj, (List.getElem?_eq_some_iff.1 hw).1, hw, ?_⟩
    rcases hk with h | h
    · exact .inl ⟨h, if_pos h⟩
    · refine .inr ⟨h, ?_⟩
      show (if (accS p).kind = 1 then _ else _) = _
      rw [if_neg (by omega), if_pos h]
end Go.Proofs.Hc
