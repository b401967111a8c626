/- Layer 19, who writes: the model. Plain law, no program in sight. -/
import Derived.Test.YtcikopeddljgkaaGreatKHpb
set_option linter.unusedSimpArgs false
set_option linter.unusedVariables false
namespace Go.Proofs.Hc
open Go.RowKit
structure PenT where
  ph : Int
  sl : Int
  op : Int
  key : BitVec 64
  a : BitVec 64
  b : BitVec 64
  hash : BitVec 64
  count : BitVec 64
  can : BitVec 64
  live : BitVec 64
  grp : Int
  ctrl : BitVec 64
  left : BitVec 8
  free : Int
  fctrl : BitVec 64
  slot : Int
  val : BitVec 64
  found : Bool
def penC (p : PenT) : Array Value := #[I p.ph, I p.sl, I p.op, U p.key, U p.a, U p.b, U p.hash, U p.count, U p.can, U p.live, I p.grp, U p.ctrl, Y p.left, I p.free, U p.fctrl, I p.slot, U p.val, .bool p.found]
theorem penC_size (p : PenT) : (penC p).size = 18 := rfl
theorem penC_one (p : PenT) : allOne (penC p) = true := by unfold allOne penC; simp [Value.oneCell']
theorem penC_all (p : PenT) : (penC p).extract 0 18 = penC p := by have := Array.extract_size (xs := penC p); rwa [penC_size] at this
def oddB (x : BitVec 64) : Bool := (x &&& 1#64) == 1#64
structure AccT where
  kind : Int
  at_ : Int
  new : BitVec 64
def doP (c : List (BitVec 64)) (x : AccT) : Option (List (BitVec 64) × BitVec 64) :=
  match c[x.at_.toNat]? with
  | none => none
  | some w => some (if x.kind = 1 then c else if x.kind = 2 then c.set x.at_.toNat x.new else c.set x.at_.toNat (w + x.new), w)
end Go.Proofs.Hc
namespace Go.Proofs.Hc
open Go.RowKit
def wd1 (t : Tab) : BitVec 64 := BitVec.ofInt 64 t.depth ||| t.pre * 256#64
def tword (t : Tab) (i : Nat) : BitVec 64 :=
  if i = 0 then t.count else if i = 1 then wd1 t else if i = 2 then BitVec.ofInt 64 t.can else if i = 3 then BitVec.ofInt 64 t.live
  else if i < 6 then t.c (i - 4) else if i < 22 then t.k (i - 6) else if i < 38 then t.v (i - 22) else 0#64
def twords (t : Tab) : List (BitVec 64) := (List.range 40).map (tword t)
theorem twords_len (t : Tab) : (twords t).length = 40 := by unfold twords; simp
theorem twords_get (t : Tab) (i : Nat) (h : i < 40) : (twords t)[i]? = some (tword t i) := by
  unfold twords
  rw [List.getElem?_map, List.getElem?_range h]
  rfl
theorem tw_c (t : Tab) (g : Nat) (h : g < 2) : tword t (4 + g) = t.c g := by
  unfold tword
  rw [if_neg (by omega), if_neg (by omega), if_neg (by omega), if_neg (by omega), if_pos (by omega), show 4 + g - 4 = g by omega]
theorem tw_k (t : Tab) (j : Nat) (h : j < 16) : tword t (6 + j) = t.k j := by
  unfold tword
  rw [if_neg (by omega), if_neg (by omega), if_neg (by omega), if_neg (by omega), if_neg (by omega), if_pos (by omega), show 6 + j - 6 = j by omega]
theorem tw_v (t : Tab) (j : Nat) (h : j < 16) : tword t (22 + j) = t.v j := by
  unfold tword
  rw [if_neg (by omega), if_neg (by omega), if_neg (by omega), if_neg (by omega), if_neg (by omega), if_neg (by omega), if_pos (by omega), show 22 + j - 22 = j by omega]
theorem doP_in {l : List (BitVec 64)} {a : AccT} (h : a.at_.toNat < l.length) : ∃ y, doP l a = some y ∧ y.1.length = l.length := by
  unfold doP
  rw [List.getElem?_eq_getElem h]
  refine ⟨_, rfl, ?_⟩
  dsimp only
  split
  · rfl
  · split <;> simp
end Go.Proofs.Hc
namespace Go.Proofs.Hc
open Go.RowKit
theorem of_int_small (d : Int) (h0 : 0 ≤ d) (h1 : d ≤ 200) : (BitVec.ofInt 64 d).toNat = d.toNat := by
  rw [BitVec.toNat_ofInt]; omega
theorem pre_small {t : Tab} (hf : flatT t = true) : t.pre.toNat < 32 := by
  obtain ⟨h0, h5, hp, _⟩ := (flatT_iff t).1 hf
  have h : (t.pre >>> t.depth.toNat).toNat = 0 := by
    have : N (t.pre >>> t.depth.toNat) = ((t.pre >>> t.depth.toNat).toNat : Int) := rfl
    omega
  rw [BitVec.toNat_ushiftRight, Nat.shiftRight_eq_div_pow] at h
  have hd : t.depth.toNat ≤ 5 := by omega
  have h2 : t.pre.toNat < 2 ^ t.depth.toNat := by
    rcases Nat.lt_or_ge t.pre.toNat (2 ^ t.depth.toNat) with h1 | h1
    · exact h1
    · have := Nat.div_pos h1 (Nat.two_pow_pos _)
      omega
  exact Nat.lt_of_lt_of_le h2 (Nat.pow_le_pow_right (by omega) hd)
theorem wd1_depth {t : Tab} (hf : flatT t = true) : wd1 t &&& 255#64 = BitVec.ofInt 64 t.depth := by
  have hp := pre_small hf
  obtain ⟨h0, h5, _⟩ := (flatT_iff t).1 hf
  have hd : t.depth = 0 ∨ t.depth = 1 ∨ t.depth = 2 ∨ t.depth = 3 ∨ t.depth = 4 ∨ t.depth = 5 := by omega
  have hpp : t.pre = BitVec.ofNat 64 t.pre.toNat := by simp
  unfold wd1
  generalize t.pre.toNat = n at hp hpp
  rw [hpp]
  have : ∀ n : Nat, n < 32 → ∀ d : Nat, d < 6 → (BitVec.ofInt 64 (d : Int) ||| BitVec.ofNat 64 n * 256#64) &&& 255#64 = BitVec.ofInt 64 (d : Int) := by decide +kernel
  rcases hd with h | h | h | h | h | h <;> rw [h]
  · exact this n hp 0 (by omega)
  · exact this n hp 1 (by omega)
  · exact this n hp 2 (by omega)
  · exact this n hp 3 (by omega)
  · exact this n hp 4 (by omega)
  · exact this n hp 5 (by omega)
theorem wd1_pre {t : Tab} (hf : flatT t = true) : wd1 t >>> 8 = t.pre := by
  have hp := pre_small hf
  obtain ⟨h0, h5, _⟩ := (flatT_iff t).1 hf
  have hd : t.depth = 0 ∨ t.depth = 1 ∨ t.depth = 2 ∨ t.depth = 3 ∨ t.depth = 4 ∨ t.depth = 5 := by omega
  have hpp : t.pre = BitVec.ofNat 64 t.pre.toNat := by simp
  unfold wd1
  generalize t.pre.toNat = n at hp hpp
  rw [hpp]
  have : ∀ n : Nat, n < 32 → ∀ d : Nat, d < 6 → (BitVec.ofInt 64 (d : Int) ||| BitVec.ofNat 64 n * 256#64) >>> 8 = BitVec.ofNat 64 n := by decide +kernel
  rcases hd with h | h | h | h | h | h <;> rw [h]
  · exact this n hp 0 (by omega)
  · exact this n hp 1 (by omega)
  · exact this n hp 2 (by omega)
  · exact this n hp 3 (by omega)
  · exact this n hp 4 (by omega)
  · exact this n hp 5 (by omega)
theorem odd_up {c : BitVec 64} (h : oddB c = false) : oddB (c + 1#64) = true := by
  unfold oddB at *
  have h2 : (c &&& 1#64) = 0#64 := by
    have : ¬ (c &&& 1#64) = 1#64 := by simpa using h
    have h3 : ∀ b : BitVec 64, (b &&& 1#64) = 0#64 ∨ (b &&& 1#64) = 1#64 := by
      intro b
      have hb : (b &&& 1#64).toNat = b.toNat % 2 := by rw [BitVec.toNat_and]; exact Nat.and_one_is_mod _
      rcases Nat.mod_two_eq_zero_or_one b.toNat with e | e
      · left; apply BitVec.eq_of_toNat_eq; rw [hb, e]; rfl
      · right; apply BitVec.eq_of_toNat_eq; rw [hb, e]; rfl
    rcases h3 c with e | e
    · exact e
    · exact absurd e this
  have e : ((c + 1#64) &&& 1#64) = 1#64 := by
    apply BitVec.eq_of_toNat_eq
    have h4 := congrArg BitVec.toNat h2
    rw [BitVec.toNat_and] at h4 ⊢
    simp only [BitVec.toNat_ofNat, Nat.reducePow, Nat.reduceMod, Nat.and_one_is_mod, BitVec.toNat_add] at h4 ⊢
    omega
  rw [e]
  rfl
end Go.Proofs.Hc
namespace Go.Proofs.Hc
open Go.RowKit
structure PartT where
  ph : Int
  who : Int
  sl : Int
  t0 : Int
  t1 : Int
  seed : BitVec 64
  count : BitVec 64
  head : BitVec 64
  c : Nat → BitVec 64
  k : Nat → BitVec 64
  v : Nat → BitVec 64
  at_ : Int
  ws : Nat → BitVec 64
def zeroPart : PartT := ⟨0, 0, 0, 0, 0, 0#64, 0#64, 0#64, fun _ => 0#64, fun _ => 0#64, fun _ => 0#64, 0, fun _ => 0#64⟩
def inSlab (x : Int) : Bool := decide (0 ≤ x) && decide (x < 128)
def slabsS (a b c : Int) : Bool := (inSlab a && inSlab b && inSlab c) && (!(a == b) && !(a == c) && !(b == c))
def mostS (ph : Int) : Option Int := if ph = 2 then some 2 else if ph = 3 ∨ ph = 4 then some 16 else if ph = 6 then some 80 else none
def atS (p : PartT) : Bool := match mostS p.ph with
  | some n => decide (0 ≤ p.at_) && decide (p.at_ < n)
  | none => true
def rightS (p : PartT) : Bool := (decide (0 ≤ p.ph) && decide (p.ph ≤ 9)) && (decide (0 ≤ p.who) && decide (p.who < 8)) && slabsS p.sl p.t0 p.t1 && !oddB p.count && atS p
structure RightS (p : PartT) : Prop where
  ph0 : 0 ≤ p.ph
  ph9 : p.ph ≤ 9
  who0 : 0 ≤ p.who
  who7 : p.who < 8
  sl0 : 0 ≤ p.sl
  sl1 : p.sl < 128
  a0 : 0 ≤ p.t0
  a1 : p.t0 < 128
  b0 : 0 ≤ p.t1
  b1 : p.t1 < 128
  sa : p.sl ≠ p.t0
  sb : p.sl ≠ p.t1
  ab : p.t0 ≠ p.t1
  even : oddB p.count = false
  at2 : p.ph = 2 → 0 ≤ p.at_ ∧ p.at_ < 2
  at3 : p.ph = 3 ∨ p.ph = 4 → 0 ≤ p.at_ ∧ p.at_ < 16
  at6 : p.ph = 6 → 0 ≤ p.at_ ∧ p.at_ < 80
theorem slabsS_iff (a b c : Int) : slabsS a b c = true ↔ (0 ≤ a ∧ a < 128) ∧ (0 ≤ b ∧ b < 128) ∧ (0 ≤ c ∧ c < 128) ∧ a ≠ b ∧ a ≠ c ∧ b ≠ c := by
  unfold slabsS inSlab
  simp only [Bool.and_eq_true, decide_eq_true_eq, Bool.not_eq_true', beq_eq_false_iff_ne]
  constructor
  · rintro ⟨⟨⟨h1, h2⟩, h3⟩, ⟨h4, h5⟩, h6⟩; exact ⟨h1, h2, h3, h4, h5, h6⟩
  · rintro ⟨h1, h2, h3, h4, h5, h6⟩; exact ⟨⟨⟨h1, h2⟩, h3⟩, ⟨h4, h5⟩, h6⟩
theorem atS_iff (p : PartT) : atS p = true ↔ (p.ph = 2 → 0 ≤ p.at_ ∧ p.at_ < 2) ∧ (p.ph = 3 ∨ p.ph = 4 → 0 ≤ p.at_ ∧ p.at_ < 16) ∧ (p.ph = 6 → 0 ≤ p.at_ ∧ p.at_ < 80) := by
  unfold atS mostS
  by_cases h2 : p.ph = 2
  · rw [if_pos h2]
    simp only [Bool.and_eq_true, decide_eq_true_eq]
    exact ⟨fun h => ⟨fun _ => h, fun h' => by omega, fun h' => by omega⟩, fun h => h.1 h2⟩
  · rw [if_neg h2]
    by_cases h3 : p.ph = 3 ∨ p.ph = 4
    · rw [if_pos h3]
      simp only [Bool.and_eq_true, decide_eq_true_eq]
      exact ⟨fun h => ⟨fun h' => absurd h' h2, fun _ => h, fun h' => by omega⟩, fun h => h.2.1 h3⟩
    · rw [if_neg h3]
      by_cases h6 : p.ph = 6
      · rw [if_pos h6]
        simp only [Bool.and_eq_true, decide_eq_true_eq]
        exact ⟨fun h => ⟨fun h' => absurd h' h2, fun h' => absurd h' h3, fun _ => h⟩, fun h => h.2.2 h6⟩
      · rw [if_neg h6]
        exact ⟨fun _ => ⟨fun h' => absurd h' h2, fun h' => absurd h' h3, fun h' => absurd h' h6⟩, fun _ => rfl⟩
theorem zcx (p : PartT) : rightS p = true ↔ RightS p := by
  unfold rightS
  rw [Bool.and_eq_true, Bool.and_eq_true, Bool.and_eq_true, Bool.and_eq_true, slabsS_iff, atS_iff]
  simp only [Bool.and_eq_true, decide_eq_true_eq, Bool.not_eq_true']
  constructor
  · rintro ⟨⟨⟨⟨h1, h2⟩, h3, h4, h5, h6, h7, h8⟩, h9⟩, h10, h11, h12⟩
    exact ⟨h1.1, h1.2, h2.1, h2.2, h3.1, h3.2, h4.1, h4.2, h5.1, h5.2, h6, h7, h8, h9, h10, h11, h12⟩
  · intro h
    exact ⟨⟨⟨⟨⟨h.ph0, h.ph9⟩, h.who0, h.who7⟩, ⟨h.sl0, h.sl1⟩, ⟨h.a0, h.a1⟩, ⟨h.b0, h.b1⟩, h.sa, h.sb, h.ab⟩, h.even⟩, h.at2, h.at3, h.at6⟩
def whereS (p : PartT) : Int :=
  if p.ph = 1 then 17 + 40 * p.sl else if p.ph = 2 then 20 + 40 * p.sl + p.at_ else if p.ph = 3 then 22 + 40 * p.sl + p.at_ else if p.ph = 4 then 38 + 40 * p.sl + p.at_
  else if p.ph = 6 then 16 + 40 * (if p.at_ < 40 then p.t0 else p.t1) + p.at_ % 40 else 16 + 40 * p.sl
def needS (p : PartT) : Option AccT :=
  if rightS p && decide (p.ph ≤ 6) then some ⟨if p.ph = 5 ∨ p.ph = 6 then 2 else 1, whereS p, if p.ph = 5 then p.count + 1#64 else if p.ph = 6 then p.ws p.at_.toNat else 0#64⟩ else none
def gotS (p : PartT) : Tab := ⟨0#64, 0, 0#64, 0, 0, p.c, p.k, p.v⟩
def deepS (p : PartT) : Int := ((p.head &&& 255#64).toNat : Int)
def preS (p : PartT) : BitVec 64 := p.head >>> 8
def firstS (p : PartT) (h : BitVec 64) : Bool := hasT (bareT 0#64 (deepS p + 1) (2#64 * preS p)) h
def halfS (p : PartT) (i : Nat) : Except Int Tab :=
  match newE (deepS p + 1) (2#64 * preS p + BitVec.ofNat 64 i) with
  | .error e => .error e
  | .ok t => laidT p.seed t ((pairsT (gotS p)).filter fun x => firstS p (hashOf p.seed x.1) == (i == 0))
def halvesS (p : PartT) : Option (Nat → BitVec 64) :=
  match halfS p 0, halfS p 1 with
  | .ok a, .ok b => some fun i => if i < 40 then tword a i else tword b (i - 40)
  | _, _ => none
def nextS (p : PartT) (from_ : Nat) : Option Nat := (List.range 16).find? fun j => decide (from_ ≤ j) && fullJ (gotS p) j
def onS (p : PartT) (from_ : Nat) : PartT :=
  match nextS p from_ with
  | some j => { p with at_ := (j : Int), ph := 3 }
  | none => match halvesS p with
    | some ws => { p with ws := ws, ph := 5 }
    | none => { p with ph := 9 }
def headS (p : PartT) (w : BitVec 64) : PartT :=
  if decide (5 ≤ (w &&& 255#64).toNat) || ((w >>> 8) >>> (w &&& 255#64).toNat != 0#64) then { p with head := w, at_ := 0, ph := 9 } else { p with head := w, at_ := 0, ph := 2 }
def takeS (p : PartT) (w : BitVec 64) : PartT :=
  if p.ph = 0 then (if oddB w then { p with ph := 8 } else { p with ph := 1, count := w })
  else if p.ph = 1 then headS p w
  else if p.ph = 2 then (if p.at_ = 1 then onS { p with c := updW p.c 1 w, at_ := 2 } 0 else { p with c := updW p.c 0 w, at_ := 1 })
  else if p.ph = 3 then { p with k := updW p.k p.at_.toNat w, ph := 4 }
  else if p.ph = 4 then onS { p with v := updW p.v p.at_.toNat w } (p.at_.toNat + 1)
  else if p.ph = 5 then { p with at_ := 0, ph := 6 }
  else { p with at_ := p.at_ + 1, ph := if p.at_ = 79 then 7 else 6 }
def stepS (c : List (BitVec 64)) (p : PartT) : Option (List (BitVec 64) × PartT) :=
  match needS p with
  | none => some (c, p)
  | some x => (doP c x).map fun y => (y.1, takeS p y.2)
def manyS (p : PartT) : Int := if rightS p then (if p.ph = 5 then 81 else if p.ph = 6 then 80 - p.at_ else 0) else 0
end Go.Proofs.Hc
namespace Go.Proofs.Hc
open Go.RowKit
attribute [local go_sem] zbr zby zau zba zbl zay zbk zbm zbu signed64 signed8 zas BitVec.ofInt_add BitVec.ofInt_mul ofInt_sub' zaw zax wide8 eqN neN zbx shr1 shr7 shr56
attribute [local go_sem high] zaz zbt
attribute [local go_sem] zan zbv zae zal zad zbd zao zag zbj zaj zbc zbe
attribute [local go_sem] load26 load73 load23 store26 build73
attribute [local go_sem ↓] lrow26 lrow73 lrow23 srow26 zero26 brow73 zab zav zbb zaa zac
attribute [local go_sem] zah zaq zat zbf zbg zbp zam zar zbq zbi zbh
attribute [local go_sem] nn2 nm2 nn3 nm3 nn4 nm4 nn5 nm5 nn6 nm6 nn7 nm7 nn8 nm8
section
attribute [local go_sem] zas
theorem N_two : N 2#64 = 2 := rfl
attribute [local go_sem] N_two
def grp (g j : Nat) : List Nat := (List.range j).map fun i => (g + i) % 2
end
section
attribute [local go_sem] zas
theorem pen_g0 (p : PenT) : (penC p)[0]? = some (I p.ph) := rfl
theorem pen_g1 (p : PenT) : (penC p)[1]? = some (I p.sl) := rfl
theorem pen_g2 (p : PenT) : (penC p)[2]? = some (I p.op) := rfl
theorem pen_g3 (p : PenT) : (penC p)[3]? = some (U p.key) := rfl
theorem pen_g4 (p : PenT) : (penC p)[4]? = some (U p.a) := rfl
theorem pen_g5 (p : PenT) : (penC p)[5]? = some (U p.b) := rfl
theorem pen_g6 (p : PenT) : (penC p)[6]? = some (U p.hash) := rfl
theorem pen_g7 (p : PenT) : (penC p)[7]? = some (U p.count) := rfl
theorem pen_g8 (p : PenT) : (penC p)[8]? = some (U p.can) := rfl
theorem pen_g9 (p : PenT) : (penC p)[9]? = some (U p.live) := rfl
theorem pen_g10 (p : PenT) : (penC p)[10]? = some (I p.grp) := rfl
theorem pen_g11 (p : PenT) : (penC p)[11]? = some (U p.ctrl) := rfl
theorem pen_g12 (p : PenT) : (penC p)[12]? = some (Y p.left) := rfl
theorem pen_g13 (p : PenT) : (penC p)[13]? = some (I p.free) := rfl
theorem pen_g14 (p : PenT) : (penC p)[14]? = some (U p.fctrl) := rfl
theorem pen_g15 (p : PenT) : (penC p)[15]? = some (I p.slot) := rfl
theorem pen_g16 (p : PenT) : (penC p)[16]? = some (U p.val) := rfl
theorem pen_g17 (p : PenT) : (penC p)[17]? = some (.bool p.found) := rfl
theorem boxPen (p : PenT) (w : World) : (Instr.box 123 (.agg (penC p))).run Tryz.prog w = .ok (.pointer (some ⟨w.heap.size, 0, none⟩)) (w.alloc (.cells (penC p) 123)) := rfl
theorem loadPen (g o : Nat) (w : World) : (loadRow 123 ⟨g, o, none⟩).run Tryz.prog w = rowRes Tryz.prog 123 g o w ((w.heap[g]?).bind (rowAt o 18)) :=
  run_row Tryz.underlying123 rfl (by kernel_rfl) g o w
theorem storePen (g o : Nat) (vs : Array Value) (w : World) : (storeRow 123 ⟨g, o, none⟩ (.agg vs)).run Tryz.prog w = layRes Tryz.prog 123 g o vs w (((w.heap[g]?).map (canLay o 18 vs)).getD false) :=
  run_lay (by kernel_rfl) g o vs w
theorem lrowPen (a : Addr) : loadVar 123 a = loadRow 123 a := rfl
theorem srowPen (a : Addr) (v : Value) : storeVar 123 a v = storeRow 123 a v := rfl
attribute [local go_sem] pen_g0 pen_g1 pen_g2 pen_g3 pen_g4 pen_g5 pen_g6 pen_g7 pen_g8 pen_g9 pen_g10 pen_g11 pen_g12 pen_g13 pen_g14 pen_g15 pen_g16 pen_g17 penC_size penC_one penC_all boxPen loadPen storePen
attribute [local go_sem ↓] lrowPen srowPen
attribute [local irreducible] penC
end
section
attribute [local go_sem] Oper.semAt_some zak
attribute [local go_sem] loadP storeP allOne_pair
attribute [local go_sem high] laidAt_p
attribute [local go_sem ↓] lrowP srowP zeroP
theorem box_pair (x y : BitVec 64) (w : World) : (Instr.box 31 (.agg #[U x, U y])).run Tryz.prog w = .ok (.pointer (some ⟨w.heap.size, 0, none⟩)) (w.alloc (.cells #[U x, U y] 31)) := rfl
attribute [local go_sem] box_pair
end
end Go.Proofs.Hc
