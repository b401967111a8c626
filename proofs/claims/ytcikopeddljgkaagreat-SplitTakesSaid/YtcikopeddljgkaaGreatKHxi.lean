/- Leaf contracts: words, bytes, hashes. -/
import Derived.Test.YtcikopeddljgkaaGreatKHr
import Derived.Lib.Tables
import Derived.RangeFuncBox
import Derived.Shelf.Slices.Clone
import Derived.WalkLawsBesides
import Derived.WalkSpells
import Derived.Lib.AppendZerosOnto
import Derived.Deep.Light
import Derived.Deep.RegionHeld
import Derived.StillTailTactics
set_option linter.unusedSimpArgs false
set_option linter.unusedVariables false
set_option maxHeartbeats 2000000
set_option maxRecDepth 100000
namespace Go.Proofs.Hc
open Go.RowKit
def lows : BitVec 64 := 0x7f7f7f7f7f7f7f7f#64
def tops : BitVec 64 := 0x8080808080808080#64
def ones : BitVec 64 := 0x0101010101010101#64
def byteAt (x : BitVec 64) (n : Nat) : BitVec 8 := (x >>> (8 * n)).setWidth 8
def withB (x : BitVec 64) (n : Nat) (b : BitVec 8) : BitVec 64 := (x &&& ~~~(255#64 <<< (8 * n))) ||| (b.setWidth 64 <<< (8 * n))
def noughts (x : BitVec 64) : BitVec 64 := ~~~(((x &&& lows) + lows) ||| x ||| lows)
def gathered (x : BitVec 64) : BitVec 8 := (((x >>> 7) * 0x0102040810204080#64) >>> 56).setWidth 8
def fillB (b : BitVec 8) : BitVec 64 := b.setWidth 64 * ones
def alike (v w : BitVec 64) : BitVec 8 := gathered (noughts (v ^^^ w))
def equalM (w : BitVec 64) (b : BitVec 8) : BitVec 8 := alike w (fillB b)
def lessM (x y : BitVec 64) : BitVec 64 := ~~~((x ||| tops) - (y &&& lows)) &&& tops
def belowM (x : BitVec 64) (b : BitVec 8) : BitVec 8 := gathered ((~~~x &&& fillB b &&& tops) ||| (~~~(x ^^^ fillB b) &&& lessM x (fillB b)))
def mixF (x : BitVec 64) (n : Nat) : BitVec 64 := x ^^^ (x >>> n)
def hashOf (s k : BitVec 64) : BitVec 64 := mixF (mixF ((k ^^^ s) * 0xbf58476d1ce4e5b9#64) 32 * 0x94d049bb133111eb#64) 29
def hash1 (h : BitVec 64) : BitVec 64 := h >>> 7
def hash2 (h : BitVec 64) : BitVec 8 := h.setWidth 8 &&& 127#8
attribute [local go_sem] zbv zcb zba zbf zbr zbd zbq zbs zbx signed64 signed8 zap BitVec.ofInt_add BitVec.ofInt_mul ofInt_sub' zbb zbc wide8 eqN neN zca shr1 shr7 shr56
attribute [local go_sem high] zbe zbw
theorem shift_any (n : Nat) (w : World) (h : n < 8) :
    Calls Tryz.prog 279 #[I n] w fun e w' => e = .returned (I ((8 * n : Nat) : Int)) ∧ w = w' := by
  go_enter Tryz.func279, Tryz.ntmps279
  go_wp2
  go_ret
  exact ⟨by rw [show ((8 * n : Nat) : Int) = (n : Int) * 8 by omega]; rfl, rfl⟩
theorem word_at_any (x : BitVec 64) (n : Nat) (w : World) (h : n < 8) :
    Calls Tryz.prog 231 #[U x, I n] w fun e w' => e = .returned (Y (byteAt x n)) ∧ w = w' := by
  go_enter Tryz.func231, Tryz.ntmps231
  go_wp2_with (go_at_call 279; refine (shift_any _ _ h).mono ?_; rintro e w' ⟨rfl, rfl⟩)
  go_ret
  exact ⟨rfl, rfl⟩
theorem noughts_any (x : BitVec 64) (w : World) :
    Calls Tryz.prog 317 #[U x] w fun e w' => e = .returned (U (noughts x)) ∧ w = w' := by
  go_enter Tryz.func317, Tryz.ntmps317
  go_wp2
  go_ret
  exact ⟨by unfold noughts lows; rfl, rfl⟩
theorem gathered_any (x : BitVec 64) (w : World) :
    Calls Tryz.prog 307 #[U x] w fun e w' => e = .returned (Y (gathered x)) ∧ w = w' := by
  go_enter Tryz.func307, Tryz.ntmps307
  go_wp2
  go_ret
  exact ⟨by unfold gathered; rfl, rfl⟩
theorem with_any (x : BitVec 64) (n : Nat) (b : BitVec 8) (w : World) (h : n < 8) :
    Calls Tryz.prog 321 #[U x, I n, Y b] w fun e w' => e = .returned (U (withB x n b)) ∧ Ch [] w w' := by
  go_enter Tryz.func321, Tryz.ntmps321
  go_wp2
  go_quiet ((go_at_call 279; exact quietL (shift_any _ _ h)))
  go_wp2
  go_ret
  exact ⟨by unfold withB; rfl, (Ch.refl [] w).drewN nq⟩
theorem fillB_any (b : BitVec 8) (w : World) :
    Calls Tryz.prog 216 #[Y b] w fun e w' => e = .returned (U (fillB b)) ∧ w = w' := by
  go_enter Tryz.func216, Tryz.ntmps216
  go_wp2
  go_ret
  exact ⟨by unfold fillB ones; rfl, rfl⟩
theorem alike_any (x y : BitVec 64) (w : World) :
    Calls Tryz.prog 305 #[U x, U y] w fun e w' => e = .returned (Y (alike x y)) ∧ w = w' := by
  go_enter Tryz.func305, Tryz.ntmps305
  go_wp2_with (first
    | (go_at_call 317; refine (noughts_any _ _).mono ?_; rintro e w' ⟨rfl, rfl⟩)
    | (go_at_call 307; refine (gathered_any _ _).mono ?_; rintro e w' ⟨rfl, rfl⟩))
  go_ret
  exact ⟨rfl, rfl⟩
theorem equal_any (x : BitVec 64) (b : BitVec 8) (w : World) :
    Calls Tryz.prog 264 #[U x, Y b] w fun e w' => e = .returned (Y (equalM x b)) ∧ w = w' := by
  go_enter Tryz.func264, Tryz.ntmps264
  go_wp2_with (first
    | (go_at_call 216; refine (fillB_any _ _).mono ?_; rintro e w' ⟨rfl, rfl⟩)
    | (go_at_call 305; refine (alike_any _ _ _).mono ?_; rintro e w' ⟨rfl, rfl⟩))
  go_ret
  exact ⟨rfl, rfl⟩
theorem below_any (x : BitVec 64) (b : BitVec 8) (w : World) :
    Calls Tryz.prog 275 #[U x, Y b] w fun e w' => e = .returned (Y (belowM x b)) ∧ w = w' := by
  go_enter Tryz.func275, Tryz.ntmps275
  go_wp2_with (first
    | (go_at_call 216; refine (fillB_any _ _).mono ?_; rintro e w' ⟨rfl, rfl⟩)
    | (go_at_call 307; refine (gathered_any _ _).mono ?_; rintro e w' ⟨rfl, rfl⟩))
  go_ret
  exact ⟨by unfold belowM lessM lows tops; rfl, rfl⟩
theorem times_any (x : BitVec 64) (y : Int) (w : World) :
    Calls Tryz.prog 124 #[U x, .int .u64 y] w fun e w' => e = .returned (U (x * BitVec.ofInt 64 y)) ∧ w = w' := by
  go_enter Tryz.func124, Tryz.ntmps124
  go_wp2
  go_ret
  exact ⟨rfl, rfl⟩
theorem folded_any (x : BitVec 64) (n : Int) (h : 0 ≤ n) (w : World) :
    Calls Tryz.prog 125 #[U x, I n] w fun e w' => e = .returned (U (mixF x n.toNat)) ∧ w = w' := by
  obtain ⟨n, rfl⟩ := Int.eq_ofNat_of_zero_le h
  go_enter Tryz.func125, Tryz.ntmps125
  have hm : N x / 2 ^ min n 64 = N (x >>> n) := shr_min x n
  go_wp2
  go_ret
  exact ⟨by unfold mixF; rfl, rfl⟩
theorem hashOf_any (s k : BitVec 64) (w : World) :
    Calls Tryz.prog 67 #[U s, U k] w fun e w' => e = .returned (U (hashOf s k)) ∧ w = w' := by
  go_enter Tryz.func67, Tryz.ntmps67
  go_wp2_with (first
    | (go_at_call 124; refine (times_any _ _ _).mono ?_; rintro e w' ⟨rfl, rfl⟩)
    | (go_at_call 125; refine (folded_any _ _ (by decide) _).mono ?_; rintro e w' ⟨rfl, rfl⟩))
  go_ret
  exact ⟨by unfold hashOf; rfl, rfl⟩
theorem hash1_any (h : BitVec 64) (w : World) :
    Calls Tryz.prog 260 #[U h] w fun e w' => e = .returned (U (hash1 h)) ∧ w = w' := by
  go_enter Tryz.func260, Tryz.ntmps260
  go_wp2
  go_ret
  exact ⟨rfl, rfl⟩
theorem hash2_any (h : BitVec 64) (w : World) :
    Calls Tryz.prog 232 #[U h] w fun e w' => e = .returned (Y (hash2 h)) ∧ w = w' := by
  go_enter Tryz.func232, Tryz.ntmps232
  go_wp2
  go_ret
  exact ⟨rfl, rfl⟩
end Go.Proofs.Hc
namespace Go.Proofs.Hc
open Go.RowKit
structure Tab where
  count : BitVec 64
  depth : Int
  pre : BitVec 64
  can : Int
  live : Int
  c : Nat → BitVec 64
  k : Nat → BitVec 64
  v : Nat → BitVec 64
def Tab.cell (t : Tab) : Nat → Value
  | 0 => U t.count
  | 1 => I t.depth
  | 2 => U t.pre
  | 3 => I t.can
  | 4 => I t.live
  | 5 => U (t.c 0)
  | 6 => U (t.c 1)
  | i + 7 => if i < 16 then U (t.k i) else U (t.v (i - 16))
def tcells (t : Tab) : Array Value := Array.ofFn (n := 39) fun i => t.cell i.1
def hcells (t : Tab) (s : BitVec 64) : Array Value := Array.ofFn (n := 40) fun i => if i.1 = 39 then U s else t.cell i.1
def zeroT : Tab := ⟨0#64, 0, 0#64, 0, 0, fun _ => 0#64, fun _ => 0#64, fun _ => 0#64⟩
theorem zai (t : Tab) : (tcells t).size = 39 := by simp [tcells]
theorem zav (t : Tab) (s : BitVec 64) : (hcells t s).size = 40 := by simp [hcells]
theorem zau (t : Tab) (i : Nat) : (tcells t)[i]? = if i < 39 then some (t.cell i) else none := by
  unfold tcells; rw [Array.getElem?_ofFn]; simp
theorem zbj (t : Tab) (s : BitVec 64) (i : Nat) : (hcells t s)[i]? = if i < 40 then some (if i = 39 then U s else t.cell i) else none := by
  unfold hcells; rw [Array.getElem?_ofFn]; simp
theorem cell_one (t : Tab) (i : Nat) : (t.cell i).oneCell' = true := by
  unfold Tab.cell; split <;> try rfl
  split <;> rfl
theorem zbl (t : Tab) : allOne (tcells t) = true := by
  unfold allOne
  simp only [tcells, Array.all_eq_true_iff_forall_mem, Array.mem_ofFn]; rintro v ⟨i, rfl⟩; exact cell_one ..
theorem zbo (t : Tab) (s : BitVec 64) : allOne (hcells t s) = true := by
  unfold allOne
  simp only [hcells, Array.all_eq_true_iff_forall_mem, Array.mem_ofFn]; rintro v ⟨i, rfl⟩; split; rfl; exact cell_one ..
theorem zaq (t : Tab) (s : BitVec 64) : (hcells t s).extract 0 39 = tcells t := by
  apply Array.ext_getElem?; intro i
  rw [Array.getElem?_extract, zau, zbj, zav]
  by_cases h : i < 39
  · simp [h, show i < 40 by omega, show i ≠ 39 by omega]
  · simp [h]
theorem zat (t : Tab) : (tcells t).extract 0 39 = tcells t := by
  have := Array.extract_size (xs := tcells t); rwa [zai] at this
theorem zbp (t : Tab) (s : BitVec 64) : (hcells t s).extract 0 40 = hcells t s := by
  have := Array.extract_size (xs := hcells t s); rwa [zav] at this
theorem zbi (t : Tab) (s : BitVec 64) : (hcells t s).extract 5 7 = #[U (t.c 0), U (t.c 1)] := by
  apply Array.ext_getElem?; intro i
  rw [Array.getElem?_extract, zbj, zav]
  match i with
  | 0 => simp [Tab.cell]
  | 1 => simp [Tab.cell]
  | i + 2 => simp; omega
theorem zbh (t : Tab) : (tcells t).extract 5 7 = #[U (t.c 0), U (t.c 1)] := by
  apply Array.ext_getElem?; intro i
  rw [Array.getElem?_extract, zau, zai]
  match i with
  | 0 => simp [Tab.cell]
  | 1 => simp [Tab.cell]
  | i + 2 => simp; omega
theorem hcells_key (t : Tab) (s : BitVec 64) (i : Nat) (h : i < 16) : (hcells t s)[7 + i]? = some (U (t.k i)) := by
  rw [zbj, if_pos (by omega), if_neg (by omega), Nat.add_comm]; simp [Tab.cell, h]
theorem hcells_val (t : Tab) (s : BitVec 64) (i : Nat) (h : i < 16) : (hcells t s)[23 + i]? = some (U (t.v i)) := by
  rw [zbj, if_pos (by omega), if_neg (by omega), show 23 + i = (16 + i) + 7 by omega]; simp [Tab.cell, show ¬ 16 + i < 16 by omega]
theorem tcells_key (t : Tab) (i : Nat) (h : i < 16) : (tcells t)[7 + i]? = some (U (t.k i)) := by
  rw [zau, if_pos (by omega), Nat.add_comm]; simp [Tab.cell, h]
theorem tcells_val (t : Tab) (i : Nat) (h : i < 16) : (tcells t)[23 + i]? = some (U (t.v i)) := by
  rw [zau, if_pos (by omega), show 23 + i = (16 + i) + 7 by omega]; simp [Tab.cell, show ¬ 16 + i < 16 by omega]
theorem hset {t t' : Tab} {s s' : BitVec 64} {j : Nat} {x : Value} (hj : j < 39) (hx : t'.cell j = x) (ho : ∀ i, i < 39 → i ≠ j → t'.cell i = t.cell i) (hs : s = s') :
    (hcells t s).setIfInBounds j x = hcells t' s' := by
  subst hs
  apply Array.ext_getElem?; intro i
  rw [Array.getElem?_setIfInBounds, zbj, zbj, zav]
  by_cases h : j = i
  · subst h; simp [show j < 40 by omega, show j ≠ 39 by omega, hx]
  · rw [if_neg h]
    by_cases h2 : i < 40
    · simp only [h2, if_true]
      by_cases h3 : i = 39
      · simp [h3]
      · simp only [h3, if_false]; rw [ho i (by omega) (fun e => h e.symm)]
    · simp [h2]
theorem hset_can (t : Tab) (s : BitVec 64) (x : Int) : (hcells t s).setIfInBounds 3 (I x) = hcells { t with can := x } s :=
  hset (by omega) rfl (fun i _ h => by unfold Tab.cell; split <;> first | rfl | omega) rfl
theorem hset_live (t : Tab) (s : BitVec 64) (x : Int) : (hcells t s).setIfInBounds 4 (I x) = hcells { t with live := x } s :=
  hset (by omega) rfl (fun i _ h => by unfold Tab.cell; split <;> first | rfl | omega) rfl
theorem hset_ctrl (t : Tab) (s : BitVec 64) (g : Nat) (hg : g < 2) (x : BitVec 64) : (hcells t s).setIfInBounds (5 + g) (U x) = hcells { t with c := fun i => if i = g then x else t.c i } s := by
  refine hset (by omega) ?_ (fun i _ h => ?_) rfl
  · match g, hg with
    | 0, _ => rfl
    | 1, _ => rfl
  · unfold Tab.cell
    split <;> first | rfl | skip
    · simp [show (0 : Nat) ≠ g by omega]
    · simp [show (1 : Nat) ≠ g by omega]
theorem hset_key (t : Tab) (s : BitVec 64) (j : Nat) (hj : j < 16) (x : BitVec 64) : (hcells t s).setIfInBounds (7 + j) (U x) = hcells { t with k := fun i => if i = j then x else t.k i } s := by
  refine hset (by omega) ?_ (fun i hi h => ?_) rfl
  · rw [Nat.add_comm]; simp [Tab.cell, hj]
  · unfold Tab.cell
    split <;> first | rfl | skip
    rename_i i
    by_cases h2 : i < 16
    · simp [h2, show i ≠ j by omega]
    · simp [h2]
theorem hset_val (t : Tab) (s : BitVec 64) (j : Nat) (hj : j < 16) (x : BitVec 64) : (hcells t s).setIfInBounds (23 + j) (U x) = hcells { t with v := fun i => if i = j then x else t.v i } s := by
  refine hset (by omega) ?_ (fun i hi h => ?_) rfl
  · rw [show 23 + j = (16 + j) + 7 by omega]; simp [Tab.cell, show ¬ 16 + j < 16 by omega]
  · unfold Tab.cell
    split <;> first | rfl | skip
    rename_i i
    by_cases h2 : i < 16
    · simp [h2]
    · simp [h2, show i - 16 ≠ j by omega]
theorem load26 (g o : Nat) (w : World) : (loadRow 26 ⟨g, o, none⟩).run Tryz.prog w = rowRes Tryz.prog 26 g o w ((w.heap[g]?).bind (rowAt o 39)) :=
  run_row Tryz.underlying26 rfl (by kernel_rfl) g o w
theorem load73 (g o : Nat) (w : World) : (loadRow 141 ⟨g, o, none⟩).run Tryz.prog w = rowRes Tryz.prog 141 g o w ((w.heap[g]?).bind (rowAt o 40)) :=
  run_row Tryz.underlying141 rfl (by kernel_rfl) g o w
theorem load23 (g o : Nat) (w : World) : (loadRow 23 ⟨g, o, none⟩).run Tryz.prog w = rowRes Tryz.prog 23 g o w ((w.heap[g]?).bind (rowAt o 2)) :=
  run_row Tryz.underlying23 rfl (by kernel_rfl) g o w
theorem store26 (g o : Nat) (vs : Array Value) (w : World) : (storeRow 26 ⟨g, o, none⟩ (.agg vs)).run Tryz.prog w = layRes Tryz.prog 26 g o vs w (((w.heap[g]?).map (canLay o 39 vs)).getD false) :=
  run_lay (by kernel_rfl) g o vs w
theorem lrow26 (a : Addr) : loadVar 26 a = loadRow 26 a := rfl
theorem lrow73 (a : Addr) : loadVar 141 a = loadRow 141 a := rfl
theorem lrow23 (a : Addr) : loadVar 23 a = loadRow 23 a := rfl
theorem srow26 (a : Addr) (v : Value) : storeVar 26 a v = storeRow 26 a v := rfl
theorem zero26 (w : World) : (zeroValue 26).run Tryz.prog w = .ok (.agg (tcells zeroT)) w := by kernel_rfl
theorem brow73 (ps : Array (Nat × Value)) : Instr.build 141 ps = buildRow 141 ps := rfl
theorem build73 (t : Tab) (s : BitVec 64) (w : World) : (buildRow 141 #[(0, .agg (tcells t)), (1, U s)]).run Tryz.prog w = .ok (.agg (hcells t s)) w := by kernel_rfl
end Go.Proofs.Hc
namespace Go.Proofs.Hc
open Go.RowKit
structure At where
  t : Tab
  slot : Int
  many : Int
def acells (a : At) : Array Value := Array.ofFn (n := 41) fun i => if i.1 = 39 then I a.slot else if i.1 = 40 then I a.many else a.t.cell i.1
def zeroA : At := ⟨zeroT, 0, 0⟩
structure T2 where
  l : Tab
  r : Tab
def t2cells (a : T2) : Array Value := Array.ofFn (n := 78) fun i => if i.1 < 39 then a.l.cell i.1 else a.r.cell (i.1 - 39)
def zeroT2 : T2 := ⟨zeroT, zeroT⟩
theorem zdf (t : At) : (acells t).size = 41 := by simp [acells]
theorem zcd (t : T2) : (t2cells t).size = 78 := by simp [t2cells]
theorem acells_get (t : At) (i : Nat) : (acells t)[i]? = if i < 41 then some (if i = 39 then I t.slot else if i = 40 then I t.many else t.t.cell i) else none := by
  unfold acells; rw [Array.getElem?_ofFn]; simp
theorem zda (t : T2) (i : Nat) : (t2cells t)[i]? = if i < 78 then some (if i < 39 then t.l.cell i else t.r.cell (i - 39)) else none := by
  unfold t2cells; rw [Array.getElem?_ofFn]; simp
theorem acells_one (t : At) : allOne (acells t) = true := by
  unfold allOne
  simp only [acells, Array.all_eq_true_iff_forall_mem, Array.mem_ofFn]; rintro v ⟨i, rfl⟩; split; rfl; split; rfl; exact cell_one ..
theorem t2cells_one (t : T2) : allOne (t2cells t) = true := by
  unfold allOne
  simp only [t2cells, Array.all_eq_true_iff_forall_mem, Array.mem_ofFn]; rintro v ⟨i, rfl⟩; split <;> exact cell_one ..
theorem zcz (t : At) : (acells t).extract 0 39 = tcells t.t := by
  apply Array.ext_getElem?; intro i
  rw [Array.getElem?_extract, zau, acells_get, zdf]
  by_cases h : i < 39
  · simp [h, show i < 41 by omega, show i ≠ 39 by omega, show i ≠ 40 by omega]
  · simp [h]
theorem acells_all (t : At) : (acells t).extract 0 41 = acells t := by
  have := Array.extract_size (xs := acells t); rwa [zdf] at this
theorem t2cells_all (t : T2) : (t2cells t).extract 0 78 = t2cells t := by
  have := Array.extract_size (xs := t2cells t); rwa [zcd] at this
theorem t2cells_l (t : T2) : (t2cells t).extract 0 39 = tcells t.l := by
  apply Array.ext_getElem?; intro i
  rw [Array.getElem?_extract, zau, zda, zcd]
  by_cases h : i < 39
  · simp [h, show i < 78 by omega]
  · simp [h]
theorem t2cells_r (t : T2) : (t2cells t).extract 39 78 = tcells t.r := by
  apply Array.ext_getElem?; intro i
  rw [Array.getElem?_extract, zau, zda, zcd]
  by_cases h : i < 39
  · simp [h, show 39 + i < 78 by omega, show ¬ 39 + i < 39 by omega]
  · simp [h]
theorem lrowA (a : Addr) : loadVar 210 a = loadRow 210 a := rfl
theorem lrowT2 (a : Addr) : loadVar 35 a = loadRow 35 a := rfl
theorem srowA (a : Addr) (v : Value) : storeVar 210 a v = storeRow 210 a v := rfl
theorem srowT2 (a : Addr) (v : Value) : storeVar 35 a v = storeRow 35 a v := rfl
theorem browA (ps : Array (Nat × Value)) : Instr.build 210 ps = buildRow 210 ps := rfl
theorem loadA (g o : Nat) (w : World) : (loadRow 210 ⟨g, o, none⟩).run Tryz.prog w = rowRes Tryz.prog 210 g o w ((w.heap[g]?).bind (rowAt o 41)) :=
  run_row Tryz.underlying210 rfl (by kernel_rfl) g o w
theorem loadT2 (g o : Nat) (w : World) : (loadRow 35 ⟨g, o, none⟩).run Tryz.prog w = rowRes Tryz.prog 35 g o w ((w.heap[g]?).bind (rowAt o 78)) :=
  run_row Tryz.underlying35 rfl (by kernel_rfl) g o w
theorem storeA (g o : Nat) (vs : Array Value) (w : World) : (storeRow 210 ⟨g, o, none⟩ (.agg vs)).run Tryz.prog w = layRes Tryz.prog 210 g o vs w (((w.heap[g]?).map (canLay o 41 vs)).getD false) :=
  run_lay (by kernel_rfl) g o vs w
theorem storeT2 (g o : Nat) (vs : Array Value) (w : World) : (storeRow 35 ⟨g, o, none⟩ (.agg vs)).run Tryz.prog w = layRes Tryz.prog 35 g o vs w (((w.heap[g]?).map (canLay o 78 vs)).getD false) :=
  run_lay (by kernel_rfl) g o vs w
theorem zeroA_run (w : World) : (zeroValue 210).run Tryz.prog w = .ok (.agg (acells zeroA)) w := by kernel_rfl
theorem zeroT2_run (w : World) : (zeroValue 35).run Tryz.prog w = .ok (.agg (t2cells zeroT2)) w := by kernel_rfl
theorem buildA_ts (t : Tab) (n : Int) (w : World) : (buildRow 210 #[(0, .agg (tcells t)), (1, I n)]).run Tryz.prog w = .ok (.agg (acells ⟨t, n, 0⟩)) w := by kernel_rfl
theorem buildA_sm (n m : Int) (w : World) : (buildRow 210 #[(1, I n), (2, I m)]).run Tryz.prog w = .ok (.agg (acells ⟨zeroT, n, m⟩)) w := by kernel_rfl
def retOr {α : Type} (enc : α → Value) : Except Int α → Ending
  | .ok v => .returned (enc v)
  | .error c => .panicked [{ v := .iface 32 (I c), recovered := false }]
def tupOr {α : Type} (enc : α → Value) (zero : Value) : Except Int α → Value
  | .ok v => .tuple #[enc v, I 0]
  | .error c => .tuple #[zero, I c]
theorem zdj (v : Value) (w : World) : (Instr.typeAssert (.iface 32 v) 20 32 true).run Tryz.prog w = .ok (.tuple #[v, .bool true]) w := by kernel_rfl
theorem make_func (fn : Fn) (first cap : Array Value) (w : World) : (Instr.makeFunc fn first cap).run Tryz.prog w = .ok (.func fn first cap) w := rfl
end Go.Proofs.Hc
namespace Go.Proofs.Hc
open Go.RowKit
attribute [local go_sem] zbv zcb zba zbf zbr zbd zbq zbs zbx signed64 signed8 zap BitVec.ofInt_add BitVec.ofInt_mul ofInt_sub' zbb zbc wide8 eqN neN zca shr1 shr7 shr56
attribute [local go_sem high] zbe zbw
attribute [local go_sem] zaw zby zaj zas zae zay zar zak zbn zam zax zaz
attribute [local go_sem] load26 load73 load23 store26 build73
attribute [local go_sem ↓] lrow26 lrow73 lrow23 srow26 zero26 brow73 zac zbk zbg zaa zab
attribute [local go_sem] zai zav zau zbj zbl zbo zaq zat zbp zbi zbh
attribute [local go_sem] nn2 nm2 nn3 nm3 nn4 nm4 nn5 nm5 nn6 nm6 nn7 nm7 nn8 nm8
section
theorem box26 (t : Tab) (w : World) : (Instr.box 26 (.agg (tcells t))).run Tryz.prog w = .ok (.pointer (some ⟨w.heap.size, 0, none⟩)) (w.alloc (.cells (tcells t) 26)) := rfl
theorem zcc (t : Tab) (i : Nat) (h : i < (tcells t).size) : (tcells t)[i] = t.cell i := by simp [tcells]
theorem cell0 (t : Tab) : t.cell 0 = U t.count := rfl
theorem cell1 (t : Tab) : t.cell 1 = I t.depth := rfl
theorem cell2 (t : Tab) : t.cell 2 = U t.pre := rfl
theorem cell3 (t : Tab) : t.cell 3 = I t.can := rfl
theorem cell4 (t : Tab) : t.cell 4 = I t.live := rfl
attribute [local go_sem] box26 zcc cell0 cell1 cell2 cell3 cell4
def flatT (t : Tab) : Bool :=
  decide (0 ≤ t.depth) && decide (t.depth ≤ 5) && (N (t.pre >>> t.depth.toNat) == 0) && (decide (0 ≤ t.can) && decide (t.can ≤ 14)) && (decide (0 ≤ t.live) && decide (t.live ≤ 14))
theorem flat_any (t : Tab) (w : World) : Calls Tryz.prog 109 #[.agg (tcells t)] w fun e w' => e = .returned (.bool (flatT t)) ∧ Ch [] w w' := by
  go_enter Tryz.func109, Tryz.ntmps109
  go_wp2
  all_goals
    go_ret
    refine ⟨?_, (Ch.refl [] w).alloc _⟩
    unfold flatT
    simp_all
    try omega
def topT (h : BitVec 64) (d : Int) : BitVec 64 := h >>> 1 >>> (63 - d).toNat
theorem top_any (h : BitVec 64) (d : Int) (hd : 0 ≤ d) (hd5 : d ≤ 5) (w : World) : Calls Tryz.prog 126 #[U h, I d] w fun e w' => e = .returned (U (topT h d)) ∧ w = w' := by
  have hm : 0 ≤ 63 - d := by omega
  go_enter Tryz.func126, Tryz.ntmps126
  go_wp2
  go_ret
  exact ⟨rfl, rfl⟩
def hasT (t : Tab) (h : BitVec 64) : Bool := flatT t && (topT h t.depth == t.pre)
theorem flat_depth (t : Tab) (h : flatT t = true) : 0 ≤ t.depth ∧ t.depth ≤ 5 := by
  unfold flatT at h; simp at h; omega
theorem has_any (t : Tab) (h : BitVec 64) (w : World) : Calls Tryz.prog 68 #[.agg (tcells t), U h] w fun e w' => e = .returned (.bool (hasT t h)) ∧ Ch [] w w' := by
  unfold hasT
  have F1 := fun w => flat_any t w
  have hd := flat_depth t
  have T1 := fun w (hf : flatT t = true) => top_any h t.depth (hd hf).1 (hd hf).2 w
  generalize topT h t.depth = x at *
  generalize flatT t = f at *
  clear hd
  go_enter Tryz.func68, Tryz.ntmps68
  go_wp2
  obtain ⟨W0, hW0⟩ : ∃ W0, w.alloc (.cells (tcells t) 26) = W0 := ⟨_, rfl⟩
  have hC0 : Ch [] w W0 := by rw [← hW0]; exact (Ch.refl [] w).alloc _
  have hg : ∀ g : Gar W0, (g.1).heap[w.heap.size]? = some (.cells (tcells t) 26 (0, 0)) := fun g => (g.2.block w.heap.size (by rw [← hW0]; simp) (by simp)).trans (by rw [← hW0]; simp [go_sem])
  rw [hW0]
  clear hW0
  cases f with
  | false =>
    refine wp_region_gar (by kernel_rfl) (by kernel_rfl) ?_
    repeat (go_big_quiet_step ((first | (go_at_call 109; exact garC (F1 _)) | (go_at_call 126; exact garL (T1 _ rfl)))))
    refine wpQuiet_nil ?_
    rintro w1 ⟨g1, hw1⟩
    have hc1 : Ch [] W0 w1 := by rw [hw1]; exact g1.2
    clear hw1 g1 hg
    go_wp2
    go_ret
    exact ⟨rfl, hC0.trans hc1⟩
  | true =>
    refine wp_region_gar (by kernel_rfl) (by kernel_rfl) ?_
    repeat (go_big_quiet_step ((first | (go_at_call 109; exact garC (F1 _)) | (go_at_call 126; exact garL (T1 _ rfl)))))
    refine wpQuiet_nil ?_
    rintro w1 ⟨g1, hw1⟩
    have hc1 : Ch [] W0 w1 := by rw [hw1]; exact g1.2
    clear hw1 g1 hg
    go_wp2
    go_ret
    exact ⟨by rw [← eqN]; rfl, hC0.trans hc1⟩
end
end Go.Proofs.Hc
namespace Go.Proofs.Hc
open Go.RowKit
attribute [local go_sem] zbv zcb zba zbf zbr zbd zbq zbs zbx signed64 signed8 zap BitVec.ofInt_add BitVec.ofInt_mul ofInt_sub' zbb zbc wide8 eqN neN zca shr1 shr7 shr56
attribute [local go_sem high] zbe zbw
attribute [local go_sem] nn2 nm2 nn3 nm3 nn4 nm4 nn5 nm5 nn6 nm6 nn7 nm7 nn8 nm8
attribute [local go_sem] Oper.semAt_some zao
attribute [local go_sem] zaw zby zaj zas zae zam
attribute [local go_sem ↓] zac zbk zbg zaa
theorem infoU : (Tryz.prog.info? 22).map (fun i => (i.zero, i.size, i.bytes)) = some (some (U 0#64), 1, 8) := by kernel_rfl
theorem zeroCells_one (v : Value) (n : Nat) : Builtin.zeroCells #[v] n = Array.replicate n v := by
  apply Array.ext_getElem?; intro i
  by_cases h : i < n
  · simp [Builtin.zeroCells, Nat.mod_one, h]
  · simp [Builtin.zeroCells, Nat.mod_one, h]
theorem grow_nil (w : World) : Calls Tryz.prog 215 #[.slice none 0 0, .int .i64 38] w fun e w' => ∃ v, e = .returned v ∧ w'.ownsRow w.heap.size 22 1 v 0 [] ∧ v ≠ .slice none 0 0 ∧ Ch [] w w' := by
  obtain ⟨i0, hi, hz0, hz1, hz2⟩ := info_parts infoU
  go_enter Tryz.func215, Tryz.ntmps215
  go_wp2_with (at_builtin; refine Lib.wpList_append_run _ rfl _ _ 44 3 rfl _ _ rfl rfl _ _ (Lib.run_append_nil_zeros _ 44 3 _ 22 i0 (U 0#64) .i64 .i64 Tryz.underlying44 Tryz.underlying3 hi hz0 38 (by omega) (by omega) (by omega) (by omega)) ?_)
  go_ret
  have hge := grownCap_ge w 38 0 22
  have hle := grownCap_le_maxLen w 38 0 22 (by unfold maxLen; omega)
  refine ⟨_, rfl, ⟨rfl, .inr ⟨w.heap.size, grownCap w 38 0 22, Builtin.zeroCells #[U 0#64] 38 ++ Builtin.zeroCells #[U 0#64] (grownCap w 38 0 22 - 38), rfl, Nat.le_refl _, ?_, Nat.zero_le _, hle, ?_, rfl⟩⟩, by simp, ((Ch.refl [] w).alloc _).drew⟩
  · rw [zbk, zac, if_pos rfl]
  · rw [zeroCells_one, zeroCells_one]; simp; omega
structure RowAt (w : World) (b o : Nat) (xs : List Value) : Prop where
  old : b < w.heap.size
  one : ∀ u ∈ xs, u.oneCell' = true
  cells : ∀ j u, xs[j]? = some u → w.cell? ⟨b, o + j, none⟩ = some u
theorem RowAt.ch {w w1 : World} {b o : Nat} {xs : List Value} (h : RowAt w b o xs) (c : Ch [] w w1) : RowAt w1 b o xs :=
  ⟨Nat.lt_of_lt_of_le h.old c.size, h.one, fun j u hj => (c.cell b (o + j) h.old).trans (h.cells j u hj)⟩
theorem own_grow {w W W' : World} {base n size : Nat} {e : TypeId} {v : Value} {xs : List Value} (ho : W.ownsRow base e size v n xs) (c : Ch [] w W) (hg : W.grownBy W' v.ownBlock) (hb : w.heap.size ≤ base) : Ch [] w W' :=
  c.trans2 (Ch.of_grown (S := v.ownBlock.toList) hg (fun k hk => by simp [hk])) (fun t ht => .inr (by have := own_block ho t (by simpa using ht); omega))
theorem concat4 (g c0 c1 c2 c3 b0 b1 b2 b3 o0 o1 o2 o3 : Nat) (x0 x1 x2 x3 : List Value) (w : World) (hg : w.heap[g]? = some (.cells #[.slice (some ⟨b0, o0, none⟩) 4 c0, .slice (some ⟨b1, o1, none⟩) 2 c1, .slice (some ⟨b2, o2, none⟩) 16 c2, .slice (some ⟨b3, o3, none⟩) 16 c3] 44 (0, 0)))
    (l0 : x0.length = 4) (l1 : x1.length = 2) (l2 : x2.length = 16) (l3 : x3.length = 16) (r0 : RowAt w b0 o0 x0) (r1 : RowAt w b1 o1 x1) (r2 : RowAt w b2 o2 x2) (r3 : RowAt w b3 o3 x3) :
    Calls Tryz.prog 141 #[.slice (some ⟨g, 0, none⟩) 4 4] w fun e w' => ∃ v, e = .returned v ∧ w'.ownsRow w.heap.size 22 1 v 38 (x0 ++ x1 ++ x2 ++ x3) ∧ Ch [] w w' := by
  have hgl := (Array.getElem?_eq_some_iff.1 hg).1
  obtain ⟨gl, hgl'⟩ : ∃ f : ∀ w', Ch [] w w' → w'.heap[g]? = some (.cells #[.slice (some ⟨b0, o0, none⟩) 4 c0, .slice (some ⟨b1, o1, none⟩) 2 c1, .slice (some ⟨b2, o2, none⟩) 16 c2, .slice (some ⟨b3, o3, none⟩) 16 c3] 44 (0, 0)), True :=
    ⟨fun w' c => (c.block g hgl (by simp)).trans hg, trivial⟩
  clear hgl hgl'
  obtain ⟨i0, hi, hz0, hz1, hz2⟩ := info_parts infoU
  go_enter Tryz.func141, Tryz.ntmps141
  go_wp2
  refine wp_loop_rounds 5 ?_
  rw [rounds_succ]
  go_wp2
  rw [rounds_succ]
  go_wp2
  rw [rounds_succ]
  go_wp2
  rw [rounds_succ]
  go_wp2
  rw [rounds_succ]
  go_wp2_with (go_at_call 215; refine (grow_nil _).mono ?_; rintro e w1 ⟨v, rfl, hown, hnn, hc1⟩)
  clear hg
  have hg1 := gl w1 hc1
  refine wp_loop_rounds 5 ?_
  rw [rounds_succ]
  go_wp2_with (at_builtin; refine wpList_append_own _ rfl _ _ 44 rfl w.heap.size 22 i0 (U 0#64) 1 8 Tryz.underlying44 hi hz0 hz1 hz2 rfl (by decide) _ _ _ rfl hown ⟨b0, o0, none⟩ 4 c0 x0 rfl (by simp [l0]) (fun j u hj => by rw [Addr.add_lit]; exact (r0.ch hc1).cells j u hj) r0.one (by unfold maxLen; omega) (by omega) hc1.size ?_; intro v2 w2 hown2 hgr2 _; have hc2 := own_grow hown hc1 hgr2 (Nat.le_refl _); have hg2 := gl w2 hc2; clear hg1 hgr2)
  rw [rounds_succ]
  go_wp2_with (at_builtin; refine wpList_append_own _ rfl _ _ 44 rfl w.heap.size 22 i0 (U 0#64) 1 8 Tryz.underlying44 hi hz0 hz1 hz2 rfl (by decide) _ _ _ rfl hown2 ⟨b1, o1, none⟩ 2 c1 x1 rfl (by simp [l1]) (fun j u hj => by rw [Addr.add_lit]; exact (r1.ch hc2).cells j u hj) r1.one (by unfold maxLen; omega) (by omega) hc2.size ?_; intro v3 w3 hown3 hgr3 _; have hc3 := own_grow hown2 hc2 hgr3 (Nat.le_refl _); have hg3 := gl w3 hc3; clear hg2 hgr3)
  rw [rounds_succ]
  go_wp2_with (at_builtin; refine wpList_append_own _ rfl _ _ 44 rfl w.heap.size 22 i0 (U 0#64) 1 8 Tryz.underlying44 hi hz0 hz1 hz2 rfl (by decide) _ _ _ rfl hown3 ⟨b2, o2, none⟩ 16 c2 x2 rfl (by simp [l2]) (fun j u hj => by rw [Addr.add_lit]; exact (r2.ch hc3).cells j u hj) r2.one (by unfold maxLen; omega) (by omega) hc3.size ?_; intro v4 w4 hown4 hgr4 _; have hc4 := own_grow hown3 hc3 hgr4 (Nat.le_refl _); have hg4 := gl w4 hc4; clear hg3 hgr4)
  rw [rounds_succ]
  go_wp2_with (at_builtin; refine wpList_append_own _ rfl _ _ 44 rfl w.heap.size 22 i0 (U 0#64) 1 8 Tryz.underlying44 hi hz0 hz1 hz2 rfl (by decide) _ _ _ rfl hown4 ⟨b3, o3, none⟩ 16 c3 x3 rfl (by simp [l3]) (fun j u hj => by rw [Addr.add_lit]; exact (r3.ch hc4).cells j u hj) r3.one (by unfold maxLen; omega) (by omega) hc4.size ?_; intro v5 w5 hown5 hgr5 _; have hc5 := own_grow hown4 hc4 hgr5 (Nat.le_refl _); clear hg4 hgr5)
  rw [rounds_succ]
  go_wp2
  go_ret
  exact ⟨_, rfl, by simpa using hown5, hc5⟩
theorem run_append_fits_zeros {P : Program} (w : World) (t tn ty e : TypeId) (i : TypeInfo) (z : Value) (kq kn : IntKind) (ht : P.underlying t = some (.slice e)) (htn : P.underlying tn = some (.int kn)) (hi : P.info? e = some i) (hz : i.zero = some z)
    (hs1 : i.size = 1) (hzc : z.cells = #[z]) (hz1 : z.oneCell' = true) (q n cap k : Nat) (cur : Array Value) (T : TypeId) (hq : w.heap[q]? = some (.cells cur T (0, 0))) (hcur : cur.size = cap) (h0 : 0 < k) (hfit : n + k ≤ cap) (h63 : k * i.bytes ≤ 281474976710656) (hk : k ≤ 1000) :
    ∃ w', (Builtin.append_ #[t, tn] ty #[.slice (some ⟨q, 0, none⟩) n cap, .int kq k]).run P w = .ok (.slice (some ⟨q, 0, none⟩) (n + k) cap) w' ∧ Ch [q] w w' := by
  have hkn : k ≠ 0 := by omega
  have hw : IntKind.i64.wrap (k : Int) = k := by rw [IntKind.wrap_i64]; omega
  have hneg : ¬ ((k : Int) < 0) := by omega
  have h48i : ¬ (281474976710656 < (k : Int) * (i.bytes : Int)) := by
    rw [← Int.natCast_mul]
    omega
  have hst := run_storeCells_at (P := P) q n T (List.replicate k z) 0 cur w hq (by simp; omega) (fun v hv => by rw [(List.mem_replicate.1 hv).2]; exact hz1)
  have hadd : (⟨q, 0, none⟩ : Addr).add n = ⟨q, n, none⟩ := by unfold Addr.add; split <;> simp_all
  refine ⟨w.setRow q (List.take (n + 0) cur.toList ++ List.replicate k z ++ List.drop (n + 0 + (List.replicate k z).length) cur.toList).toArray, ?_, ?_⟩
  · generalize w.setRow q (List.take (n + 0) cur.toList ++ List.replicate k z ++ List.drop (n + 0 + (List.replicate k z).length) cur.toList).toArray = w' at *
    have hst' : (storeCells ⟨q, n, none⟩ (List.replicate k z)).run P w = .ok () w' := hst
    simp [Builtin.append_, run_underlying ht, run_underlying htn, sizeOf, typeInfo, zeroValue, hi, hz, hs1, asInt, asIntOf, hw, hkn, hneg, h48i, hfit, hzc, zeroCells_one, hadd, hst']
  · refine ⟨rfl, rfl, rfl, by simp [World.setRow], fun j hj hn => ?_⟩
    simp only [World.setRow, Array.getElem?_modify]
    rw [if_neg (fun e => hn (by simp [e]))]
theorem padded38 (base : Nat) (v : Value) (xs : List Value) (w : World) (hown : w.ownsRow base 22 1 v 38 xs) :
    Calls Tryz.prog 140 #[v] w fun e w' => ∃ v', e = .returned v' ∧ Ch v.ownBlock.toList w w' := by
  obtain ⟨hlen, h⟩ := hown
  rcases h with ⟨_, h⟩ | ⟨q, cap, cur, rfl, hq, hb, h38, hcm, hsz, hx⟩
  · cases h
  obtain ⟨i0, hi, hz0, hz1, hz2⟩ := info_parts infoU
  have hsz' : cur.size = cap := by omega
  rcases Nat.lt_or_ge cap 40 with hlt | hge
  · go_enter Tryz.func140, Tryz.ntmps140
    go_wp2_with (at_builtin; refine Lib.wpList_append_run _ rfl _ _ 44 3 rfl _ _ rfl rfl _ _ (Lib.run_append_grow_zeros _ 44 3 _ 22 i0 (U 0#64) .i64 .i64 Tryz.underlying44 Tryz.underlying3 hi hz0 (some ⟨q, 0, none⟩) 38 cap (cur.toList.take 38) ?hold 2 (by omega) (by omega) (by omega) (by omega) (by omega) ?hfit) ?_)
    case hold =>
      have := run_firstCells_some (P := Tryz.prog) w.drew i0.size 38 ⟨q, 0, none⟩ 38 cap (cur.toList.take 38) (by simp; omega) (fun j u hj => by
        rw [Addr.add_lit, zaw, zbk, hb, Option.bind_some, zaj, Nat.zero_add]
        rw [List.getElem?_take] at hj
        split at hj
        · simpa using hj
        · cases hj)
      exact this
    case hfit =>
      have : cap = 38 ∨ cap = 39 := by omega
      rw [hz2]
      rcases this with rfl | rfl <;> decide
    go_ret
    exact ⟨_, rfl, (((Ch.refl [] w).drew).alloc _).of_nil⟩
  · obtain ⟨w2, hr2, hc2⟩ := run_append_fits_zeros (P := Tryz.prog) w 44 3 44 22 i0 (U 0#64) .i64 .i64 Tryz.underlying44 Tryz.underlying3 hi hz0 hz1 rfl rfl q 38 cap 2 cur 22 hb hsz' (by omega) (by omega) (by omega) (by omega)
    go_enter Tryz.func140, Tryz.ntmps140
    go_wp2_with (at_builtin; refine Lib.wpList_append_run _ rfl _ _ 44 3 rfl _ _ rfl rfl _ _ hr2 ?_)
    go_ret
    exact ⟨_, rfl, hc2⟩
end Go.Proofs.Hc
namespace Go.Proofs.Hc
open Go.RowKit
attribute [local go_sem] zbv zcb zba zbf zbr zbd zbq zbs zbx signed64 signed8 zap BitVec.ofInt_add BitVec.ofInt_mul ofInt_sub' zbb zbc wide8 eqN neN zca shr1 shr7 shr56
attribute [local go_sem high] zbe zbw
attribute [local go_sem] zaw zby zaj zas zae zay zar zak zbn zam zax zaz
attribute [local go_sem] load26 load73 load23 store26 build73
attribute [local go_sem ↓] lrow26 lrow73 lrow23 srow26 zero26 brow73 zac zbk zbg zaa zab
attribute [local go_sem] zai zav zau zbj zbl zbo zaq zat zbp zbi zbh
attribute [local go_sem] nn2 nm2 nn3 nm3 nn4 nm4 nn5 nm5 nn6 nm6 nn7 nm7 nn8 nm8
section
attribute [local go_sem] box26 zcc cell0 cell1 cell2 cell3 cell4
theorem rowAt_part {w : World} {b o n : Nat} {cs : Array Value} {T : TypeId} {fr : Nat × Nat} (hb : w.heap[b]? = some (.cells cs T fr)) (h1 : allOne cs = true) : RowAt w b o (cs.extract o (o + n)).toList := by
  refine ⟨(Array.getElem?_eq_some_iff.1 hb).1, fun u hu => ?_, fun j u hj => ?_⟩
  · have hm : u ∈ cs := by
      have h2 : u ∈ cs.extract o (o + n) := Array.mem_toList_iff.1 hu
      obtain ⟨k, hk, rfl⟩ := Array.mem_iff_getElem.1 h2
      simp
    exact (Array.all_eq_true_iff_forall_mem.1 (show cs.all (·.oneCell') = true from h1)) u hm
  · rw [zaw, hb, Option.bind_some, zaj]
    have h2 : (cs.extract o (o + n))[j]? = some u := by rw [← Array.getElem?_toList]; exact hj
    rw [Array.getElem?_extract] at h2
    split at h2
    · exact h2
    · cases h2
theorem part_len (cs : Array Value) (o n : Nat) (h : o + n ≤ cs.size) : (cs.extract o (o + n)).toList.length = n := by simp; omega
theorem words_bad (t : Tab) (hf : flatT t = false) (w : World) : Calls Tryz.prog 74 #[.agg (tcells t)] w fun e w' => e = .returned (.tuple #[.slice none 0 0, I 260]) ∧ Ch [] w w' := by
  have F1 := fun w => flat_any t w
  rw [hf] at F1
  clear hf
  go_enter Tryz.func74, Tryz.ntmps74
  go_wp2_with (go_at_call 109; refine (F1 _).mono ?_; rintro e w1 ⟨rfl, hc1⟩)
  go_ret2
  exact ⟨rfl, ((Ch.refl [] w).alloc _).trans hc1⟩
theorem words_ok (t : Tab) (hf : flatT t = true) (w : World) : Calls Tryz.prog 74 #[.agg (tcells t)] w fun e w' => ∃ v, e = .returned (.tuple #[v, I 0]) ∧ Ch [] w w' := by
  have F1 := fun w => flat_any t w
  rw [hf] at F1
  clear hf
  go_enter Tryz.func74, Tryz.ntmps74
  go_wp2_with (go_at_call 109; refine (F1 _).mono ?_; rintro e w1 ⟨rfl, hc1⟩; have hb1 : w1.heap[w.heap.size]? = some (.cells (tcells t) 26 (0, 0)) := (hc1.block _ (by simp) (by simp)).trans (by simp [go_sem]))
  obtain ⟨x0, hx0⟩ : ∃ x, N (BitVec.ofInt 64 t.depth ||| t.pre * 256#64) = x := ⟨_, rfl⟩
  obtain ⟨x1, hx1⟩ : ∃ x, N (BitVec.ofInt 64 t.can) = x := ⟨_, rfl⟩
  obtain ⟨x2, hx2⟩ : ∃ x, N (BitVec.ofInt 64 t.live) = x := ⟨_, rfl⟩
  rw [hx0, hx1, hx2]
  clear hx0 hx1 hx2
  obtain ⟨W0, hW0⟩ : ∃ W0, w1.alloc (.cells #[U t.count, .int .u64 x0, .int .u64 x1, .int .u64 x2] 22) = W0 := ⟨_, rfl⟩
  have hsz := hc1.size
  simp only [World.size_alloc] at hsz
  have hC0 : Ch [] w W0 := by rw [← hW0]; exact (((Ch.refl [] w).alloc _).trans hc1).alloc _
  have b0 : W0.heap[w.heap.size]? = some (.cells (tcells t) 26 (0, 0)) := by rw [← hW0, zac, if_neg (by omega)]; exact hb1
  have b1 : W0.heap[w1.heap.size]? = some (.cells #[U t.count, .int .u64 x0, .int .u64 x1, .int .u64 x2] 22 (0, 0)) := by rw [← hW0]; simp [go_sem]
  have hn : w.heap.size < W0.heap.size ∧ w1.heap.size < W0.heap.size := by rw [← hW0]; simp; omega
  rw [hW0]
  clear hW0 hb1 hc1
  refine zdh 7 (by kernel_rfl) (by kernel_rfl) ?_
  simp only [List.take_succ_cons, List.take_zero, List.drop_succ_cons, List.drop_zero]
  repeat (go_big_quiet_step (fail))
  refine wpQuiet_nil ?_
  rintro w2 ⟨g1, hw1⟩
  have hc1 : Ch [] W0 w2 := by rw [hw1]; exact g1.2
  clear hw1 g1
  have hz2 := hc1.size
  have d0 := (hc1.block _ hn.1 (by simp)).trans b0
  have d1 := (hc1.block _ hn.2 (by simp)).trans b1
  clear b0 b1
  go_wp2_with fail
  refine (concat4 w2.heap.size 4 2 16 16 w1.heap.size w.heap.size w.heap.size w.heap.size 0 5 7 23 ((#[U t.count, .int .u64 x0, .int .u64 x1, .int .u64 x2] : Array Value).extract 0 (0 + 4)).toList ((tcells t).extract 5 (5 + 2)).toList ((tcells t).extract 7 (7 + 16)).toList ((tcells t).extract 23 (23 + 16)).toList _ (by rw [zac, if_pos rfl])
         (part_len _ _ _ (by simp)) (part_len _ _ _ (by rw [zai]; omega)) (part_len _ _ _ (by rw [zai]; omega)) (part_len _ _ _ (by rw [zai]; omega))
         ((rowAt_part d1 (by simp [allOne, Value.oneCell'])).ch ((Ch.refl [] w2).alloc _)) ((rowAt_part d0 (zbl t)).ch ((Ch.refl [] w2).alloc _)) ((rowAt_part d0 (zbl t)).ch ((Ch.refl [] w2).alloc _)) ((rowAt_part d0 (zbl t)).ch ((Ch.refl [] w2).alloc _))).mono ?_
  rintro e w3 ⟨v, rfl, hown, hc3⟩
  have hob := own_block hown
  have P1 := padded38 _ v _ w3 hown
  clear hown
  go_wp2_with (go_at_call 140; refine P1.mono ?_; rintro e w4 ⟨v', rfl, hc4⟩)
  go_ret2
  refine ⟨v', rfl, ?_⟩
  have hC3 : Ch [] w w3 := ((hC0.trans hc1).alloc _).trans hc3
  simp only [World.size_alloc] at hob
  exact hC3.trans2 hc4 (fun s hs => .inr (by have := hob s (by simpa using hs); omega))
end
section
attribute [local go_sem] zao
attribute [local go_sem] box26 zcc cell0 cell1 cell2 cell3 cell4
theorem zcn (t : Tab) (s : BitVec 64) (i : Nat) (h : i < (hcells t s).size) : (hcells t s)[i] = if i = 39 then U s else t.cell i := by simp [hcells]
theorem zcm (t : Tab) (s : BitVec 64) : (hcells t s).pop = tcells t := by
  rw [← zaq t s, Array.extract_eq_pop (by rw [zav])]
attribute [local go_sem] zcn zcm
theorem h2_any (b : Nat) (t : Tab) (s k : BitVec 64) (w : World) (hb : w.heap[b]? = some (.cells (hcells t s) 141 (0, 0))) :
    Calls Tryz.prog 169 #[.pointer (some ⟨b, 0, none⟩), U k] w fun e w' => e = .returned (Y (hash2 (hashOf s k))) ∧ w = w' := by
  have H1 := fun w => hashOf_any s k w
  generalize hashOf s k = h at *
  have H2 := fun w => hash2_any h w
  generalize hash2 h = h2 at *
  go_enter Tryz.func169, Tryz.ntmps169
  go_wp2_with (first
    | (go_at_call 67; refine (H1 _).mono ?_; rintro e w' ⟨rfl, rfl⟩)
    | (go_at_call 232; refine (H2 _).mono ?_; rintro e w' ⟨rfl, rfl⟩))
  go_ret
  exact ⟨rfl, rfl⟩
theorem goes_any (b : Nat) (t : Tab) (s k : BitVec 64) (w : World) (hb : w.heap[b]? = some (.cells (hcells t s) 141 (0, 0))) :
    Calls Tryz.prog 84 #[.pointer (some ⟨b, 0, none⟩), U k] w fun e w' => e = .returned (.bool (hasT t (hashOf s k))) ∧ Ch [] w w' := by
  have H1 := fun w => hashOf_any s k w
  generalize hashOf s k = h at *
  have H2 := fun w => has_any t h w
  generalize hasT t h = r at *
  have hl := (Array.getElem?_eq_some_iff.1 hb).1
  have hg : ∀ g : Gar w, (g.1).heap[b]? = some (.cells (hcells t s) 141 (0, 0)) := fun g => (g.2.block b hl (by simp)).trans hb
  clear hl hb
  go_enter Tryz.func84, Tryz.ntmps84
  go_wp2
  refine wp_region_gar (by kernel_rfl) (by kernel_rfl) ?_
  repeat (go_big_quiet_step ((first | (go_at_call 67; exact garL (H1 _)) | (go_at_call 68; exact garC (H2 _)))))
  refine wpQuiet_nil ?_
  rintro w1 ⟨g1, hw1⟩
  have hc1 : Ch [] w w1 := by rw [hw1]; exact g1.2
  clear hw1 g1 hg
  go_wp2
  go_ret
  exact ⟨rfl, hc1⟩
theorem row_make (b : Nat) (k : BitVec 64) (w : World) :
    Calls Tryz.prog 207 #[.pointer (some ⟨b, 0, none⟩), U k] w fun e w' => e = .returned (.func (.func 258) #[] #[.pointer (some ⟨w.heap.size, 0, none⟩), .pointer (some ⟨w.heap.size + 1, 0, none⟩)]) ∧
      w' = (w.alloc (.cells #[.pointer (some ⟨b, 0, none⟩)] 137)).alloc (.cells #[U k] 22) := by
  go_enter Tryz.func207, Tryz.ntmps207
  go_wp2
  go_ret
  exact ⟨rfl, rfl⟩
theorem slots_make (b : Nat) (w : World) :
    Calls Tryz.prog 144 #[.pointer (some ⟨b, 0, none⟩)] w fun e w' => e = .returned (.func (.func 217) #[] #[.pointer (some ⟨w.heap.size, 0, none⟩)]) ∧
      w' = w.alloc (.cells #[.pointer (some ⟨b, 0, none⟩)] 137) := by
  go_enter Tryz.func144, Tryz.ntmps144
  go_wp2
  go_ret
  exact ⟨rfl, rfl⟩
end
section
attribute [local go_sem] zap
theorem half_shr (h : BitVec 64) (j : Nat) : (N (h >>> j)).tdiv 2 = N (h >>> (j + 1)) := by
  rw [Int.tdiv_eq_ediv_of_nonneg (N_nonneg _)]
  unfold N
  rw [BitVec.toNat_ushiftRight, BitVec.toNat_ushiftRight, Nat.shiftRight_succ]
  simp
theorem topT_shr (h : BitVec 64) (d : Nat) (hd : d ≤ 5) : h >>> (64 - d) = topT h d := by
  unfold topT
  rw [← BitVec.shiftRight_add]
  congr 1
  omega
theorem rTop_any (h : BitVec 64) (d : Nat) (hd : d ≤ 5) (w : World) : Calls Tryz.prog 152 #[U h, I d] w fun e w' => e = .returned (U (topT h d)) ∧ w = w' := by
  have hT := topT_shr h d hd
  go_enter Tryz.func152, Tryz.ntmps152
  go_wp2
  go_loop [0, 7] (fun v i => ∃ j : Nat, j ≤ 64 - d ∧ i = .int .i64 j ∧ v = U (h >>> j)) (fun _ i => 64 - d - (intOf i).toNat)
  case atStart => exact ⟨0, by omega, rfl, by simp⟩
  case round =>
    obtain ⟨j, hj, rfl, rfl⟩ := hrel
    by_cases hlt : j < 64 - d
    · have HS := Lib.hid (half_shr h j)
      generalize h >>> j = m at *
      go_wp2
      go_round
      case rel => exact ⟨j + 1, by omega, by go_num, by rw [HS.out, zap]⟩
      case measure => simp [intOf]; omega
    · have hjn : j = 64 - d := by omega
      subst hjn
      rw [hT] at *
      go_wp2
      go_ret
      exact ⟨rfl, rfl⟩
end
end Go.Proofs.Hc
