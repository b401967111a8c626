/- Leaf contracts: words, bytes, hashes. -/
import Derived.Test.YtmfajobocpaimaaGreatKHq
import Derived.Test.YtmfajobocpaimaaGreatKHr
import Derived.Below
import Derived.BigQuiet
import Derived.Deep.Draws
import Derived.Deep.QuietTactic
import Derived.Lib.Hide
import Derived.RangeFuncRecord
import Derived.Test.YtmfajobocpaimaaGreatProg
import Derived.WalkKit
import Derived.Laws.CopyRow
import Derived.Laws.Tables
import Derived.Deep.Light
import Derived.Deep.RegionHeld
import Derived.Laws.StructEq
import Derived.Lib.AppendZerosOnto
import Derived.Lib.Tables
import Derived.Lib.Walk
import Derived.LoopIn
import Derived.LoopN
import Derived.LoopNIn
import Derived.Maps.AppendAt
import Derived.Maps.Views
import Derived.OwnWalkIn
import Derived.RangeFuncBox
import Derived.RangeFuncCalls
import Derived.RangeFuncSeq
import Derived.Recover
import Derived.RegionTactic
import Derived.Shelf.Slices.Clone
import Derived.StillTail
import Derived.StillTailTactics
import Derived.TacticsInMore
import Derived.WalkLawsBesides
import Derived.WalkMore
import Derived.WalkSpells
import Derived.OpenShut
import Derived.ProofKit
import Derived.Deep.Slices
set_option linter.unusedSimpArgs false
set_option linter.unusedVariables false
namespace Go.Proofs.Hc
open Go.RowKit
def lows : BitVec 64 := 0x7f7f7f7f7f7f7f7f#64
def tops : BitVec 64 := 0x8080808080808080#64
def ones : BitVec 64 := 0x0101010101010101#64
def byteAt (x : BitVec 64) (n : Nat) : BitVec 8 := (x >>> (8 * n)).setWidth 8
def withB (x : BitVec 64) (n : Nat) (b : BitVec 8) : BitVec 64 := (x &&& ~~~(255#64 <<< (8 * n))) ||| (b.setWidth 64 <<< (8 * n))
def noughts (x : BitVec 64) : BitVec 64 := ~~~(((x &&& lows) + lows) ||| x ||| lows)
def gathered (x : BitVec 64) : BitVec 8 := (((x >>> 7) * 0x0102040810204080#64) >>> 56).setWidth 8
def fillB (b : BitVec 8) : BitVec 64 := b.setWidth 64 * ones
def alike (v w : BitVec 64) : BitVec 8 := gathered (noughts (v ^^^ w))
def equalM (w : BitVec 64) (b : BitVec 8) : BitVec 8 := alike w (fillB b)
def lessM (x y : BitVec 64) : BitVec 64 := ~~~((x ||| tops) - (y &&& lows)) &&& tops
def belowM (x : BitVec 64) (b : BitVec 8) : BitVec 8 := gathered ((~~~x &&& fillB b &&& tops) ||| (~~~(x ^^^ fillB b) &&& lessM x (fillB b)))
def mixF (x : BitVec 64) (n : Nat) : BitVec 64 := x ^^^ (x >>> n)
def hashOf (s k : BitVec 64) : BitVec 64 := mixF (mixF ((k ^^^ s) * 0xbf58476d1ce4e5b9#64) 32 * 0x94d049bb133111eb#64) 29
def hash1 (h : BitVec 64) : BitVec 64 := h >>> 7
def hash2 (h : BitVec 64) : BitVec 8 := h.setWidth 8 &&& 127#8
attribute [local go_sem] wrap_u64 wrap_u8 bits_xor64 bits_and64 bits_or64 bits_not64 bits_xor8 bits_and8 bits_or8 signed64 signed8 ofInt_N BitVec.ofInt_add BitVec.ofInt_mul ofInt_sub' ofInt8_N64 ofInt64_N8 wide8 eqN neN shr_pow shr1 shr7 shr56
attribute [local go_sem high] bits_com64 shl_wrap
theorem shift_any (n : Nat) (w : World) (h : n < 8) :
    Calls Tryz.prog 248 #[I n] w fun e w' => e = .returned (I ((8 * n : Nat) : Int)) ∧ w = w' := by
  go_enter Tryz.func248, Tryz.ntmps248
  go_wp2
  go_ret
  exact ⟨by rw [show ((8 * n : Nat) : Int) = (n : Int) * 8 by omega]; rfl, rfl⟩
theorem noughts_any (x : BitVec 64) (w : World) :
    Calls Tryz.prog 257 #[U x] w fun e w' => e = .returned (U (noughts x)) ∧ w = w' := by
  go_enter Tryz.func257, Tryz.ntmps257
  go_wp2
  go_ret
  exact ⟨by unfold noughts lows; rfl, rfl⟩
theorem gathered_any (x : BitVec 64) (w : World) :
    Calls Tryz.prog 256 #[U x] w fun e w' => e = .returned (Y (gathered x)) ∧ w = w' := by
  go_enter Tryz.func256, Tryz.ntmps256
  go_wp2
  go_ret
  exact ⟨by unfold gathered; rfl, rfl⟩
theorem with_any (x : BitVec 64) (n : Nat) (b : BitVec 8) (w : World) (h : n < 8) :
    Calls Tryz.prog 261 #[U x, I n, Y b] w fun e w' => e = .returned (U (withB x n b)) ∧ Ch [] w w' := by
  go_enter Tryz.func261, Tryz.ntmps261
  go_wp2
  go_quiet ((go_at_call 248; exact quietL (shift_any _ _ h)))
  go_wp2
  go_ret
  exact ⟨by unfold withB; rfl, (Ch.refl [] w).drewN nq⟩
theorem fillB_any (b : BitVec 8) (w : World) :
    Calls Tryz.prog 188 #[Y b] w fun e w' => e = .returned (U (fillB b)) ∧ w = w' := by
  go_enter Tryz.func188, Tryz.ntmps188
  go_wp2
  go_ret
  exact ⟨by unfold fillB ones; rfl, rfl⟩
theorem alike_any (x y : BitVec 64) (w : World) :
    Calls Tryz.prog 246 #[U x, U y] w fun e w' => e = .returned (Y (alike x y)) ∧ w = w' := by
  go_enter Tryz.func246, Tryz.ntmps246
  go_wp2_with (first
    | (go_at_call 257; refine (noughts_any _ _).mono ?_; rintro e w' ⟨rfl, rfl⟩)
    | (go_at_call 256; refine (gathered_any _ _).mono ?_; rintro e w' ⟨rfl, rfl⟩))
  go_ret
  exact ⟨rfl, rfl⟩
theorem equal_any (x : BitVec 64) (b : BitVec 8) (w : World) :
    Calls Tryz.prog 208 #[U x, Y b] w fun e w' => e = .returned (Y (equalM x b)) ∧ w = w' := by
  go_enter Tryz.func208, Tryz.ntmps208
  go_wp2_with (first
    | (go_at_call 188; refine (fillB_any _ _).mono ?_; rintro e w' ⟨rfl, rfl⟩)
    | (go_at_call 246; refine (alike_any _ _ _).mono ?_; rintro e w' ⟨rfl, rfl⟩))
  go_ret
  exact ⟨rfl, rfl⟩
theorem hash1_any (h : BitVec 64) (w : World) :
    Calls Tryz.prog 195 #[U h] w fun e w' => e = .returned (U (hash1 h)) ∧ w = w' := by
  go_enter Tryz.func195, Tryz.ntmps195
  go_wp2
  go_ret
  exact ⟨rfl, rfl⟩
theorem hash2_any (h : BitVec 64) (w : World) :
    Calls Tryz.prog 204 #[U h] w fun e w' => e = .returned (Y (hash2 h)) ∧ w = w' := by
  go_enter Tryz.func204, Tryz.ntmps204
  go_wp2
  go_ret
  exact ⟨rfl, rfl⟩
end Go.Proofs.Hc
/- Tables as values: their cells. -/
namespace Go.Proofs.Hc
open Go.RowKit
structure Tab where
  count : BitVec 64
  depth : Int
  pre : BitVec 64
  can : Int
  live : Int
  c : Nat → BitVec 64
  k : Nat → BitVec 64
  v : Nat → BitVec 64
/-- The i-th cell of a table. -/
def Tab.cell (t : Tab) : Nat → Value
  | 0 => U t.count
  | 1 => I t.depth
  | 2 => U t.pre
  | 3 => I t.can
  | 4 => I t.live
  | 5 => U (t.c 0)
  | 6 => U (t.c 1)
  | i + 7 => if i < 16 then U (t.k i) else U (t.v (i - 16))
def tcells (t : Tab) : Array Value := Array.ofFn (n := 39) fun i => t.cell i.1
def hcells (t : Tab) (s : BitVec 64) : Array Value := Array.ofFn (n := 40) fun i => if i.1 = 39 then U s else t.cell i.1
def zeroT : Tab := ⟨0#64, 0, 0#64, 0, 0, fun _ => 0#64, fun _ => 0#64, fun _ => 0#64⟩
theorem tcells_size (t : Tab) : (tcells t).size = 39 := by simp [tcells]
theorem hcells_size (t : Tab) (s : BitVec 64) : (hcells t s).size = 40 := by simp [hcells]
theorem tcells_get (t : Tab) (i : Nat) : (tcells t)[i]? = if i < 39 then some (t.cell i) else none := by
  unfold tcells; rw [Array.getElem?_ofFn]; simp
theorem hcells_get (t : Tab) (s : BitVec 64) (i : Nat) : (hcells t s)[i]? = if i < 40 then some (if i = 39 then U s else t.cell i) else none := by
  unfold hcells; rw [Array.getElem?_ofFn]; simp
theorem cell_one (t : Tab) (i : Nat) : (t.cell i).oneCell' = true := by
  unfold Tab.cell; split <;> try rfl
  split <;> rfl
theorem tcells_one (t : Tab) : allOne (tcells t) = true := by
  unfold allOne
  simp only [tcells, Array.all_eq_true_iff_forall_mem, Array.mem_ofFn]; rintro v ⟨i, rfl⟩; exact cell_one ..
theorem hcells_one (t : Tab) (s : BitVec 64) : allOne (hcells t s) = true := by
  unfold allOne
  simp only [hcells, Array.all_eq_true_iff_forall_mem, Array.mem_ofFn]; rintro v ⟨i, rfl⟩; split; rfl; exact cell_one ..
theorem hcells_table (t : Tab) (s : BitVec 64) : (hcells t s).extract 0 39 = tcells t := by
  apply Array.ext_getElem?; intro i
  rw [Array.getElem?_extract, tcells_get, hcells_get, hcells_size]
  by_cases h : i < 39
  · simp [h, show i < 40 by omega, show i ≠ 39 by omega]
  · simp [h]
theorem tcells_table (t : Tab) : (tcells t).extract 0 39 = tcells t := by
  have := Array.extract_size (xs := tcells t); rwa [tcells_size] at this
theorem hcells_all (t : Tab) (s : BitVec 64) : (hcells t s).extract 0 40 = hcells t s := by
  have := Array.extract_size (xs := hcells t s); rwa [hcells_size] at this
theorem hcells_ctrl (t : Tab) (s : BitVec 64) : (hcells t s).extract 5 7 = #[U (t.c 0), U (t.c 1)] := by
  apply Array.ext_getElem?; intro i
  rw [Array.getElem?_extract, hcells_get, hcells_size]
  match i with
  | 0 => simp [Tab.cell]
  | 1 => simp [Tab.cell]
  | i + 2 => simp; omega
theorem tcells_ctrl (t : Tab) : (tcells t).extract 5 7 = #[U (t.c 0), U (t.c 1)] := by
  apply Array.ext_getElem?; intro i
  rw [Array.getElem?_extract, tcells_get, tcells_size]
  match i with
  | 0 => simp [Tab.cell]
  | 1 => simp [Tab.cell]
  | i + 2 => simp; omega
theorem hset {t t' : Tab} {s s' : BitVec 64} {j : Nat} {x : Value} (hj : j < 39) (hx : t'.cell j = x) (ho : ∀ i, i < 39 → i ≠ j → t'.cell i = t.cell i) (hs : s = s') :
    (hcells t s).setIfInBounds j x = hcells t' s' := by
  subst hs
  apply Array.ext_getElem?; intro i
  rw [Array.getElem?_setIfInBounds, hcells_get, hcells_get, hcells_size]
  by_cases h : j = i
  · subst h; simp [show j < 40 by omega, show j ≠ 39 by omega, hx]
  · rw [if_neg h]
    by_cases h2 : i < 40
    · simp only [h2, if_true]
      by_cases h3 : i = 39
      · simp [h3]
      · simp only [h3, if_false]; rw [ho i (by omega) (fun e => h e.symm)]
    · simp [h2]
theorem hset_ctrl (t : Tab) (s : BitVec 64) (g : Nat) (hg : g < 2) (x : BitVec 64) : (hcells t s).setIfInBounds (5 + g) (U x) = hcells { t with c := fun i => if i = g then x else t.c i } s := by
  refine hset (by omega) ?_ (fun i _ h => ?_) rfl
  · match g, hg with
    | 0, _ => rfl
    | 1, _ => rfl
  · unfold Tab.cell
    split <;> first | rfl | skip
    · simp [show (0 : Nat) ≠ g by omega]
    · simp [show (1 : Nat) ≠ g by omega]
/- What the walk does with whole tables. -/
theorem load26 (g o : Nat) (w : World) : (loadRow 26 ⟨g, o, none⟩).run Tryz.prog w = rowRes Tryz.prog 26 g o w ((w.heap[g]?).bind (rowAt o 39)) :=
  run_row Tryz.underlying26 rfl (by kernel_rfl) g o w
theorem load73 (g o : Nat) (w : World) : (loadRow 112 ⟨g, o, none⟩).run Tryz.prog w = rowRes Tryz.prog 112 g o w ((w.heap[g]?).bind (rowAt o 40)) :=
  run_row Tryz.underlying112 rfl (by kernel_rfl) g o w
theorem load23 (g o : Nat) (w : World) : (loadRow 23 ⟨g, o, none⟩).run Tryz.prog w = rowRes Tryz.prog 23 g o w ((w.heap[g]?).bind (rowAt o 2)) :=
  run_row Tryz.underlying23 rfl (by kernel_rfl) g o w
theorem store26 (g o : Nat) (vs : Array Value) (w : World) : (storeRow 26 ⟨g, o, none⟩ (.agg vs)).run Tryz.prog w = layRes Tryz.prog 26 g o vs w (((w.heap[g]?).map (canLay o 39 vs)).getD false) :=
  run_lay (by kernel_rfl) g o vs w
theorem lrow26 (a : Addr) : loadVar 26 a = loadRow 26 a := rfl
theorem lrow73 (a : Addr) : loadVar 112 a = loadRow 112 a := rfl
theorem lrow23 (a : Addr) : loadVar 23 a = loadRow 23 a := rfl
theorem srow26 (a : Addr) (v : Value) : storeVar 26 a v = storeRow 26 a v := rfl
theorem zero26 (w : World) : (zeroValue 26).run Tryz.prog w = .ok (.agg (tcells zeroT)) w := by kernel_rfl
theorem brow73 (ps : Array (Nat × Value)) : Instr.build 112 ps = buildRow 112 ps := rfl
theorem build73 (t : Tab) (s : BitVec 64) (w : World) : (buildRow 112 #[(0, .agg (tcells t)), (1, U s)]).run Tryz.prog w = .ok (.agg (hcells t s)) w := by kernel_rfl
end Go.Proofs.Hc
/- The references of layer 7: two words turned bit by bit, folded, a key's hash. -/
namespace Go.Proofs.Hc
open Go.RowKit
attribute [local go_sem] wrap_u64 wrap_u8 bits_xor64 bits_and64 bits_or64 bits_not64 bits_xor8 bits_and8 bits_or8 signed64 signed8 ofInt_N BitVec.ofInt_add BitVec.ofInt_mul ofInt_sub' ofInt8_N64 ofInt64_N8 wide8 eqN neN shr_pow shr1 shr7 shr56
attribute [local go_sem high] bits_com64 shl_wrap
attribute [local go_sem] cell_heap ice_heap cellAt_cells iceAt_cells setAt_cells rowAt_cells canLay_cells laidAt_cells size_onObj size_setCell rowRes_some layRes_true
attribute [local go_sem] load26 load73 load23 store26 build73
attribute [local go_sem ↓] lrow26 lrow73 lrow23 srow26 zero26 brow73 heap_alloc heap_drew heap_drewN heap_setCell heap_onObj
attribute [local go_sem] tcells_size hcells_size tcells_get hcells_get tcells_one hcells_one hcells_table tcells_table hcells_all hcells_ctrl tcells_ctrl
attribute [local go_sem] nn2 nm2 nn3 nm3 nn4 nm4 nn5 nm5 nn6 nm6 nn7 nm7 nn8 nm8
attribute [local go_sem] nn2 nm2 nn3 nm3 nn4 nm4 nn5 nm5 nn6 nm6 nn7 nm7 nn8 nm8
attribute [local go_sem] ofInt_N
theorem rH1_any (h : BitVec 64) (w : World) : Calls Tryz.prog 131 #[U h] w fun e w' => e = .returned (U (hash1 h)) ∧ w = w' := by
  have h1 : (N h).tdiv 128 = N (hash1 h) := by
    rw [Int.tdiv_eq_ediv_of_nonneg (N_nonneg h)]
    unfold N hash1
    rw [BitVec.toNat_ushiftRight, Nat.shiftRight_eq_div_pow]
    simp
  generalize hash1 h = r at *
  go_enter Tryz.func131, Tryz.ntmps131
  go_wp2
  go_ret
  exact ⟨rfl, rfl⟩
theorem rH2_any (h : BitVec 64) (w : World) : Calls Tryz.prog 127 #[U h] w fun e w' => e = .returned (Y (hash2 h)) ∧ w = w' := by
  have h1 : (N h).tmod 128 = N (hash2 h) := by
    rw [Int.tmod_eq_emod_of_nonneg (N_nonneg h)]
    unfold N hash2
    rw [BitVec.toNat_and, BitVec.toNat_setWidth]
    have : h.toNat % 2 ^ 8 &&& (127#8).toNat = h.toNat % 128 := by
      show h.toNat % 2 ^ 8 &&& (2 ^ 7 - 1) = _
      rw [Nat.and_two_pow_sub_one_eq_mod]
      omega
    rw [this]
    rfl
  generalize hash2 h = r at *
  go_enter Tryz.func127, Tryz.ntmps127
  go_wp2
  go_ret
  exact ⟨rfl, rfl⟩
end Go.Proofs.Hc
/- Arguments of the statements, opened: a seed, a table. -/
namespace Go.Proofs.Hc
open Go.ChangeShapes Go.WideShapes Go.ChangeAt Go.RowKit
theorem wfr_u64 {n : Int} (h : (Lit.int .u64 n).wf = true) : 0 ≤ n ∧ n < 18446744073709551616 := by
  have : 0 ≤ n ∧ n ≤ 18446744073709551615 := by simpa [Lit.wf, IntKind.min, IntKind.max, IntKind.signed, IntKind.bits] using h
  omega
theorem U_of {n : Int} (h : (Lit.int .u64 n).wf = true) : U (BitVec.ofInt 64 n) = .int .u64 n := by
  obtain ⟨h0, h1⟩ := wfr_u64 h
  show Value.int .u64 (N (BitVec.ofInt 64 n)) = _
  have : N (BitVec.ofInt 64 n) = n := by
    unfold N
    rw [BitVec.toNat_ofInt]
    have e : ((2 ^ 64 : Nat) : Int) = 18446744073709551616 := by decide
    rw [e, Int.emod_eq_of_lt h0 h1]
    omega
  rw [this]
section
variable {H : Type} {enc : TypeId × Value → H} {w : World} {base : Nat} {spare : Nat → Bool} {held : Bool}
theorem one_cell {cs : List Value} {o : Nat} {v : Value} (h : (cs.drop o).take 1 = [v]) : cs[o]? = some v := by
  have := congrArg (fun l => l[0]?) h
  simpa using this
theorem cells_u64 : Tryz.prog.cellsOf 22 = 1 := by kernel_rfl
theorem cells_int : Tryz.prog.cellsOf 3 = 1 := by kernel_rfl
theorem field_at {fs : Array Field} {l : List (TypeId × Nat)} (h : fs.toList.map (fun f => (f.type, f.offset)) = l) {i : Nat} {t o : Nat} (hi : l[i]? = some (t, o)) : ∃ f, fs[i]? = some f ∧ f.type = t ∧ f.offset = o := by
  rw [← h, List.getElem?_map] at hi
  cases hf : fs.toList[i]? with
  | none => rw [hf] at hi; cases hi
  | some f =>
    rw [hf] at hi
    simp only [Option.map_some, Option.some.injEq, Prod.mk.injEq] at hi
    exact ⟨f, by simpa using hf, hi.1, hi.2⟩
theorem drop_take_get {cs : List Value} {o n i : Nat} {v : Value} (h : ((cs.drop o).take n)[i]? = some v) : cs[o + i]? = some v := by
  rw [List.getElem?_take] at h
  split at h
  · rwa [List.getElem?_drop] at h
  · cases h
end
end Go.Proofs.Hc
/- Arguments of the statements, opened: rows of keys, rows of pairs. -/
namespace Go.Proofs.Hc
open Go.ChangeShapes Go.WideShapes Go.ChangeAt Go.RowKit
section
variable {H : Type} {enc : TypeId × Value → H} {w : World} {base : Nat} {held : Bool}
/-- A row of keys that came in. -/
def KeysIn (w : World) (a : Option Addr) (n : Nat) (ks : Nat → BitVec 64) : Prop := ∀ j, j < n → ∃ kb ko, a = some ⟨kb, ko, none⟩ ∧ kb < w.heap.size ∧ (w.heap[kb]?).bind (cellAt (ko + j)) = some (U (ks j))
theorem cell_in {w : World} {b o : Nat} {v : Value} (h : w.cell? ⟨b, o, none⟩ = some v) : b < w.heap.size ∧ (w.heap[b]?).bind (cellAt o) = some v := by
  rw [cell_heap] at h
  refine ⟨?_, h⟩
  cases hb : w.heap[b]? with
  | none => rw [hb] at h; cases h
  | some x => exact (Array.getElem?_eq_some_iff.1 hb).1
set_option maxRecDepth 100000 in
theorem open_keys {r : Reach} {b0 : Nat} {v : Value} {d : DataW H} {p : List MemPlace} (hv : Value.okWide Tryz.prog w r b0 53 v) (h : DataW.Trod enc Tryz.prog w 0 (fun _ => true) held 53 v d p) :
    ∃ a n c ks, v = .slice a n c ∧ n ≤ 9223372036854775807 ∧ KeysIn w a n ks := by
  obtain ⟨a, n, c, rfl⟩ := okWide_slice Tryz.underlying53 hv
  obtain ⟨fuel, hf⟩ := h
  rcases open_ints Tryz.underlying53 Tryz.underlying22 cells_u64 hf with ⟨hcs, _⟩ | ⟨x, l, c', zs, hcs, _, hl, hm, hz, _, hcell, hwz⟩
  · simp [Value.cells] at hcs
    obtain ⟨rfl, rfl, rfl⟩ := hcs
    exact ⟨none, 0, 0, fun _ => 0#64, rfl, by omega, fun j hj => by omega⟩
  · simp [Value.cells] at hcs
    obtain ⟨rfl, rfl, rfl⟩ := hcs
    simp only [if_true] at hz
    unfold maxLen at hm
    refine ⟨some x, n, c, fun j => BitVec.ofInt 64 (zs.getD j 0), rfl, by omega, fun j hj => ?_⟩
    obtain ⟨b, off, rfl, hc⟩ := ints_at hcell (by omega)
    have h1 := hc j (by omega)
    have hmem : zs.getD j 0 ∈ zs := by
      rw [List.getD_eq_getElem?_getD, List.getElem?_eq_getElem (by omega)]
      exact List.getElem_mem _
    rw [← U_of (hwz _ hmem)] at h1
    obtain ⟨h2, h3⟩ := cell_in h1
    exact ⟨b, off, rfl, h2, h3⟩
end
end Go.Proofs.Hc
