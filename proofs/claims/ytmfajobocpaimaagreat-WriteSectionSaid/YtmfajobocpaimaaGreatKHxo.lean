/- Package table: bare tables, and the pairs of full slots. -/
import Derived.Test.YtmfajobocpaimaaGreatKHmet
import Derived.Test.YtmfajobocpaimaaGreatKHg
import Derived.Test.YtmfajobocpaimaaGreatKHm
import Derived.Test.YtmfajobocpaimaaGreatKHma
import Derived.Test.YtmfajobocpaimaaGreatKHmy
import Derived.Test.YtmfajobocpaimaaGreatKHrw
import Derived.Test.YtmfajobocpaimaaGreatKHh
import Derived.Test.YtmfajobocpaimaaGreatKHni
import Derived.Test.YtmfajobocpaimaaGreatKHxh
import Derived.Below
import Derived.BigQuiet
import Derived.Deep.Draws
import Derived.Deep.Light
import Derived.Deep.QuietTactic
import Derived.Deep.RegionHeld
import Derived.Laws.CopyRow
import Derived.Laws.Tables
import Derived.Lib.AppendZerosOnto
import Derived.Lib.Hide
import Derived.Lib.Tables
import Derived.Lib.Walk
import Derived.LoopIn
import Derived.LoopN
import Derived.LoopNIn
import Derived.Maps.AppendAt
import Derived.Maps.Views
import Derived.OwnWalkIn
import Derived.RangeFuncBox
import Derived.RangeFuncCalls
import Derived.RangeFuncRecord
import Derived.RangeFuncSeq
import Derived.Recover
import Derived.RegionTactic
import Derived.Shelf.Slices.Clone
import Derived.StillTail
import Derived.StillTailTactics
import Derived.TacticsInMore
import Derived.Test.YtmfajobocpaimaaGreatProg
import Derived.WalkKit
import Derived.WalkLawsBesides
import Derived.WalkMore
import Derived.WalkSpells
import Derived.Laws.StructEq
set_option linter.unusedSimpArgs false
set_option linter.unusedVariables false
namespace Go.Proofs.Hc
open Go.RowKit
attribute [local go_sem] wrap_u64 wrap_u8 bits_xor64 bits_and64 bits_or64 bits_not64 bits_xor8 bits_and8 bits_or8 signed64 signed8 ofInt_N BitVec.ofInt_add BitVec.ofInt_mul ofInt_sub' ofInt8_N64 ofInt64_N8 wide8 eqN neN shr_pow shr1 shr7 shr56
attribute [local go_sem high] bits_com64 shl_wrap
attribute [local go_sem] cell_heap ice_heap cellAt_cells iceAt_cells setAt_cells rowAt_cells canLay_cells laidAt_cells size_onObj size_setCell rowRes_some layRes_true
attribute [local go_sem] load26 load73 load23 store26 build73
attribute [local go_sem ↓] lrow26 lrow73 lrow23 srow26 zero26 brow73 heap_alloc heap_drew heap_drewN heap_setCell heap_onObj
attribute [local go_sem] tcells_size hcells_size tcells_get hcells_get tcells_one hcells_one hcells_table tcells_table hcells_all hcells_ctrl tcells_ctrl
attribute [local go_sem] nn2 nm2 nn3 nm3 nn4 nm4 nn5 nm5 nn6 nm6 nn7 nm7 nn8 nm8
attribute [local go_sem] nn2 nm2 nn3 nm3 nn4 nm4 nn5 nm5 nn6 nm6 nn7 nm7 nn8 nm8
attribute [local go_sem] Oper.semAt_some make_func1
attribute [local go_sem] box26 tcells_idx cell0 cell1 cell2 cell3 cell4 hcells_idx hcells_pop
attribute [local go_sem] cell5 cell6
theorem tset_ctrl (t : Tab) (g : Nat) (hg : g < 2) (x : BitVec 64) : (tcells t).setIfInBounds (5 + g) (U x) = tcells { t with c := fun i => if i = g then x else t.c i } := by
  have h := hset_ctrl t 0#64 g hg x
  have h2 := congrArg (fun a => a.extract 0 39) h
  simp only [hcells_table] at h2
  rw [← h2, ← hcells_table t 0#64]
  apply Array.ext_getElem?; intro i
  by_cases hi : i = 5 + g
  · subst hi
    simp [hcells_size, show 5 + g < 39 by omega]
  · rw [Array.getElem?_setIfInBounds_ne (fun e => hi e.symm), Array.getElem?_extract, Array.getElem?_extract]
    simp only [Array.size_setIfInBounds]
    split
    · rw [Array.getElem?_setIfInBounds_ne (by omega)]
    · rfl
theorem tset5 (t : Tab) (x : BitVec 64) : (tcells t).setIfInBounds 5 (U x) = tcells { t with c := fun i => if i = 0 then x else t.c i } := tset_ctrl t 0 (by omega) x
theorem tset6 (t : Tab) (x : BitVec 64) : (tcells t).setIfInBounds 6 (U x) = tcells { t with c := fun i => if i = 1 then x else t.c i } := tset_ctrl t 1 (by omega) x
theorem laidAt_t (a b : Tab) (T : TypeId) (fr : Nat × Nat) : laidAt 0 (tcells b) (.cells (tcells a) T fr) = .cells (tcells b) T fr := by
  rw [laidAt_cells, laid_whole _ _ (by rw [tcells_size, tcells_size])]
theorem brow26 (ps : Array (Nat × Value)) : Instr.build 26 ps = buildRow 26 ps := rfl
theorem build_bare (c : BitVec 64) (d : Int) (p : BitVec 64) (w : World) : (buildRow 26 #[(0, U c), (1, I d), (2, U p), (3, .int .i64 14)]).run Tryz.prog w = .ok (.agg (tcells ⟨c, d, p, 14, 0, fun _ => 0#64, fun _ => 0#64, fun _ => 0#64⟩)) w := by kernel_rfl
attribute [local go_sem] tset5 tset6 build_bare
attribute [local go_sem high] laidAt_t
attribute [local go_sem ↓] brow26
end Go.Proofs.Hc
/- Package table: where a key is. -/
namespace Go.Proofs.Hc
open Go.RowKit
attribute [local go_sem] wrap_u64 wrap_u8 bits_xor64 bits_and64 bits_or64 bits_not64 bits_xor8 bits_and8 bits_or8 signed64 signed8 ofInt_N BitVec.ofInt_add BitVec.ofInt_mul ofInt_sub' ofInt8_N64 ofInt64_N8 wide8 eqN neN shr_pow shr1 shr7 shr56
attribute [local go_sem high] bits_com64 shl_wrap
attribute [local go_sem] cell_heap ice_heap cellAt_cells iceAt_cells setAt_cells rowAt_cells canLay_cells laidAt_cells size_onObj size_setCell rowRes_some layRes_true
attribute [local go_sem] load26 load73 load23 store26 build73
attribute [local go_sem ↓] lrow26 lrow73 lrow23 srow26 zero26 brow73 heap_alloc heap_drew heap_drewN heap_setCell heap_onObj
attribute [local go_sem] tcells_size hcells_size tcells_get hcells_get tcells_one hcells_one hcells_table tcells_table hcells_all hcells_ctrl tcells_ctrl
attribute [local go_sem] nn2 nm2 nn3 nm3 nn4 nm4 nn5 nm5 nn6 nm6 nn7 nm7 nn8 nm8
attribute [local go_sem] nn2 nm2 nn3 nm3 nn4 nm4 nn5 nm5 nn6 nm6 nn7 nm7 nn8 nm8
attribute [local go_sem] Oper.semAt_some make_func1 ofInt_pow8
attribute [local go_sem] box26 tcells_idx cell0 cell1 cell2 cell3 cell4 hcells_idx hcells_pop
attribute [local go_sem] cell5 cell6
/-- The first that holds, and how many were looked at. -/
def scan (f : Nat → Bool) : Nat → List Nat → Option (Nat × Nat)
  | _, [] => none
  | n, x :: l => if f x then some (x, n + 1) else scan f (n + 1) l
theorem scan_skip (f : Nat → Bool) (post : List Nat) : ∀ (l : List Nat) (n : Nat), (∀ x ∈ l, f x = false) → scan f n (l ++ post) = scan f (n + l.length) post
  | [], n, _ => rfl
  | x :: l, n, h => by
    rw [List.cons_append, scan, if_neg (by rw [h x (by simp)]; decide), scan_skip f post l (n + 1) (fun y hy => h y (by simp [hy])), List.length_cons]
    congr 1; omega
/-- The lanes of a group that have a byte, as slots. -/
def candG (t : Tab) (h2 : BitVec 8) (g : Nat) : List Nat := (lanesOf (equalM (t.c g) h2)).map fun x => 8 * g + x
/-- Where a key is, and how many keys are compared. -/
def foundT (t : Tab) (s k : BitVec 64) : Option (Nat × Nat) := scan (fun x => t.k x == k) 0 ((rowT t s k).flatMap (candG t (hash2 (hashOf s k))))
/-- What there is, or an error. -/
def orErr {α : Type} (c : Int) : Option α → Except Int α
  | none => .error c
  | some y => .ok y
def foundE (t : Tab) (s k : BitVec 64) : Except Int (Nat × Nat) := orErr 4 (foundT t s k)
theorem foundE_eq (t : Tab) (s k : BitVec 64) : foundE t s k = orErr 4 (foundT t s k) := by rw [foundE]
theorem foundE_none {t : Tab} {s k : BitVec 64} (h : foundT t s k = none) : foundE t s k = .error 4 := by rw [foundE_eq, h, orErr]
theorem foundE_some {t : Tab} {s k : BitVec 64} {y : Nat × Nat} (h : foundT t s k = some y) : foundE t s k = .ok y := by rw [foundE_eq, h, orErr]
theorem scan_none (f : Nat → Bool) (l : List Nat) (h : ∀ y ∈ l, f y = false) : scan f 0 l = none := by
  have := scan_skip f [] l 0 h
  rw [List.append_nil] at this
  rw [this]; rfl
/-- What holds while a key's groups are gone through. -/
structure FoundI (t : Tab) (k : BitVec 64) (b B : Nat) (w : World) (cd : Nat → List Nat) (pre : List Nat) (O : Nat → Prop) (W : World) : Prop where
  o : ∀ x, O x ↔ (x = B + 1 + 1 ∨ x = B + 1 + 1 + 1 ∨ x = B + 1 + 1 + 1 + 1)
  not : ∀ y ∈ pre.flatMap cd, (t.k y == k) = false
  ch : Ch [] w W
  hand : W.heap[B]? = some (.cells #[.pointer (some ⟨b, 0, none⟩)] 109 (0, 0))
  key : W.heap[B + 1]? = some (.cells #[U k] 22 (0, 0))
  r1 : W.heap[B + 1 + 1]? = some (.cells #[.int .i64 0] 3 (0, 0))
  r2 : W.heap[B + 1 + 1 + 1]? = some (.cells #[.int .i64 0] 3 (0, 0))
  many : W.heap[B + 1 + 1 + 1 + 1]? = some (.cells #[.int .i64 ((pre.flatMap cd).length : Int)] 3 (0, 0))
theorem FoundI.keep {t : Tab} {k : BitVec 64} {b B D : Nat} {w : World} {cd : Nat → List Nat} {pre : List Nat} {O : Nat → Prop} {A A' : World} (h : FoundI t k b B w cd pre O A) (c : Ch [D] A A') (hD : B + 1 + 1 + 1 + 1 < D) (hB : w.heap.size = B) : FoundI t k b B w cd pre O A' :=
  ⟨h.o, h.not, h.ch.trans2 c (by simp; omega), hkeepS c (by simp; omega) h.hand, hkeepS c (by simp; omega) h.key, hkeepS c (by simp; omega) h.r1, hkeepS c (by simp; omega) h.r2, hkeepS c (by simp; omega) h.many⟩
end Go.Proofs.Hc
/- The reference of layer 1: the word of bytes; a byte that is put. -/
namespace Go.Proofs.Hc
open Go.RowKit
attribute [local go_sem] wrap_u64 wrap_u8 bits_xor64 bits_and64 bits_or64 bits_not64 bits_xor8 bits_and8 bits_or8 signed64 signed8 ofInt_N BitVec.ofInt_add BitVec.ofInt_mul ofInt_sub' ofInt8_N64 ofInt64_N8 wide8 eqN neN shr_pow shr1 shr7 shr56
attribute [local go_sem high] bits_com64 shl_wrap
attribute [local go_sem] cell_heap ice_heap cellAt_cells iceAt_cells setAt_cells rowAt_cells canLay_cells laidAt_cells size_onObj size_setCell rowRes_some layRes_true
attribute [local go_sem] load26 load73 load23 store26 build73
attribute [local go_sem ↓] lrow26 lrow73 lrow23 srow26 zero26 brow73 heap_alloc heap_drew heap_drewN heap_setCell heap_onObj
attribute [local go_sem] tcells_size hcells_size tcells_get hcells_get tcells_one hcells_one hcells_table tcells_table hcells_all hcells_ctrl tcells_ctrl
attribute [local go_sem] nn2 nm2 nn3 nm3 nn4 nm4 nn5 nm5 nn6 nm6 nn7 nm7 nn8 nm8
attribute [local go_sem] nn2 nm2 nn3 nm3 nn4 nm4 nn5 nm5 nn6 nm6 nn7 nm7 nn8 nm8
attribute [local go_sem] ofInt_N
/-- The word of bytes. -/
def accB (l : List (BitVec 8)) : BitVec 64 := l.foldr (fun b y => 256#64 * y + b.setWidth 64) 0#64
theorem acc_drop {l : List (BitVec 8)} {k : Nat} {b : BitVec 8} (h : l[k]? = some b) : accB (l.drop k) = 256#64 * accB (l.drop (k + 1)) + b.setWidth 64 := by
  have hk := (List.getElem?_eq_some_iff.1 h).1
  have e : l.drop k = b :: l.drop (k + 1) := by
    rw [List.drop_eq_getElem_cons hk]
    have := (List.getElem?_eq_some_iff.1 h).2
    rw [this]
  rw [e]; rfl
set_option maxHeartbeats 1000000 in
set_option maxRecDepth 100000 in
theorem rOf_any (l : List (BitVec 8)) (hl : l.length ≤ 8) (g c : Nat) (cur : Array Value) (w : World) (hW : w.heap[g]? = some (.cells cur 5 (0, 0))) (hcur : ∀ (j : Nat) (b : BitVec 8), l[j]? = some b → cur[j]? = some (Y b)) :
    Calls Tryz.prog 100 #[.slice (some ⟨g, 0, none⟩) l.length c] w fun e w' => e = .returned (U (accB l)) ∧ w = w' := by
  have HC := Lib.hid hcur
  clear hcur
  go_enter Tryz.func100, Tryz.ntmps100
  go_wp2
  go_loop [3, 4] (fun v i => ∃ (j : Nat) (x : Int), j ≤ l.length ∧ x + 1 = j ∧ i = .int .i64 x ∧ v = U (accB (l.drop j))) (fun _ i => (intOf i + 1).toNat)
  case atStart => exact ⟨l.length, _, Nat.le_refl _, by omega, rfl, by rw [List.drop_length]; rfl⟩
  case round =>
    obtain ⟨j, x, hj, hx, rfl, rfl⟩ := hrel
    cases j with
    | zero =>
      obtain rfl : x = -1 := by omega
      go_wp2
      go_ret
      exact ⟨rfl, rfl⟩
    | succ k =>
      obtain rfl : x = (k : Int) := by omega
      have hlt : k < l.length := by omega
      have hk8 : k < 8 := by omega
      obtain ⟨b, hb⟩ : ∃ b, l[k]? = some b := ⟨l[k]'hlt, List.getElem?_eq_getElem hlt⟩
      have hc := HC.out k b hb
      have HD := Lib.hid (acc_drop hb)
      clear hb hx
      go_wp2
      go_round
      case rel => exact ⟨k, _, by omega, by omega, rfl, by rw [HD.out]⟩
      case measure => simp [intOf]
end Go.Proofs.Hc
/- Package table: Set. -/
namespace Go.Proofs.Hc
open Go.RowKit
attribute [local go_sem] wrap_u64 wrap_u8 bits_xor64 bits_and64 bits_or64 bits_not64 bits_xor8 bits_and8 bits_or8 signed64 signed8 ofInt_N BitVec.ofInt_add BitVec.ofInt_mul ofInt_sub' ofInt8_N64 ofInt64_N8 wide8 eqN neN shr_pow shr1 shr7 shr56
attribute [local go_sem high] bits_com64 shl_wrap
attribute [local go_sem] cell_heap ice_heap cellAt_cells iceAt_cells setAt_cells rowAt_cells canLay_cells laidAt_cells size_onObj size_setCell rowRes_some layRes_true
attribute [local go_sem] load26 load73 load23 store26 build73
attribute [local go_sem ↓] lrow26 lrow73 lrow23 srow26 zero26 brow73 heap_alloc heap_drew heap_drewN heap_setCell heap_onObj
attribute [local go_sem] tcells_size hcells_size tcells_get hcells_get tcells_one hcells_one hcells_table tcells_table hcells_all hcells_ctrl tcells_ctrl
attribute [local go_sem] nn2 nm2 nn3 nm3 nn4 nm4 nn5 nm5 nn6 nm6 nn7 nm7 nn8 nm8
attribute [local go_sem] loadA loadT2 storeA storeT2 buildA_ts buildA_sm assert_errno make_func acells_size t2cells_size acells_get t2cells_get acells_one t2cells_one acells_table acells_all t2cells_all t2cells_l t2cells_r
attribute [local go_sem ↓] lrowA lrowT2 srowA srowT2 browA zeroA_run zeroT2_run
attribute [local go_sem] nn2 nm2 nn3 nm3 nn4 nm4 nn5 nm5 nn6 nm6 nn7 nm7 nn8 nm8
attribute [local go_sem] Oper.semAt_some make_func1 ofInt_pow8
attribute [local go_sem] box26 tcells_idx cell0 cell1 cell2 cell3 cell4 hcells_idx hcells_pop
attribute [local go_sem] cell5 cell6
attribute [local go_sem high] laidAt_t
theorem scan_mem (f : Nat → Bool) : ∀ (l : List Nat) (n : Nat) (y : Nat × Nat), scan f n l = some y → y.1 ∈ l ∧ f y.1 = true
  | [], n, y, h => by cases h
  | x :: l, n, y, h => by
    rw [scan] at h
    by_cases hf : f x = true
    · rw [if_pos hf] at h
      cases h
      exact ⟨by simp, hf⟩
    · rw [if_neg hf] at h
      obtain ⟨h1, h2⟩ := scan_mem f l (n + 1) y h
      exact ⟨by simp [h1], h2⟩
theorem cand_lt {t : Tab} {s k : BitVec 64} {h2 : BitVec 8} {j : Nat} (h : j ∈ (rowT t s k).flatMap (candG t h2)) : j < 16 := by
  obtain ⟨g, hg, hj⟩ := List.mem_flatMap.1 h
  have := row_bound t s k g hg
  unfold candG at hj
  obtain ⟨x, hx, rfl⟩ := List.mem_map.1 hj
  have := ((mem_lanes _ _).1 hx).1
  omega
theorem foundT_lt {t : Tab} {s k : BitVec 64} {y : Nat × Nat} (h : foundT t s k = some y) : y.1 < 16 := cand_lt (scan_mem _ _ _ _ h).1
theorem foundE_lt {t : Tab} {s k : BitVec 64} {y : Nat × Nat} (h : foundE t s k = .ok y) : y.1 < 16 := by
  rw [foundE_eq] at h
  cases hf : foundT t s k with
  | none => rw [hf] at h; cases h
  | some z => rw [hf] at h; cases h; exact foundT_lt hf
/-- A table whose key has another value. -/
def setT (t : Tab) (j : Nat) (v : BitVec 64) : Tab := { t with v := fun i => if i = j then v else t.v i }
end Go.Proofs.Hc
/- The reference of layer 17: New, Compared, Place. -/
namespace Go.Proofs.Hc
open Go.RowKit
attribute [local go_sem] wrap_u64 wrap_u8 bits_xor64 bits_and64 bits_or64 bits_not64 bits_xor8 bits_and8 bits_or8 signed64 signed8 ofInt_N BitVec.ofInt_add BitVec.ofInt_mul ofInt_sub' ofInt8_N64 ofInt64_N8 wide8 eqN neN shr_pow shr1 shr7 shr56
attribute [local go_sem high] bits_com64 shl_wrap
attribute [local go_sem] cell_heap ice_heap cellAt_cells iceAt_cells setAt_cells rowAt_cells canLay_cells laidAt_cells size_onObj size_setCell rowRes_some layRes_true
attribute [local go_sem] load26 load73 load23 store26 build73
attribute [local go_sem ↓] lrow26 lrow73 lrow23 srow26 zero26 brow73 heap_alloc heap_drew heap_drewN heap_setCell heap_onObj
attribute [local go_sem] tcells_size hcells_size tcells_get hcells_get tcells_one hcells_one hcells_table tcells_table hcells_all hcells_ctrl tcells_ctrl
attribute [local go_sem] nn2 nm2 nn3 nm3 nn4 nm4 nn5 nm5 nn6 nm6 nn7 nm7 nn8 nm8
attribute [local go_sem] nn2 nm2 nn3 nm3 nn4 nm4 nn5 nm5 nn6 nm6 nn7 nm7 nn8 nm8
attribute [local go_sem] ofInt_N
attribute [local go_sem] box26 tcells_idx cell0 cell1 cell2 cell3 cell4 cell5 cell6
attribute [local go_sem high] laidAt_t
attribute [local irreducible] tcells
theorem build_slice8 (w : World) : (Instr.buildSlice 147 8 #[(0, .int .u8 128), (1, .int .u8 128), (2, .int .u8 128), (3, .int .u8 128), (4, .int .u8 128), (5, .int .u8 128), (6, .int .u8 128), (7, .int .u8 128)]).run Tryz.prog w = .ok (.slice (some ⟨w.heap.size, 0, none⟩) 8 8) (w.alloc (.cells (#[.int .u8 128, .int .u8 128, .int .u8 128, .int .u8 128, .int .u8 128, .int .u8 128, .int .u8 128, .int .u8 128]) 5)) := by kernel_rfl
theorem build_ctrl (x y : BitVec 64) (w : World) : (Instr.build 23 #[(0, U x), (1, U y)]).run Tryz.prog w = .ok (.agg #[U x, U y]) w := by kernel_rfl
theorem build_new (c : BitVec 64) (d : Int) (p x : BitVec 64) (w : World) : (buildRow 26 #[(0, U c), (1, I d), (2, U p), (3, .int .i64 14), (5, .agg #[U x, U x])]).run Tryz.prog w = .ok (.agg (tcells ⟨c, d, p, 14, 0, fun _ => x, fun _ => 0#64, fun _ => 0#64⟩)) w := by kernel_rfl
attribute [local go_sem] build_slice8 build_new
attribute [local go_sem high] build_ctrl
attribute [local go_sem ↓] brow26
theorem acc_tops : accB (List.replicate 8 128#8) = tops := by decide +kernel
set_option maxHeartbeats 1000000 in
set_option maxRecDepth 100000 in
theorem rNew_any (c : BitVec 64) (d : Int) (p : BitVec 64) (w : World) : Calls Tryz.prog 39 #[U c, I d, U p] w fun e w' => e = .returned (.agg (tcells (bareT c d p))) ∧ Ch [] w w' := by
  have O1 : ∀ (w : World) (g : Nat), w.heap[g]? = some (.cells (#[.int .u8 128, .int .u8 128, .int .u8 128, .int .u8 128, .int .u8 128, .int .u8 128, .int .u8 128, .int .u8 128]) 5 (0, 0)) → Calls Tryz.prog 100 #[.slice (some ⟨g, 0, none⟩) 8 8] w fun e w' => e = .returned (U tops) ∧ w = w' := fun w g hg => by
    have h := rOf_any (List.replicate 8 128#8) (by simp) g 8 (#[.int .u8 128, .int .u8 128, .int .u8 128, .int .u8 128, .int .u8 128, .int .u8 128, .int .u8 128, .int .u8 128]) w hg (fun j b hj => by
      rw [List.getElem?_replicate] at hj
      rw [show (#[.int .u8 128, .int .u8 128, .int .u8 128, .int .u8 128, .int .u8 128, .int .u8 128, .int .u8 128, .int .u8 128] : Array Value) = Array.replicate 8 (.int .u8 128) from rfl, Array.getElem?_replicate]
      split at hj
      · rename_i h; rw [if_pos h]; cases hj; rfl
      · cases hj)
    rwa [acc_tops] at h
  have HB : bareT c d p = ⟨c, d, p, 14, 0, fun _ => tops, fun _ => 0#64, fun _ => 0#64⟩ := rfl
  rw [HB]
  clear HB
  generalize tops = x at *
  obtain ⟨W0, hW0⟩ : ∃ W0, w.alloc (.cells (tcells zeroT) 26) = W0 := ⟨_, rfl⟩
  have hC0 : Ch [] w W0 := by rw [← hW0]; exact (Ch.refl [] w).alloc _
  have b0 : W0.heap[w.heap.size]? = some (.cells (tcells zeroT) 26 (0, 0)) := by rw [← hW0]; simp [go_sem]
  obtain ⟨W1, hW1⟩ : ∃ W1, W0.alloc (.cells (#[.int .u8 128, .int .u8 128, .int .u8 128, .int .u8 128, .int .u8 128, .int .u8 128, .int .u8 128, .int .u8 128]) 5) = W1 := ⟨_, rfl⟩
  have hC1 : Ch [] W0 W1 := by rw [← hW1]; exact (Ch.refl [] W0).alloc _
  have y1 : W1.heap[W0.heap.size]? = some (.cells (#[.int .u8 128, .int .u8 128, .int .u8 128, .int .u8 128, .int .u8 128, .int .u8 128, .int .u8 128, .int .u8 128]) 5 (0, 0)) := by rw [← hW1]; simp [go_sem]
  have b1 := hkeep hC1 b0
  go_enter Tryz.func39, Tryz.ntmps39
  go_wp2_with fail
  refine (O1 _ _ y1).mono ?_
  rintro e w' ⟨rfl, rfl⟩
  clear O1
  go_wp2
  refine bodyPost_ret (v := .agg (tcells ⟨c, d, p, 14, 0, fun _ => x, fun _ => 0#64, fun _ => 0#64⟩)) (results_cell1 Tryz.results39 _ _ _ rfl (run_loadVar_row _ _ 26 26 (tcells _) (0, 0) _ ?_ Tryz.underlying26 rfl (by rw [tcells_size]; kernel_rfl))) rfl ⟨rfl, ?_⟩
  · simp only [heap_onObj, if_true, b1, Option.map_some, laidAt_t]
  · exact (hC0.trans hC1).onObj (.inr (Nat.le_refl _)) _
end Go.Proofs.Hc
