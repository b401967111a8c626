/- Package table: bare tables, and the pairs of full slots. -/
import Derived.Test.YtmfajobocpaimaaGreatKHlan
import Derived.Test.YtmfajobocpaimaaGreatKHxe
import Derived.Test.YtmfajobocpaimaaGreatKHpa
import Derived.Test.YtmfajobocpaimaaGreatKHq
import Derived.Test.YtmfajobocpaimaaGreatKHr
import Derived.Test.YtmfajobocpaimaaGreatKHta
import Derived.Test.YtmfajobocpaimaaGreatKHde
import Derived.Test.YtmfajobocpaimaaGreatKHop2
import Derived.Below
import Derived.BigQuiet
import Derived.Deep.Draws
import Derived.Deep.Light
import Derived.Deep.QuietTactic
import Derived.Deep.RegionHeld
import Derived.Laws.CopyRow
import Derived.Laws.Tables
import Derived.Lib.AppendZerosOnto
import Derived.Lib.Hide
import Derived.Lib.Tables
import Derived.Lib.Walk
import Derived.LoopIn
import Derived.LoopN
import Derived.LoopNIn
import Derived.Maps.AppendAt
import Derived.Maps.Views
import Derived.OwnWalkIn
import Derived.RangeFuncBox
import Derived.RangeFuncCalls
import Derived.RangeFuncRecord
import Derived.RangeFuncSeq
import Derived.Recover
import Derived.RegionTactic
import Derived.Shelf.Slices.Clone
import Derived.StillTail
import Derived.StillTailTactics
import Derived.TacticsInMore
import Derived.Test.YtmfajobocpaimaaGreatProg
import Derived.WalkKit
import Derived.WalkLawsBesides
import Derived.WalkMore
import Derived.WalkSpells
import Derived.Laws.StructEq
set_option linter.unusedSimpArgs false
set_option linter.unusedVariables false
namespace Go.Proofs.Hc
open Go.RowKit
attribute [local go_sem] wrap_u64 wrap_u8 bits_xor64 bits_and64 bits_or64 bits_not64 bits_xor8 bits_and8 bits_or8 signed64 signed8 ofInt_N BitVec.ofInt_add BitVec.ofInt_mul ofInt_sub' ofInt8_N64 ofInt64_N8 wide8 eqN neN shr_pow shr1 shr7 shr56
attribute [local go_sem high] bits_com64 shl_wrap
attribute [local go_sem] cell_heap ice_heap cellAt_cells iceAt_cells setAt_cells rowAt_cells canLay_cells laidAt_cells size_onObj size_setCell rowRes_some layRes_true
attribute [local go_sem] load26 load73 load23 store26 build73
attribute [local go_sem ↓] lrow26 lrow73 lrow23 srow26 zero26 brow73 heap_alloc heap_drew heap_drewN heap_setCell heap_onObj
attribute [local go_sem] tcells_size hcells_size tcells_get hcells_get tcells_one hcells_one hcells_table tcells_table hcells_all hcells_ctrl tcells_ctrl
attribute [local go_sem] nn2 nm2 nn3 nm3 nn4 nm4 nn5 nm5 nn6 nm6 nn7 nm7 nn8 nm8
attribute [local go_sem] nn2 nm2 nn3 nm3 nn4 nm4 nn5 nm5 nn6 nm6 nn7 nm7 nn8 nm8
attribute [local go_sem] Oper.semAt_some make_func1
attribute [local go_sem] box26 tcells_idx cell0 cell1 cell2 cell3 cell4 hcells_idx hcells_pop
attribute [local go_sem] cell5 cell6
theorem tset_ctrl (t : Tab) (g : Nat) (hg : g < 2) (x : BitVec 64) : (tcells t).setIfInBounds (5 + g) (U x) = tcells { t with c := fun i => if i = g then x else t.c i } := by
  have h := hset_ctrl t 0#64 g hg x
  have h2 := congrArg (fun a => a.extract 0 39) h
  simp only [hcells_table] at h2
  rw [← h2, ← hcells_table t 0#64]
  apply Array.ext_getElem?; intro i
  by_cases hi : i = 5 + g
  · subst hi
    simp [hcells_size, show 5 + g < 39 by omega]
  · rw [Array.getElem?_setIfInBounds_ne (fun e => hi e.symm), Array.getElem?_extract, Array.getElem?_extract]
    simp only [Array.size_setIfInBounds]
    split
    · rw [Array.getElem?_setIfInBounds_ne (by omega)]
    · rfl
theorem tset5 (t : Tab) (x : BitVec 64) : (tcells t).setIfInBounds 5 (U x) = tcells { t with c := fun i => if i = 0 then x else t.c i } := tset_ctrl t 0 (by omega) x
theorem tset6 (t : Tab) (x : BitVec 64) : (tcells t).setIfInBounds 6 (U x) = tcells { t with c := fun i => if i = 1 then x else t.c i } := tset_ctrl t 1 (by omega) x
theorem laidAt_t (a b : Tab) (T : TypeId) (fr : Nat × Nat) : laidAt 0 (tcells b) (.cells (tcells a) T fr) = .cells (tcells b) T fr := by
  rw [laidAt_cells, laid_whole _ _ (by rw [tcells_size, tcells_size])]
theorem brow26 (ps : Array (Nat × Value)) : Instr.build 26 ps = buildRow 26 ps := rfl
theorem build_bare (c : BitVec 64) (d : Int) (p : BitVec 64) (w : World) : (buildRow 26 #[(0, U c), (1, I d), (2, U p), (3, .int .i64 14)]).run Tryz.prog w = .ok (.agg (tcells ⟨c, d, p, 14, 0, fun _ => 0#64, fun _ => 0#64, fun _ => 0#64⟩)) w := by kernel_rfl
attribute [local go_sem] tset5 tset6 build_bare
attribute [local go_sem high] laidAt_t
attribute [local go_sem ↓] brow26
end Go.Proofs.Hc
/- Package table: a table, and pairs that are put in it. -/
namespace Go.Proofs.Hc
open Go.RowKit
attribute [local go_sem] wrap_u64 wrap_u8 bits_xor64 bits_and64 bits_or64 bits_not64 bits_xor8 bits_and8 bits_or8 signed64 signed8 ofInt_N BitVec.ofInt_add BitVec.ofInt_mul ofInt_sub' ofInt8_N64 ofInt64_N8 wide8 eqN neN shr_pow shr1 shr7 shr56
attribute [local go_sem high] bits_com64 shl_wrap
attribute [local go_sem] cell_heap ice_heap cellAt_cells iceAt_cells setAt_cells rowAt_cells canLay_cells laidAt_cells size_onObj size_setCell rowRes_some layRes_true
attribute [local go_sem] load26 load73 load23 store26 build73
attribute [local go_sem ↓] lrow26 lrow73 lrow23 srow26 zero26 brow73 heap_alloc heap_drew heap_drewN heap_setCell heap_onObj
attribute [local go_sem] tcells_size hcells_size tcells_get hcells_get tcells_one hcells_one hcells_table tcells_table hcells_all hcells_ctrl tcells_ctrl
attribute [local go_sem] nn2 nm2 nn3 nm3 nn4 nm4 nn5 nm5 nn6 nm6 nn7 nm7 nn8 nm8
attribute [local go_sem] nn2 nm2 nn3 nm3 nn4 nm4 nn5 nm5 nn6 nm6 nn7 nm7 nn8 nm8
attribute [local go_sem] Oper.semAt_some make_func1 ofInt_pow8
attribute [local go_sem] box26 tcells_idx cell0 cell1 cell2 cell3 cell4 hcells_idx hcells_pop
attribute [local go_sem] cell5 cell6
theorem loadP (g o : Nat) (w : World) : (loadRow 31 ⟨g, o, none⟩).run Tryz.prog w = rowRes Tryz.prog 31 g o w ((w.heap[g]?).bind (rowAt o 2)) :=
  run_row Tryz.underlying31 rfl (by kernel_rfl) g o w
theorem storeP (g o : Nat) (vs : Array Value) (w : World) : (storeRow 31 ⟨g, o, none⟩ (.agg vs)).run Tryz.prog w = layRes Tryz.prog 31 g o vs w (((w.heap[g]?).map (canLay o 2 vs)).getD false) :=
  run_lay (by kernel_rfl) g o vs w
theorem lrowP (a : Addr) : loadVar 31 a = loadRow 31 a := rfl
theorem srowP (a : Addr) (v : Value) : storeVar 31 a v = storeRow 31 a v := rfl
theorem zeroP (w : World) : (zeroValue 31).run Tryz.prog w = .ok (.agg #[U 0#64, U 0#64]) w := by kernel_rfl
theorem allOne_pair (x y : BitVec 64) : allOne #[U x, U y] = true := by simp [allOne, Value.oneCell']
theorem laidAt_p (a b c d : Value) (T : TypeId) (fr : Nat × Nat) : laidAt 0 #[a, b] (.cells #[c, d] T fr) = .cells #[a, b] T fr := by
  have h := laid_whole (#[a, b] : Array Value) #[c, d] rfl
  show Obj.cells (((#[c, d] : Array Value).extract 0 0 ++ #[a, b]) ++ (#[c, d] : Array Value).extract (0 + (#[a, b] : Array Value).size) (#[c, d] : Array Value).size) T fr = _
  rw [h]
attribute [local go_sem] loadP storeP allOne_pair
attribute [local go_sem high] laidAt_p
attribute [local go_sem high] laidAt_t
attribute [local go_sem ↓] lrowP srowP zeroP
end Go.Proofs.Hc
/- The reference of layer 1: the word of bytes; a byte that is put. -/
namespace Go.Proofs.Hc
open Go.RowKit
attribute [local go_sem] wrap_u64 wrap_u8 bits_xor64 bits_and64 bits_or64 bits_not64 bits_xor8 bits_and8 bits_or8 signed64 signed8 ofInt_N BitVec.ofInt_add BitVec.ofInt_mul ofInt_sub' ofInt8_N64 ofInt64_N8 wide8 eqN neN shr_pow shr1 shr7 shr56
attribute [local go_sem high] bits_com64 shl_wrap
attribute [local go_sem] cell_heap ice_heap cellAt_cells iceAt_cells setAt_cells rowAt_cells canLay_cells laidAt_cells size_onObj size_setCell rowRes_some layRes_true
attribute [local go_sem] load26 load73 load23 store26 build73
attribute [local go_sem ↓] lrow26 lrow73 lrow23 srow26 zero26 brow73 heap_alloc heap_drew heap_drewN heap_setCell heap_onObj
attribute [local go_sem] tcells_size hcells_size tcells_get hcells_get tcells_one hcells_one hcells_table tcells_table hcells_all hcells_ctrl tcells_ctrl
attribute [local go_sem] nn2 nm2 nn3 nm3 nn4 nm4 nn5 nm5 nn6 nm6 nn7 nm7 nn8 nm8
attribute [local go_sem] nn2 nm2 nn3 nm3 nn4 nm4 nn5 nm5 nn6 nm6 nn7 nm7 nn8 nm8
attribute [local go_sem] ofInt_N
/-- The word of bytes. -/
def accB (l : List (BitVec 8)) : BitVec 64 := l.foldr (fun b y => 256#64 * y + b.setWidth 64) 0#64
theorem acc_zero (y : BitVec 64) (b : BitVec 8) : byteAt (256#64 * y + b.setWidth 64) 0 = b := by
  apply BitVec.eq_of_toNat_eq
  rw [byteAt_nat, BitVec.toNat_add, BitVec.toNat_mul, BitVec.toNat_setWidth, BitVec.toNat_ofNat]
  have := b.isLt
  have := y.isLt
  omega
theorem acc_succ (y : BitVec 64) (b : BitVec 8) : ∀ n, n < 7 → byteAt (256#64 * y + b.setWidth 64) (n + 1) = byteAt y n := by
  intro n hn
  apply BitVec.eq_of_toNat_eq
  rw [byteAt_nat, byteAt_nat, BitVec.toNat_add, BitVec.toNat_mul, BitVec.toNat_setWidth, BitVec.toNat_ofNat]
  have hb := b.isLt
  have hy := y.isLt
  generalize b.toNat = b at *
  generalize y.toNat = y at *
  match n, hn with
  | 0, _ => omega
  | 1, _ => omega
  | 2, _ => omega
  | 3, _ => omega
  | 4, _ => omega
  | 5, _ => omega
  | 6, _ => omega
theorem acc_byte : ∀ (l : List (BitVec 8)) (n : Nat), n < 8 → byteAt (accB l) n = (l[n]?).getD 0#8
  | [], n, hn => by
    have e : accB [] = 0#64 := rfl
    rw [e]
    apply BitVec.eq_of_toNat_eq
    rw [byteAt_nat]; simp
  | b :: l, 0, _ => acc_zero (accB l) b
  | b :: l, n + 1, hn => by
    have e : accB (b :: l) = 256#64 * accB l + b.setWidth 64 := rfl
    rw [e, acc_succ _ _ _ (by omega), acc_byte l n (by omega)]
    simp
theorem bytesOf_len (x : BitVec 64) : (bytesOf x).length = 8 := by simp [bytesOf]
theorem bytesOf_get (x : BitVec 64) (n : Nat) (h : n < 8) : (bytesOf x)[n]? = some (byteAt x n) := by
  unfold bytesOf
  rw [List.getElem?_map, List.getElem?_range h]; rfl
theorem acc_put (x : BitVec 64) (n : Nat) (hn : n < 8) (b : BitVec 8) : accB ((bytesOf x).set n b) = withB x n b := by
  apply ext_bytes
  intro m hm
  rw [acc_byte _ m hm, byteAt_withB x n m b hn hm, List.getElem?_set]
  by_cases h : n = m
  · subst h
    rw [if_pos rfl, if_pos rfl, if_pos (by rw [bytesOf_len]; exact hn)]; rfl
  · rw [if_neg h, if_neg (fun e => h e.symm), bytesOf_get x m hm]; rfl
theorem acc_drop {l : List (BitVec 8)} {k : Nat} {b : BitVec 8} (h : l[k]? = some b) : accB (l.drop k) = 256#64 * accB (l.drop (k + 1)) + b.setWidth 64 := by
  have hk := (List.getElem?_eq_some_iff.1 h).1
  have e : l.drop k = b :: l.drop (k + 1) := by
    rw [List.drop_eq_getElem_cons hk]
    have := (List.getElem?_eq_some_iff.1 h).2
    rw [this]
  rw [e]; rfl
set_option maxHeartbeats 1000000 in
set_option maxRecDepth 100000 in
theorem rOf_any (l : List (BitVec 8)) (hl : l.length ≤ 8) (g c : Nat) (cur : Array Value) (w : World) (hW : w.heap[g]? = some (.cells cur 5 (0, 0))) (hcur : ∀ (j : Nat) (b : BitVec 8), l[j]? = some b → cur[j]? = some (Y b)) :
    Calls Tryz.prog 100 #[.slice (some ⟨g, 0, none⟩) l.length c] w fun e w' => e = .returned (U (accB l)) ∧ w = w' := by
  have HC := Lib.hid hcur
  clear hcur
  go_enter Tryz.func100, Tryz.ntmps100
  go_wp2
  go_loop [3, 4] (fun v i => ∃ (j : Nat) (x : Int), j ≤ l.length ∧ x + 1 = j ∧ i = .int .i64 x ∧ v = U (accB (l.drop j))) (fun _ i => (intOf i + 1).toNat)
  case atStart => exact ⟨l.length, _, Nat.le_refl _, by omega, rfl, by rw [List.drop_length]; rfl⟩
  case round =>
    obtain ⟨j, x, hj, hx, rfl, rfl⟩ := hrel
    cases j with
    | zero =>
      obtain rfl : x = -1 := by omega
      go_wp2
      go_ret
      exact ⟨rfl, rfl⟩
    | succ k =>
      obtain rfl : x = (k : Int) := by omega
      have hlt : k < l.length := by omega
      have hk8 : k < 8 := by omega
      obtain ⟨b, hb⟩ : ∃ b, l[k]? = some b := ⟨l[k]'hlt, List.getElem?_eq_getElem hlt⟩
      have hc := HC.out k b hb
      have HD := Lib.hid (acc_drop hb)
      clear hb hx
      go_wp2
      go_round
      case rel => exact ⟨k, _, by omega, by omega, rfl, by rw [HD.out]⟩
      case measure => simp [intOf]
end Go.Proofs.Hc
/- The reference of layer 1: a byte that is put; lanes of a mask, one by one. -/
namespace Go.Proofs.Hc
open Go.RowKit
attribute [local go_sem] wrap_u64 wrap_u8 bits_xor64 bits_and64 bits_or64 bits_not64 bits_xor8 bits_and8 bits_or8 signed64 signed8 ofInt_N BitVec.ofInt_add BitVec.ofInt_mul ofInt_sub' ofInt8_N64 ofInt64_N8 wide8 eqN neN shr_pow shr1 shr7 shr56
attribute [local go_sem high] bits_com64 shl_wrap
attribute [local go_sem] cell_heap ice_heap cellAt_cells iceAt_cells setAt_cells rowAt_cells canLay_cells laidAt_cells size_onObj size_setCell rowRes_some layRes_true
attribute [local go_sem] load26 load73 load23 store26 build73
attribute [local go_sem ↓] lrow26 lrow73 lrow23 srow26 zero26 brow73 heap_alloc heap_drew heap_drewN heap_setCell heap_onObj
attribute [local go_sem] tcells_size hcells_size tcells_get hcells_get tcells_one hcells_one hcells_table tcells_table hcells_all hcells_ctrl tcells_ctrl
attribute [local go_sem] nn2 nm2 nn3 nm3 nn4 nm4 nn5 nm5 nn6 nm6 nn7 nm7 nn8 nm8
attribute [local go_sem] nn2 nm2 nn3 nm3 nn4 nm4 nn5 nm5 nn6 nm6 nn7 nm7 nn8 nm8
attribute [local go_sem] ofInt_N
set_option maxHeartbeats 1000000 in
set_option maxRecDepth 100000 in
theorem rPut_any (x : BitVec 64) (b : BitVec 8) (n : Nat) (hn : n < 8) (w : World) : Calls Tryz.prog 94 #[U x, Y b, I n] w fun e w' => e = .returned (U (withB x n b)) ∧ Ch [] w w' := by
  have HE := Lib.hid (acc_put x n hn b)
  go_enter Tryz.func94, Tryz.ntmps94
  go_wp2_with fail
  refine (rBytes_any x w).mono ?_
  rintro e w1 ⟨a, c, rfl, hown, hc1⟩
  obtain ⟨_, ⟨hv, h0⟩ | ⟨g, cap, cur, hv, hg, hW, hle, _, hsz, hx⟩⟩ := hown
  · cases hv
  · simp only [Value.slice.injEq] at hv
    obtain ⟨rfl, -, rfl⟩ := hv
    have hnc : n < cur.size := by omega
    have hC : Ch [] w (w1.setCell ⟨g, n, none⟩ (Y b)) := hc1.setCell (p := ⟨g, n, none⟩) (.inr hg) _
    have O1 := rOf_any ((bytesOf x).set n b) (by rw [List.length_set, bytesOf_len]; omega) g c (cur.setIfInBounds n (Y b)) (w1.setCell ⟨g, n, none⟩ (Y b)) (by rw [heap_setCell, if_pos rfl, hW]; rfl) (fun j y hj => by
      rw [List.getElem?_set] at hj
      rw [Array.getElem?_setIfInBounds]
      by_cases h : n = j
      · subst h
        rw [if_pos rfl, if_pos (by rw [bytesOf_len]; exact hn)] at hj
        rw [if_pos rfl, if_pos hnc]
        rw [← Option.some.inj hj]
      · rw [if_neg h] at hj ⊢
        have h1 : (ycells (bytesOf x))[j]? = some (Y y) := by unfold ycells; rw [List.getElem?_map, hj]; rfl
        rw [← hx, List.getElem?_take] at h1
        split at h1
        · simpa using h1
        · cases h1)
    rw [List.length_set, bytesOf_len, HE.out] at O1
    have hn0 : (0 : Int) ≤ (n : Int) := by omega
    have hn8 : (n : Int) < 8 := by omega
    have hsome : cur[n]? = some (cur[n]'hnc) := Array.getElem?_eq_getElem hnc
    have HC := Lib.hid hC
    clear hx hle hg hsz hC hc1
    go_wp2_with (go_at_call 100; refine O1.mono ?_; rintro e w' ⟨rfl, rfl⟩)
    go_ret
    exact ⟨rfl, HC.out⟩
theorem two_mul8 (n : Nat) : BitVec.ofInt 8 (2 * N (laneM n)) = laneM (n + 1) := by
  unfold laneM
  rw [BitVec.ofInt_mul, ofInt_N]
  apply BitVec.eq_of_toNat_eq
  rw [BitVec.toNat_mul, BitVec.toNat_shiftLeft, BitVec.toNat_shiftLeft, Nat.shiftLeft_eq, Nat.shiftLeft_eq, Nat.pow_succ]
  show (2 * (1 * 2 ^ n % 256)) % 256 = 1 * (2 ^ n * 2) % 256
  omega
set_option maxHeartbeats 400000 in
theorem rWith_any (m : BitVec 8) (n : Nat) (hn : n ≤ 64) (w : World) : Calls Tryz.prog 167 #[Y m, I n] w fun e w' => e = .returned (Y (m + laneM n)) ∧ w = w' := by
  go_enter Tryz.func167, Tryz.ntmps167
  go_wp2
  go_loop [5, 7] (fun v i => ∃ j : Nat, j ≤ n ∧ i = .int .i64 j ∧ v = Y (laneM j)) (fun _ i => n - (intOf i).toNat)
  case atStart => exact ⟨0, Nat.zero_le _, rfl, rfl⟩
  case round =>
    obtain ⟨j, hj, rfl, rfl⟩ := hrel
    by_cases hlt : j < n
    · have HS := Lib.hid (two_mul8 j)
      go_wp2
      go_round
      case rel => exact ⟨j + 1, by omega, by go_num, by first | rw [HS.out] | (rw [← HS.out]; rfl) | (rw [← HS.out, BitVec.ofInt_mul, ofInt_N]; rfl)⟩
      case measure => simp [intOf]; omega
    · have hjn : j = n := by omega
      have HJ := Lib.hid hjn
      clear hjn
      go_wp2
      go_ret
      refine ⟨?_, rfl⟩
      rw [← HJ.out]; rfl
end Go.Proofs.Hc
/- The reference of layer 17: New, Compared, Place. -/
namespace Go.Proofs.Hc
open Go.RowKit
attribute [local go_sem] wrap_u64 wrap_u8 bits_xor64 bits_and64 bits_or64 bits_not64 bits_xor8 bits_and8 bits_or8 signed64 signed8 ofInt_N BitVec.ofInt_add BitVec.ofInt_mul ofInt_sub' ofInt8_N64 ofInt64_N8 wide8 eqN neN shr_pow shr1 shr7 shr56
attribute [local go_sem high] bits_com64 shl_wrap
attribute [local go_sem] cell_heap ice_heap cellAt_cells iceAt_cells setAt_cells rowAt_cells canLay_cells laidAt_cells size_onObj size_setCell rowRes_some layRes_true
attribute [local go_sem] load26 load73 load23 store26 build73
attribute [local go_sem ↓] lrow26 lrow73 lrow23 srow26 zero26 brow73 heap_alloc heap_drew heap_drewN heap_setCell heap_onObj
attribute [local go_sem] tcells_size hcells_size tcells_get hcells_get tcells_one hcells_one hcells_table tcells_table hcells_all hcells_ctrl tcells_ctrl
attribute [local go_sem] nn2 nm2 nn3 nm3 nn4 nm4 nn5 nm5 nn6 nm6 nn7 nm7 nn8 nm8
attribute [local go_sem] nn2 nm2 nn3 nm3 nn4 nm4 nn5 nm5 nn6 nm6 nn7 nm7 nn8 nm8
attribute [local go_sem] ofInt_N
attribute [local go_sem] box26 tcells_idx cell0 cell1 cell2 cell3 cell4 cell5 cell6
attribute [local go_sem high] laidAt_t
attribute [local irreducible] tcells
theorem build_slice8 (w : World) : (Instr.buildSlice 147 8 #[(0, .int .u8 128), (1, .int .u8 128), (2, .int .u8 128), (3, .int .u8 128), (4, .int .u8 128), (5, .int .u8 128), (6, .int .u8 128), (7, .int .u8 128)]).run Tryz.prog w = .ok (.slice (some ⟨w.heap.size, 0, none⟩) 8 8) (w.alloc (.cells (#[.int .u8 128, .int .u8 128, .int .u8 128, .int .u8 128, .int .u8 128, .int .u8 128, .int .u8 128, .int .u8 128]) 5)) := by kernel_rfl
theorem build_ctrl (x y : BitVec 64) (w : World) : (Instr.build 23 #[(0, U x), (1, U y)]).run Tryz.prog w = .ok (.agg #[U x, U y]) w := by kernel_rfl
theorem build_new (c : BitVec 64) (d : Int) (p x : BitVec 64) (w : World) : (buildRow 26 #[(0, U c), (1, I d), (2, U p), (3, .int .i64 14), (5, .agg #[U x, U x])]).run Tryz.prog w = .ok (.agg (tcells ⟨c, d, p, 14, 0, fun _ => x, fun _ => 0#64, fun _ => 0#64⟩)) w := by kernel_rfl
attribute [local go_sem] build_slice8 build_new
attribute [local go_sem high] build_ctrl
attribute [local go_sem ↓] brow26
theorem acc_tops : accB (List.replicate 8 128#8) = tops := by decide +kernel
set_option maxHeartbeats 1000000 in
set_option maxRecDepth 100000 in
theorem rNew_any (c : BitVec 64) (d : Int) (p : BitVec 64) (w : World) : Calls Tryz.prog 39 #[U c, I d, U p] w fun e w' => e = .returned (.agg (tcells (bareT c d p))) ∧ Ch [] w w' := by
  have O1 : ∀ (w : World) (g : Nat), w.heap[g]? = some (.cells (#[.int .u8 128, .int .u8 128, .int .u8 128, .int .u8 128, .int .u8 128, .int .u8 128, .int .u8 128, .int .u8 128]) 5 (0, 0)) → Calls Tryz.prog 100 #[.slice (some ⟨g, 0, none⟩) 8 8] w fun e w' => e = .returned (U tops) ∧ w = w' := fun w g hg => by
    have h := rOf_any (List.replicate 8 128#8) (by simp) g 8 (#[.int .u8 128, .int .u8 128, .int .u8 128, .int .u8 128, .int .u8 128, .int .u8 128, .int .u8 128, .int .u8 128]) w hg (fun j b hj => by
      rw [List.getElem?_replicate] at hj
      rw [show (#[.int .u8 128, .int .u8 128, .int .u8 128, .int .u8 128, .int .u8 128, .int .u8 128, .int .u8 128, .int .u8 128] : Array Value) = Array.replicate 8 (.int .u8 128) from rfl, Array.getElem?_replicate]
      split at hj
      · rename_i h; rw [if_pos h]; cases hj; rfl
      · cases hj)
    rwa [acc_tops] at h
  have HB : bareT c d p = ⟨c, d, p, 14, 0, fun _ => tops, fun _ => 0#64, fun _ => 0#64⟩ := rfl
  rw [HB]
  clear HB
  generalize tops = x at *
  obtain ⟨W0, hW0⟩ : ∃ W0, w.alloc (.cells (tcells zeroT) 26) = W0 := ⟨_, rfl⟩
  have hC0 : Ch [] w W0 := by rw [← hW0]; exact (Ch.refl [] w).alloc _
  have b0 : W0.heap[w.heap.size]? = some (.cells (tcells zeroT) 26 (0, 0)) := by rw [← hW0]; simp [go_sem]
  obtain ⟨W1, hW1⟩ : ∃ W1, W0.alloc (.cells (#[.int .u8 128, .int .u8 128, .int .u8 128, .int .u8 128, .int .u8 128, .int .u8 128, .int .u8 128, .int .u8 128]) 5) = W1 := ⟨_, rfl⟩
  have hC1 : Ch [] W0 W1 := by rw [← hW1]; exact (Ch.refl [] W0).alloc _
  have y1 : W1.heap[W0.heap.size]? = some (.cells (#[.int .u8 128, .int .u8 128, .int .u8 128, .int .u8 128, .int .u8 128, .int .u8 128, .int .u8 128, .int .u8 128]) 5 (0, 0)) := by rw [← hW1]; simp [go_sem]
  have b1 := hkeep hC1 b0
  go_enter Tryz.func39, Tryz.ntmps39
  go_wp2_with fail
  refine (O1 _ _ y1).mono ?_
  rintro e w' ⟨rfl, rfl⟩
  clear O1
  go_wp2
  refine bodyPost_ret (v := .agg (tcells ⟨c, d, p, 14, 0, fun _ => x, fun _ => 0#64, fun _ => 0#64⟩)) (results_cell1 Tryz.results39 _ _ _ rfl (run_loadVar_row _ _ 26 26 (tcells _) (0, 0) _ ?_ Tryz.underlying26 rfl (by rw [tcells_size]; kernel_rfl))) rfl ⟨rfl, ?_⟩
  · simp only [heap_onObj, if_true, b1, Option.map_some, laidAt_t]
  · exact (hC0.trans hC1).onObj (.inr (Nat.le_refl _)) _
end Go.Proofs.Hc
