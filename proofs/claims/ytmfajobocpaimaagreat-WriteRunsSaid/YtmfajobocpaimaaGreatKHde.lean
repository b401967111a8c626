/- All lanes of a mask, as a list. -/
import Derived.Test.YtmfajobocpaimaaGreatKHxe
import Derived.Test.YtmfajobocpaimaaGreatKHnq
import Derived.Test.YtmfajobocpaimaaGreatKHq
import Derived.Test.YtmfajobocpaimaaGreatKHr
import Derived.Test.YtmfajobocpaimaaGreatKHop2
import Derived.Below
import Derived.BigQuiet
import Derived.Deep.Draws
import Derived.Deep.QuietTactic
import Derived.Laws.CopyRow
import Derived.Laws.Tables
import Derived.Lib.Hide
import Derived.Lib.Tables
import Derived.LoopIn
import Derived.LoopNIn
import Derived.Maps.AppendAt
import Derived.OwnWalkIn
import Derived.RangeFuncBox
import Derived.RangeFuncCalls
import Derived.RangeFuncRecord
import Derived.RangeFuncSeq
import Derived.TacticsInMore
import Derived.Test.YtmfajobocpaimaaGreatProg
import Derived.WalkKit
import Derived.WalkSpells
import Derived.Lib.AppendZerosOnto
import Derived.Lib.Walk
import Derived.LoopN
import Derived.Recover
import Derived.RegionTactic
import Derived.Shelf.Slices.Clone
import Derived.StillTail
import Derived.WalkLawsBesides
import Derived.WalkMore
import Derived.Deep.Light
import Derived.Deep.RegionHeld
import Derived.Laws.StructEq
import Derived.Maps.Views
import Derived.StillTailTactics
import Derived.ChangeKeysEq
set_option linter.unusedSimpArgs false
set_option linter.unusedVariables false
namespace Go.Proofs.Hc
open Go.RowKit
attribute [local go_sem] wrap_u64 wrap_u8 bits_xor64 bits_and64 bits_or64 bits_not64 bits_xor8 bits_and8 bits_or8 signed64 signed8 ofInt_N BitVec.ofInt_add BitVec.ofInt_mul ofInt_sub' ofInt8_N64 ofInt64_N8 wide8 eqN neN shr_pow shr1 shr7 shr56
attribute [local go_sem high] bits_com64 shl_wrap
attribute [local go_sem] Oper.semAt_some make_func1
attribute [local go_sem] cell_heap ice_heap cellAt_cells iceAt_cells setAt_cells size_setCell
attribute [local go_sem ↓] heap_alloc heap_drew heap_drewN heap_setCell
theorem infoInt : (Tryz.prog.info? 3).map (fun i => (i.zero, i.size, i.bytes)) = some (some (I 0), 1, 8) := by kernel_rfl
end Go.Proofs.Hc
/- The reference of layer 1: a lane's byte, a word's bytes, the word of bytes. -/
namespace Go.Proofs.Hc
open Go.RowKit
attribute [local go_sem] wrap_u64 wrap_u8 bits_xor64 bits_and64 bits_or64 bits_not64 bits_xor8 bits_and8 bits_or8 signed64 signed8 ofInt_N BitVec.ofInt_add BitVec.ofInt_mul ofInt_sub' ofInt8_N64 ofInt64_N8 wide8 eqN neN shr_pow shr1 shr7 shr56
attribute [local go_sem high] bits_com64 shl_wrap
attribute [local go_sem] shr8 ofInt_N
theorem ofInt8_mod (x : BitVec 64) : BitVec.ofInt 8 (N x % 256) = x.setWidth 8 := by
  unfold N
  apply BitVec.eq_of_toNat_eq
  rw [BitVec.toNat_ofInt, BitVec.toNat_setWidth]
  omega
theorem tdiv256 (x : BitVec 64) : (N x).tdiv 256 = N (x >>> 8) := by rw [Int.tdiv_eq_ediv_of_nonneg (N_nonneg x), shr8]
theorem tmod256 (x : BitVec 64) : (N x).tmod 256 = N x % 256 := by rw [Int.tmod_eq_emod_of_nonneg (N_nonneg x)]
attribute [local go_sem high] ofInt8_mod tdiv256 tmod256
set_option maxHeartbeats 400000 in
theorem rAt_any (x : BitVec 64) (n : Nat) (hn : n ≤ 64) (w : World) : Calls Tryz.prog 76 #[U x, I n] w fun e w' => e = .returned (Y (byteAt x n)) ∧ w = w' := by
  go_enter Tryz.func76, Tryz.ntmps76
  go_wp2
  go_loop [0, 6] (fun v i => ∃ j : Nat, j ≤ n ∧ i = .int .i64 j ∧ v = U (x >>> (8 * j))) (fun _ i => n - (intOf i).toNat)
  case atStart => exact ⟨0, Nat.zero_le _, rfl, by rw [Nat.mul_zero, BitVec.ushiftRight_zero]⟩
  case round =>
    obtain ⟨j, hj, rfl, rfl⟩ := hrel
    have h0 := N_nonneg (x >>> (8 * j))
    by_cases hlt : j < n
    · have hs : x >>> (8 * j) >>> 8 = x >>> (8 * (j + 1)) := by rw [← BitVec.shiftRight_add, Nat.mul_succ]
      have HS := Lib.hid hs
      clear hs
      go_wp2
      go_round
      case rel => exact ⟨j + 1, by omega, by go_num, by rw [HS.out]⟩
      case measure => simp [intOf]; omega
    · have hjn : j = n := by omega
      have HJ := Lib.hid hjn
      clear hjn
      go_wp2
      go_ret
      refine ⟨?_, rfl⟩
      rw [← HJ.out]; rfl
end Go.Proofs.Hc
/- append of a row of pairs to a row of the call's own. -/
namespace Go.Proofs.Hc
open Go.RowKit
theorem own_form {W : World} {base n size : Nat} {e : TypeId} {v : Value} {xs : List Value} (h : W.ownsRow base e size v n xs) : ∃ a c, v = .slice a n c := by
  obtain ⟨_, ⟨rfl, h0⟩ | ⟨g, cap, cur, hv, _⟩⟩ := h
  · exact ⟨none, 0, by rw [h0]⟩
  · exact ⟨_, _, hv⟩
end Go.Proofs.Hc
/- The reference of layer 1: a word's bytes, the word of bytes. -/
namespace Go.Proofs.Hc
open Go.RowKit
attribute [local go_sem] wrap_u64 wrap_u8 bits_xor64 bits_and64 bits_or64 bits_not64 bits_xor8 bits_and8 bits_or8 signed64 signed8 ofInt_N BitVec.ofInt_add BitVec.ofInt_mul ofInt_sub' ofInt8_N64 ofInt64_N8 wide8 eqN neN shr_pow shr1 shr7 shr56
attribute [local go_sem high] bits_com64 shl_wrap
attribute [local go_sem] cell_heap ice_heap cellAt_cells iceAt_cells setAt_cells rowAt_cells canLay_cells laidAt_cells size_onObj size_setCell rowRes_some layRes_true
attribute [local go_sem] load26 load73 load23 store26 build73
attribute [local go_sem ↓] lrow26 lrow73 lrow23 srow26 zero26 brow73 heap_alloc heap_drew heap_drewN heap_setCell heap_onObj
attribute [local go_sem] tcells_size hcells_size tcells_get hcells_get tcells_one hcells_one hcells_table tcells_table hcells_all hcells_ctrl tcells_ctrl
attribute [local go_sem] nn2 nm2 nn3 nm3 nn4 nm4 nn5 nm5 nn6 nm6 nn7 nm7 nn8 nm8
attribute [local go_sem] nn2 nm2 nn3 nm3 nn4 nm4 nn5 nm5 nn6 nm6 nn7 nm7 nn8 nm8
attribute [local go_sem] ofInt_N
/-- A word's bytes. -/
def bytesOf (x : BitVec 64) : List (BitVec 8) := (List.range 8).map (byteAt x)
def ycells (l : List (BitVec 8)) : List Value := l.map fun b => Y b
theorem infoY : (Tryz.prog.info? 5).map (fun i => (i.zero, i.size, i.bytes)) = some (some (.int .u8 0), 1, 1) := by kernel_rfl
theorem ycells_range (x : BitVec 64) (j : Nat) : ycells ((List.range (j + 1)).map (byteAt x)) = ycells ((List.range j).map (byteAt x)) ++ [Y (byteAt x j)] := by
  unfold ycells; rw [List.range_succ, List.map_append, List.map_append]; rfl
set_option maxHeartbeats 1000000 in
set_option maxRecDepth 100000 in
theorem rBytes_any (x : BitVec 64) (w : World) : Calls Tryz.prog 125 #[U x] w fun e w' => ∃ a c, e = .returned (.slice a 8 c) ∧ w'.ownsRow w.heap.size 5 1 (.slice a 8 c) 8 (ycells (bytesOf x)) ∧ Ch [] w w' := by
  obtain ⟨i0, hi, hz0, hz1, hz2⟩ := info_parts infoY
  go_enter Tryz.func125, Tryz.ntmps125
  go_wp2
  go_loopw [3, 5] (fun v i wr => ∃ j : Nat, i = .int .i64 j ∧ j ≤ 8 ∧ wr.ownsRow w.heap.size 5 1 v j (ycells ((List.range j).map (byteAt x))) ∧ Ch [] w wr) (fun _ i _ => 8 - (intOf i).toNat)
  case atStart => exact ⟨0, rfl, by omega, World.ownsRow_nil _ _ _ _, Ch.refl _ _⟩
  case round =>
    obtain ⟨j, hj, hj8, hown, hcr⟩ := hrel
    subst hj
    have hz := hcr.size
    by_cases hlt : j < 8
    · have A1 := fun w => rAt_any x j (by omega) w
      have HS := Lib.hid (ycells_range x j)
      have hob := own_block hown
      generalize ycells ((List.range j).map (byteAt x)) = ys at *
      go_wp2_with (first
        | (go_at_call 76; refine (A1 _).mono ?_; rintro e w' ⟨rfl, rfl⟩)
        | (at_builtin; refine wpList_append_own _ rfl _ _ 147 rfl w.heap.size 5 i0 (.int .u8 0) 1 1 Tryz.underlying147 hi hz0 hz1 hz2 rfl (by decide) _ _ _ rfl (hown.alloc _) ⟨wr.heap.size, 0, none⟩ 1 1 [Y (byteAt x j)] rfl rfl (cell_one_new _ _ _) (by simp [Value.oneCell']) (by unfold maxLen; omega) (by omega) (by simp; omega) ?_; intro v' w1 hown' hgrow _; have HO := Lib.hid hown'; have HG := Lib.hid hgrow; clear hown' hgrow))
      have hgr : (wr.alloc (.cells #[Y (byteAt x j)] 5)).grownBy w1 u3.ownBlock := HG.out
      have hW1 : Ch (u3.ownBlock.toList) wr w1 := (((Ch.refl [] wr).alloc (.cells #[Y (byteAt x j)] 5)).of_nil).trans2 (Ch.of_grown (S := u3.ownBlock.toList) hgr (fun k hk => by simp [hk])) (fun t ht => .inl ht)
      have hSS : ∀ s ∈ u3.ownBlock.toList, w.heap.size ≤ s := fun s hs => hob s (by simpa using hs)
      go_roundw
      case rel => exact ⟨j + 1, by go_num, hlt, by rw [HS.out]; exact HO.out, hcr.trans2 hW1 (fun t ht => .inr (hSS t ht))⟩
      case measure => simp [intOf]; omega
    · have hj8 : j = 8 := by omega
      subst hj8
      have HO := Lib.hid hown
      obtain ⟨a, c, rfl⟩ := own_form hown
      clear hown
      go_wp2
      go_ret
      exact ⟨a, c, rfl, HO.out, hcr⟩
end Go.Proofs.Hc
/- Tables compared with themselves. -/
namespace Go.Proofs.Hc
open Go.RowKit
/-- A value that is equal to itself. -/
def SelfEq (d : Nat) (T : TypeId) (v : Value) : Prop := ∀ w, (Op.equalIn d T v v).run Tryz.prog w = .ok true w
theorem self_int (d : Nat) (T : TypeId) (k k' : IntKind) (a : Int) (h : Tryz.prog.underlying T = some (.int k')) : SelfEq (d + 1) T (.int k a) := fun w => by
  rw [run_equalIn_int w d T k k' a a h, beq_self_eq_true]
theorem self_fields {d : Nat} {xs : Array Value} : ∀ (fs : List Field), (∀ f ∈ fs, ∃ a, (∀ w, (part f.type xs f.offset).run Tryz.prog w = .ok a w) ∧ SelfEq d f.type a) → ∀ w, (Op.eqFields d xs xs fs).run Tryz.prog w = .ok true w
  | [], _, w => by simp [Op.eqFields]
  | f :: fs, h, w => by
    obtain ⟨a, h1, h2⟩ := h f (by simp)
    have ih := self_fields fs (fun j hj => h j (by simp [hj])) w
    simp only [Op.eqFields]
    split
    · simp only [Sem.run_bind, h1, h2 w, Result.andThen_ok, Bool.not_true, Bool.false_eq_true, if_false, ih]
    · exact ih
theorem part_int {T : TypeId} {k : IntKind} (h : Tryz.prog.underlying T = some (.int k)) {xs : Array Value} {off : Nat} {v : Value} (hx : xs[off]? = some v) (w : World) : (part T xs off).run Tryz.prog w = .ok v w :=
  run_part_plain w (by simp [Program.plainKey, h]) hx
end Go.Proofs.Hc
/- A pen compared with itself. -/
namespace Go.Proofs.Hc
open Go.RowKit
theorem call_fields : (Tryz.prog.fieldsOf 68).toList.map (fun f => (f.type, f.offset)) = [(3, 0), (22, 1), (22, 2), (22, 3)] := by kernel_rfl
theorem call_under : Tryz.prog.underlying 68 = some (.struct (Tryz.prog.fieldsOf 68)) := by kernel_rfl
theorem call_stood : Tryz.prog.stoodInHeld 68 = false := by kernel_rfl
theorem call_cells : Tryz.prog.cellsOf 68 = 4 := by kernel_rfl
theorem pen_fields : (Tryz.prog.fieldsOf 71).toList.map (fun f => (f.type, f.offset)) = [(3, 0), (3, 1), (68, 2), (22, 6), (22, 7), (22, 8), (22, 9), (3, 10), (22, 11), (69, 12), (3, 13), (22, 14), (3, 15), (22, 16), (4, 17)] := by kernel_rfl
theorem pen_under : Tryz.prog.underlying 71 = some (.struct (Tryz.prog.fieldsOf 71)) := by kernel_rfl
theorem pen_stood : Tryz.prog.stoodInHeld 71 = false := by kernel_rfl
theorem mask_under : Tryz.prog.underlying 69 = some (.int .u8) := by kernel_rfl
theorem bool_under : Tryz.prog.underlying 4 = some .bool := by kernel_rfl
theorem self_bool (d : Nat) (T : TypeId) (a : Bool) (h : Tryz.prog.underlying T = some .bool) : SelfEq (d + 1) T (.bool a) := fun w => by
  rw [run_equalIn_bool' w d T a a h, beq_self_eq_true]
theorem part_bool {T : TypeId} (h : Tryz.prog.underlying T = some .bool) {xs : Array Value} {off : Nat} {v : Value} (hx : xs[off]? = some v) (w : World) : (part T xs off).run Tryz.prog w = .ok v w :=
  run_part_plain w (by simp [Program.plainKey, h]) hx
theorem self_call (d : Nat) (a : Int) (b c e : BitVec 64) : SelfEq (d + 2) 68 (.agg #[I a, U b, U c, U e]) := fun w => by
  rw [run_equalIn_agg w (d + 1) 68 _ _ call_under call_stood]
  refine self_fields _ (fun f hf => ?_) w
  have hm : (f.type, f.offset) ∈ [(3, 0), (22, 1), (22, 2), (22, 3)] := by
    rw [← call_fields]; exact List.mem_map.2 ⟨f, hf, rfl⟩
  generalize f.type = T at *
  generalize f.offset = o at *
  simp only [List.mem_cons, Prod.mk.injEq, List.not_mem_nil, or_false] at hm
  rcases hm with ⟨rfl, rfl⟩ | ⟨rfl, rfl⟩ | ⟨rfl, rfl⟩ | ⟨rfl, rfl⟩
  · exact ⟨I a, part_int Tryz.underlying3 rfl, self_int _ _ _ _ _ Tryz.underlying3⟩
  · exact ⟨U b, part_int Tryz.underlying22 rfl, self_int _ _ _ _ _ Tryz.underlying22⟩
  · exact ⟨U c, part_int Tryz.underlying22 rfl, self_int _ _ _ _ _ Tryz.underlying22⟩
  · exact ⟨U e, part_int Tryz.underlying22 rfl, self_int _ _ _ _ _ Tryz.underlying22⟩
theorem self_pen (d : Nat) (p : PenT) : SelfEq (d + 3) 71 (.agg (penC p)) := fun w => by
  rw [run_equalIn_agg w (d + 2) 71 _ _ pen_under pen_stood]
  refine self_fields _ (fun f hf => ?_) w
  have hm : (f.type, f.offset) ∈ [(3, 0), (3, 1), (68, 2), (22, 6), (22, 7), (22, 8), (22, 9), (3, 10), (22, 11), (69, 12), (3, 13), (22, 14), (3, 15), (22, 16), (4, 17)] := by
    rw [← pen_fields]; exact List.mem_map.2 ⟨f, hf, rfl⟩
  generalize f.type = T at *
  generalize f.offset = o at *
  obtain ⟨ic, hc⟩ := info_of_underlying (P := Tryz.prog) call_under
  simp only [List.mem_cons, Prod.mk.injEq, List.not_mem_nil, or_false] at hm
  rcases hm with ⟨rfl, rfl⟩ | ⟨rfl, rfl⟩ | ⟨rfl, rfl⟩ | ⟨rfl, rfl⟩ | ⟨rfl, rfl⟩ | ⟨rfl, rfl⟩ | ⟨rfl, rfl⟩ | ⟨rfl, rfl⟩ | ⟨rfl, rfl⟩ | ⟨rfl, rfl⟩ | ⟨rfl, rfl⟩ | ⟨rfl, rfl⟩ | ⟨rfl, rfl⟩ | ⟨rfl, rfl⟩ | ⟨rfl, rfl⟩
  · exact ⟨_, part_int Tryz.underlying3 (pen_g0 p), self_int _ _ _ _ _ Tryz.underlying3⟩
  · exact ⟨_, part_int Tryz.underlying3 (pen_g1 p), self_int _ _ _ _ _ Tryz.underlying3⟩
  · exact ⟨.agg #[I p.op, U p.key, U p.a, U p.b], fun w => by simp [part, isAgg, run_underlying call_under, run_sizeOf w hc, call_cells]; rfl, self_call _ _ _ _ _⟩
  · exact ⟨_, part_int Tryz.underlying22 (pen_g6 p), self_int _ _ _ _ _ Tryz.underlying22⟩
  · exact ⟨_, part_int Tryz.underlying22 (pen_g7 p), self_int _ _ _ _ _ Tryz.underlying22⟩
  · exact ⟨_, part_int Tryz.underlying22 (pen_g8 p), self_int _ _ _ _ _ Tryz.underlying22⟩
  · exact ⟨_, part_int Tryz.underlying22 (pen_g9 p), self_int _ _ _ _ _ Tryz.underlying22⟩
  · exact ⟨_, part_int Tryz.underlying3 (pen_g10 p), self_int _ _ _ _ _ Tryz.underlying3⟩
  · exact ⟨_, part_int Tryz.underlying22 (pen_g11 p), self_int _ _ _ _ _ Tryz.underlying22⟩
  · exact ⟨_, part_int mask_under (pen_g12 p), self_int _ _ _ _ _ mask_under⟩
  · exact ⟨_, part_int Tryz.underlying3 (pen_g13 p), self_int _ _ _ _ _ Tryz.underlying3⟩
  · exact ⟨_, part_int Tryz.underlying22 (pen_g14 p), self_int _ _ _ _ _ Tryz.underlying22⟩
  · exact ⟨_, part_int Tryz.underlying3 (pen_g15 p), self_int _ _ _ _ _ Tryz.underlying3⟩
  · exact ⟨_, part_int Tryz.underlying22 (pen_g16 p), self_int _ _ _ _ _ Tryz.underlying22⟩
  · exact ⟨_, part_bool bool_under (pen_g17 p), self_bool _ _ _ bool_under⟩
theorem eql_pen (p : PenT) (w : World) : (binOp .eql 71 (.agg (penC p)) (.agg (penC p))).run Tryz.prog w = .ok (.bool true) w := by
  rw [run_eql_struct, self_pen 9997 p w]; rfl
theorem neq_pen (p : PenT) (w : World) : (binOp .neq 71 (.agg (penC p)) (.agg (penC p))).run Tryz.prog w = .ok (.bool false) w := by
  rw [run_neq_struct, self_pen 9997 p w]; rfl
theorem guardPen (op : BinOp) (x y : Operand) (xs ys : Array Value) (w : World) : (eqGuard op 71 x y (.agg xs) (.agg ys)).run Tryz.prog w = .ok () w := run_eqGuard_agg w op 71 x y xs ys (by kernel_rfl)
end Go.Proofs.Hc
