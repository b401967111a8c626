/- slices.Clone at words and at calls. -/
import Derived.Test.YtfoicjijngfhbaaGreatDoorKBc
import Derived.Test.YtfoicjijngfhbaaGreatDoorKBf
import Derived.Test.YtfoicjijngfhbaaGreatDoorKBk
import Derived.Test.YtfoicjijngfhbaaGreatDoorKBo
import Derived.Test.YtfoicjijngfhbaaGreatDoorKBu
import Derived.Test.YtfoicjijngfhbaaGreatDoorKDa
import Derived.Test.YtfoicjijngfhbaaGreatDoorKDf
import Derived.Test.YtfoicjijngfhbaaGreatDoorKEf
import Derived.Test.YtfoicjijngfhbaaGreatDoorKEk
import Derived.Test.YtfoicjijngfhbaaGreatDoorKFe
import Derived.Test.YtfoicjijngfhbaaGreatDoorKFf
import Derived.Test.YtfoicjijngfhbaaGreatDoorKHm
import Derived.Test.YtfoicjijngfhbaaGreatDoorKHr
import Derived.Below
import Derived.BigQuiet
import Derived.Deep.Cut
import Derived.Deep.CutRange
import Derived.Deep.Draws
import Derived.Deep.OwnRows
import Derived.Deep.QuietTactic
import Derived.Deep.RegionHeld
import Derived.Laws.AppendOwn
import Derived.Laws.Bits64
import Derived.Laws.Bits64b
import Derived.Laws.CopyOwn
import Derived.Laws.CopyRow
import Derived.Laws.EntriesVeiled
import Derived.Laws.IdiomCopy
import Derived.Laws.Tables
import Derived.Lib.AppendZerosOnto
import Derived.Lib.BitFns
import Derived.Lib.Hide
import Derived.Lib.Slices
import Derived.Lib.Small
import Derived.Lib.Strings
import Derived.Lib.Tables
import Derived.Lib.Walk
import Derived.LoopIn
import Derived.LoopNIn
import Derived.Maps.RangeWalk
import Derived.Maps.Views
import Derived.OwnWalkIn
import Derived.RangeFuncCalls
import Derived.RangeFuncRecord
import Derived.RangeFuncSeq
import Derived.Recover
import Derived.Sort.AssemblyPlain
import Derived.Sort.Defs
import Derived.Sort.LotC
import Derived.Sort.LotD1
import Derived.Sort.LotD5
import Derived.Sort.LotD6
import Derived.Sort.Walk13a
import Derived.StillTail
import Derived.TacticsInMore
import Derived.Test.YtfoicjijngfhbaaGreatDoorProg
import Derived.WalkKit
import Derived.WalkLawsBesides
set_option linter.unusedSimpArgs false
set_option linter.unusedVariables false
namespace Go.Proofs.Hc
open Go.RowKit
set_option linter.unusedVariables false
set_option linter.unusedSimpArgs false
attribute [local go_sem] wrap_u64 wrap_u8 bits_xor64 bits_and64 bits_or64 bits_not64 bits_xor8 bits_and8 bits_or8 signed64 signed8 ofInt_N BitVec.ofInt_add BitVec.ofInt_mul ofInt_sub' ofInt8_N64 ofInt64_N8 wide8 eqN neN shr_pow shr1 shr7 shr56
attribute [local go_sem high] bits_com64 shl_wrap
attribute [local go_sem] nn2 nm2 nn3 nm3 nn4 nm4 nn5 nm5 nn6 nm6 nn7 nm7 nn8 nm8
attribute [local go_sem] Oper.semAt_some make_func1 make_funcB
attribute [local go_sem] cell_heap ice_heap cellAt_cells iceAt_cells setAt_cells size_setCell rowAt_cells canLay_cells laidAt_cells size_onObj rowRes_some layRes_true
attribute [local go_sem ↓] heap_alloc heap_drew heap_drewN heap_setCell heap_putObj heap_onObj
set_option maxHeartbeats 1000000 in
set_option maxRecDepth 100000 in
theorem cloneW_any (a : Option Addr) (n c : Nat) (ks : List (BitVec 64)) (hl : ks.length = n) (hn : n ≤ 900000) (w : World) (hk : KW w a ks) :
    Calls Tryz.prog 21 #[.slice a n c] w fun e w' => ∃ v, e = .returned v ∧ w'.ownsRow w.heap.size 22 1 v n (ks.map fun k => U k) ∧ Ch [] w w' := by
  have q22 : ∀ (w : World) (a : Option Addr) (n c n' c' : Nat), (binOp .eql 24 (.slice a n c) (.slice none n' c')).run Tryz.prog w = .ok (.bool a.isNone) w := fun w a n c n' c' => Lib.run_eql_slice_nil w _ _ a n c n' c' Tryz.underlying24
  cases a with
  | none =>
    have hks : ks = [] := by
      rcases hk with h | ⟨q, o, h, _⟩
      · exact h
      · cases h
    subst hks
    have hn0 : n = 0 := hl.symm
    subst hn0
    go_enter Tryz.func21, Tryz.ntmps21
    go_wp2
    go_ret
    exact ⟨_, rfl, World.ownsRow_nil _ _ _ _, Ch.refl _ _⟩
  | some x =>
    have hmade := made_own w
    have hcA : Ch [] w (w.alloc (.cells #[] 22)) := (Ch.refl [] w).alloc _
    obtain ⟨v', w1, hrun, hown, hgr⟩ := append_kw (w.alloc (.cells #[] 22)) w.heap.size _ 0 [] hmade (some x) n c ks hl (hk.ch hcA) (by omega) hcA.size
    rw [Nat.zero_add, List.nil_append] at hown
    have hc1 : Ch [] w w1 := hcA.trans2 hgr (fun t ht => .inr (own_blk hmade t ht))
    have bs : ∀ w : World, (Instr.buildSlice 24 0 #[]).run Tryz.prog w = .ok (.slice (some ⟨w.heap.size, 0, none⟩) 0 0) (w.alloc (.cells #[] 22)) := fun w => by kernel_rfl
    have HO := Lib.hid hown
    have HC := Lib.hid hc1
    obtain ⟨a', c', rfl⟩ := own_val hown
    clear hk hmade hcA hgr hown hc1
    go_enter Tryz.func21, Tryz.ntmps21
    go_wp2_with (at_builtin; refine Lib.wpList_append_run _ rfl _ _ 24 24 rfl _ _ rfl rfl _ _ hrun ?_)
    go_ret
    exact ⟨_, rfl, HO.out, HC.out⟩
theorem madeC_own (w : World) : (w.alloc (.cells #[] 44)).ownsRow w.heap.size 44 4 (.slice (some ⟨w.heap.size, 0, none⟩) 0 0) 0 [] := World.ownsRow_made w #[] 0 (Nat.le_refl _) (Nat.zero_le _) (by simp)
set_option maxHeartbeats 1000000 in
set_option maxRecDepth 100000 in
theorem cloneC_any (a : Option Addr) (n c : Nat) (l : List CallT) (hl : l.length = n) (hn : n ≤ 900000) (w : World) (hk : RowAt w a l) :
    Calls Tryz.prog 22 #[.slice a n c] w fun e w' => ∃ v, e = .returned v ∧ w'.ownsRow w.heap.size 44 4 v n (crow l) ∧ Ch [] w w' := by
  have q22 : ∀ (w : World) (a : Option Addr) (n c n' c' : Nat), (binOp .eql 45 (.slice a n c) (.slice none n' c')).run Tryz.prog w = .ok (.bool a.isNone) w := fun w a n c n' c' => Lib.run_eql_slice_nil w _ _ a n c n' c' Tryz.underlying45
  cases a with
  | none =>
    have hks : l = [] := by
      rcases hk with h | ⟨q, o, h, _⟩
      · exact h
      · cases h
    subst hks
    have hn0 : n = 0 := hl.symm
    subst hn0
    go_enter Tryz.func22, Tryz.ntmps22
    go_wp2
    go_ret
    exact ⟨_, rfl, World.ownsRow_nil _ _ _ _, Ch.refl _ _⟩
  | some x =>
    have hmade := madeC_own w
    have hcA : Ch [] w (w.alloc (.cells #[] 44)) := (Ch.refl [] w).alloc _
    have hap := append_calls (w.alloc (.cells #[] 44)) w.heap.size _ 0 [] hmade ⟨some x, c, l⟩ (hk.ch hcA) (by dsimp only; omega) hcA.size
    dsimp only [ListT.val] at hap
    rw [hl, Nat.zero_add, List.nil_append] at hap
    obtain ⟨v', w1, hrun, hown, hgr⟩ := hap
    have hc1 : Ch [] w w1 := hcA.trans2 (Ch.of_grown (S := [w.heap.size]) hgr (fun k hk => by simp [Value.ownBlock] at hk; simp [hk])) (by simp)
    have bs : ∀ w : World, (Instr.buildSlice 45 0 #[]).run Tryz.prog w = .ok (.slice (some ⟨w.heap.size, 0, none⟩) 0 0) (w.alloc (.cells #[] 44)) := fun w => by kernel_rfl
    have HO := Lib.hid hown
    have HC := Lib.hid hc1
    obtain ⟨a', c', rfl⟩ := own_val hown
    clear hk hmade hcA hgr hown hc1
    go_enter Tryz.func22, Tryz.ntmps22
    go_wp2_with (at_builtin; refine Lib.wpList_append_run _ rfl _ _ 45 45 rfl _ _ rfl rfl _ _ hrun ?_)
    go_ret
    exact ⟨_, rfl, HO.out, HC.out⟩
end Go.Proofs.Hc
