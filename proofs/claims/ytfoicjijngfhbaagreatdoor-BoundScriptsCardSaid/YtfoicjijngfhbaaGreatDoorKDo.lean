/- slices.Sort at words: what it makes of a row of its own. -/
import Derived.Test.YtfoicjijngfhbaaGreatDoorKBc
import Derived.Test.YtfoicjijngfhbaaGreatDoorKBo
import Derived.Test.YtfoicjijngfhbaaGreatDoorKBu
import Derived.Test.YtfoicjijngfhbaaGreatDoorKDa
import Derived.Test.YtfoicjijngfhbaaGreatDoorKDn
import Derived.Test.YtfoicjijngfhbaaGreatDoorKHm
import Derived.Below
import Derived.BigQuiet
import Derived.Deep.Cut
import Derived.Deep.Draws
import Derived.Deep.QuietTactic
import Derived.Deep.RegionHeld
import Derived.Laws.AppendOwn
import Derived.Laws.Bits64
import Derived.Laws.Bits64b
import Derived.Laws.CopyRow
import Derived.Laws.EntriesVeiled
import Derived.Laws.Tables
import Derived.Lib.AppendZerosOnto
import Derived.Lib.BitFns
import Derived.Lib.Hide
import Derived.Lib.Slices
import Derived.Lib.Small
import Derived.Lib.Strings
import Derived.Lib.Walk
import Derived.LoopIn
import Derived.LoopNIn
import Derived.Maps.RangeWalk
import Derived.Maps.Views
import Derived.OwnWalkIn
import Derived.RangeFuncCalls
import Derived.RangeFuncRecord
import Derived.RangeFuncSeq
import Derived.Recover
import Derived.Sort.AssemblyPlain
import Derived.Sort.Defs
import Derived.Sort.LotC
import Derived.Sort.LotD1
import Derived.Sort.LotD5
import Derived.Sort.LotD6
import Derived.Sort.Walk13a
import Derived.TacticsInMore
import Derived.Test.YtfoicjijngfhbaaGreatDoorProg
import Derived.WalkKit
import Derived.WalkLawsBesides
set_option linter.unusedSimpArgs false
set_option linter.unusedVariables false
namespace Go.Proofs.Hc
open Go.RowKit Go.Sort
set_option linter.unusedVariables false
set_option linter.unusedSimpArgs false
attribute [local go_sem] Oper.semAt_some make_func1 make_funcB
theorem insert_nil (c : Nat) (w : World) : Calls Tryz.prog 70 #[.slice none 0 c, I 0, I 0] w fun e w' => e = .returned (.tuple #[]) ∧ w = w' := by
  go_enter Tryz.func70, Tryz.ntmps70
  go_wp2
  refine wp_loop_rounds 1 ?_
  rw [rounds_succ]
  go_wp2
  go_end0
  exact ⟨rfl, rfl⟩
theorem pdq_nil (c : Nat) (w : World) : Calls Tryz.prog 55 #[.slice none 0 c, I 0, I 0, I 0] w fun e w' => e = .returned (.tuple #[]) ∧ w = w' := by
  go_enter Tryz.func55, Tryz.ntmps55
  go_wp2
  refine wp_loop_rounds 1 ?_
  rw [rounds_succ]
  go_wp2_with (go_at_call 70; refine (insert_nil _ _).mono ?_; rintro e w' ⟨rfl, rfl⟩)
  exact bodyPost_ret (results_none rfl _ _ _) rfl ⟨rfl, rfl⟩
theorem len_same (n : Nat) (hn : n < 4611686018427387904) (w : World) : Calls Tryz.prog 56 #[.int .u64 n] w fun e w' => e = .returned (I (bitsLen n : Nat)) ∧ w = w' :=
  (len_any n hn w).mono fun _ _ h => ⟨h.1, h.2.symm⟩
/-- The row's cells: the words, then what lies behind. -/
theorem row_split {n : Nat} {xs : List (BitVec 64)} {cur : Array Value} (hx : xs.length = n) (h : cur.toList.take (n * 1) = xs.map fun k => U k) : dcells xs.toArray (cur.toList.drop n).toArray = cur := by
  apply Array.ext'
  unfold dcells
  rw [Nat.mul_one] at h
  rw [Array.toList_append, Array.toList_map]
  show (xs.map fun k => U k) ++ cur.toList.drop n = cur.toList
  rw [← h, List.take_append_drop]
theorem row_take {n : Nat} {d : Array (BitVec 64)} {z : Array Value} (hd : d.size = n) : (dcells d z).toList.take (n * 1) = d.toList.map fun k => U k := by
  unfold dcells
  rw [Array.toList_append, Array.toList_map, Nat.mul_one, List.take_left' (by simpa using hd)]
/-- The words in order. -/
def sortW (xs : List (BitVec 64)) : List (BitVec 64) := xs.mergeSort fun x y => !ltW y x
theorem sort_is (d : Array (BitVec 64)) : (Go.Sort.sort ltW d).toList = sortW d.toList ∧ (Go.Sort.sort ltW d).size = d.size := by
  have h := sort_sorts ltW swoW d
  exact ⟨sorted_unique_holds swoW ltW_eq d _ h.1 h.2, h.1.1⟩
set_option maxHeartbeats 1000000 in
theorem sort_all (xs : List (BitVec 64)) (hx1 : xs.length ≤ 1000000) : SortC xs (sortW xs) := by
  intro v w base hown
  have hys : (sortW xs).length = xs.length := List.length_mergeSort ..
  obtain ⟨n, hn⟩ : ∃ n, xs.length = n := ⟨_, rfl⟩
  rw [hn] at hown hys
  obtain ⟨hl, ⟨rfl, h0⟩ | ⟨q, cap, cur, rfl, hbq, hq, hnc, hcm, hcs, htake⟩⟩ := hown
  · have hx : xs = [] := List.eq_nil_of_length_eq_zero (by omega)
    subst hx
    have hb0 : bitsLen 0 = 0 := rfl
    have L := fun w => len_same 0 (by omega) w
    rw [hb0] at L
    go_enter Tryz.func46, Tryz.ntmps46
    go_wp2_with fail
    refine (L _).mono ?_
    rintro e w' ⟨rfl, rfl⟩
    clear L
    go_wp2_with fail
    refine (pdq_nil _ _).mono ?_
    rintro e w' ⟨rfl, rfl⟩
    go_wp2
    go_end0
    exact ⟨rfl, by rw [show sortW [] = [] from List.mergeSort_nil]; exact World.ownsRow_nil _ _ _ _, ⟨rfl, rfl, rfl, Nat.le_refl _, fun _ _ _ => rfl⟩⟩
  · have hn1 : n ≤ 1000000 := by omega
    have hd : xs.toArray.size = n := by simpa using hn
    have hrow : RowW w q xs.toArray (cur.toList.drop n).toArray := by
      unfold RowW
      rw [row_split hn htake]
      exact hq
    have hsrt := sort_is xs.toArray
    rw [hd] at hsrt
    have P := fun w h => pdq_any (n + 1) q cap 0 n (bitsLen n) n xs.toArray (cur.toList.drop n).toArray w (by omega) h (Nat.zero_le _) (Nat.le_refl _) hd (by omega) (by
      have := (bitsLen_le_iff n 60).2 (by omega)
      omega) (.inl rfl)
    have hss : pdq ltW xs.toArray 0 n (bitsLen n) true true = Go.Sort.sort ltW xs.toArray := by
      unfold Go.Sort.sort
      rw [hd]
    rw [hss] at P
    obtain ⟨D, hD⟩ : ∃ D, Go.Sort.sort ltW xs.toArray = D := ⟨_, rfl⟩
    rw [hD] at P hsrt
    obtain ⟨z, hz⟩ : ∃ z, (cur.toList.drop n).toArray = z := ⟨_, rfl⟩
    have hzs : n + z.size = cur.size := by
      have h1 : cur.toList.length = cur.size := Array.length_toList
      rw [← hz]
      simp
      have : n ≤ cur.size := by omega
      omega
    rw [hz] at P hrow
    have L := fun w => len_same n (by omega) w
    obtain ⟨bl, hbl⟩ : ∃ b, bitsLen n = b := ⟨_, rfl⟩
    rw [hbl] at L P
    have HF := Lib.hid (And.intro hsrt (And.intro hzs (And.intro hys hcs)))
    clear hss hD hz hd hsrt hbl hzs hq htake hl hn hcs hys
    have k1 : (n : Int) < 4611686018427387904 := by omega
    go_enter Tryz.func46, Tryz.ntmps46
    go_wp2_with fail
    refine (L _).mono ?_
    rintro e w' ⟨rfl, rfl⟩
    clear L
    go_wp2_with fail
    refine (P _ hrow).mono ?_
    rintro e w2 ⟨rfl, hr2, hc2⟩
    clear P hrow
    have HR := Lib.hid hr2
    clear hr2
    go_wp2
    go_end0
    obtain ⟨⟨t1, t2⟩, t3, t4, t5⟩ := HF.out
    refine ⟨rfl, ⟨?_, .inr ⟨q, cap, dcells D z, by rw [t4], hbq, HR.out, by rw [t4]; exact hnc, hcm, ?_, ?_⟩⟩, ⟨hc2.os, hc2.tape, hc2.output, hc2.size, fun k hk hne => hc2.block k hk (by simpa [Value.ownBlock] using fun e => hne (by rw [e]; rfl))⟩⟩
    · simp
    · unfold dcells
      rw [Array.size_append, Array.size_map, t2]
      omega
    · rw [t4, row_take t2, t1]
end Go.Proofs.Hc
