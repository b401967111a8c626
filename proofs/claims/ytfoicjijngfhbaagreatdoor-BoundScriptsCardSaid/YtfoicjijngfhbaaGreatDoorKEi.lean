/- bound: Comes, Parts, Enough, Least, as they are called. -/
import Derived.Test.YtfoicjijngfhbaaGreatDoorKBc
import Derived.Test.YtfoicjijngfhbaaGreatDoorKBd
import Derived.Test.YtfoicjijngfhbaaGreatDoorKBf
import Derived.Test.YtfoicjijngfhbaaGreatDoorKBk
import Derived.Test.YtfoicjijngfhbaaGreatDoorKBo
import Derived.Test.YtfoicjijngfhbaaGreatDoorKBu
import Derived.Test.YtfoicjijngfhbaaGreatDoorKBy
import Derived.Test.YtfoicjijngfhbaaGreatDoorKDa
import Derived.Test.YtfoicjijngfhbaaGreatDoorKDf
import Derived.Test.YtfoicjijngfhbaaGreatDoorKEa
import Derived.Test.YtfoicjijngfhbaaGreatDoorKEf
import Derived.Test.YtfoicjijngfhbaaGreatDoorKEg
import Derived.Test.YtfoicjijngfhbaaGreatDoorKEh
import Derived.Test.YtfoicjijngfhbaaGreatDoorKEk
import Derived.Test.YtfoicjijngfhbaaGreatDoorKHm
import Derived.Test.YtfoicjijngfhbaaGreatDoorKHr
import Derived.Below
import Derived.BigQuiet
import Derived.Deep.Cut
import Derived.Deep.Draws
import Derived.Deep.OwnRows
import Derived.Deep.QuietTactic
import Derived.Deep.RegionHeld
import Derived.Laws.AppendOwn
import Derived.Laws.Bits64
import Derived.Laws.Bits64b
import Derived.Laws.CopyOwn
import Derived.Laws.CopyRow
import Derived.Laws.EntriesVeiled
import Derived.Laws.IdiomCopy
import Derived.Laws.Tables
import Derived.Lib.AppendZerosOnto
import Derived.Lib.BitFns
import Derived.Lib.Hide
import Derived.Lib.Slices
import Derived.Lib.Small
import Derived.Lib.Strings
import Derived.Lib.Tables
import Derived.Lib.Walk
import Derived.LoopIn
import Derived.LoopNIn
import Derived.Maps.RangeWalk
import Derived.Maps.Views
import Derived.OwnWalkIn
import Derived.RangeFuncCalls
import Derived.RangeFuncRecord
import Derived.RangeFuncSeq
import Derived.Recover
import Derived.ScopeJumps
import Derived.Sort.AssemblyPlain
import Derived.Sort.Defs
import Derived.Sort.LotC
import Derived.Sort.LotD1
import Derived.Sort.LotD5
import Derived.Sort.LotD6
import Derived.Sort.Walk13a
import Derived.StillTail
import Derived.TacticsInMore
import Derived.Test.YtfoicjijngfhbaaGreatDoorProg
import Derived.WalkKit
import Derived.WalkLawsBesides
set_option linter.unusedSimpArgs false
set_option linter.unusedVariables false
namespace Go.Proofs.Hc
open Go.RowKit
set_option linter.unusedVariables false
set_option linter.unusedSimpArgs false
attribute [local go_sem] wrap_u64 wrap_u8 bits_xor64 bits_and64 bits_or64 bits_not64 bits_xor8 bits_and8 bits_or8 signed64 signed8 ofInt_N BitVec.ofInt_add BitVec.ofInt_mul ofInt_sub' ofInt8_N64 ofInt64_N8 wide8 eqN neN shr_pow shr1 shr7 shr56
attribute [local go_sem high] bits_com64 shl_wrap
attribute [local go_sem] nn2 nm2 nn3 nm3 nn4 nm4 nn5 nm5 nn6 nm6 nn7 nm7 nn8 nm8
attribute [local go_sem] Oper.semAt_some make_func1 make_funcB
attribute [local go_sem] cell_heap ice_heap cellAt_cells iceAt_cells setAt_cells size_setCell rowAt_cells canLay_cells laidAt_cells size_onObj rowRes_some layRes_true
attribute [local go_sem ↓] heap_alloc heap_drew heap_drewN heap_setCell heap_putObj heap_onObj
attribute [local go_sem] loadS box_sc loadP5 box_pl scC_size scC_all scC_seed
attribute [local go_sem ↓] lrowS lrowP5
/-- What panics with an errno. -/
abbrev pan (c : Int) : Ending := .panicked [{ v := .iface 29 (I c), recovered := false }]
set_option maxRecDepth 100000 in
theorem comes1_of (s : ScT) (b : Nat) (w : World) (R : RightSc w s) (T : TakesAt w) (hb : w.heap[b]? = some (.cells (scC s) 26 (0, 0))) : Calls Tryz.prog 24 #[.pointer (some ⟨b, 0, none⟩)] w fun e w' => ∃ v, e = .returned v ∧ w'.ownsRow w.heap.size 22 1 v (keysL (catL s.ls)).length ((keysL (catL s.ls)).map fun k => U k) ∧ Ch [] w w' := by
  have O1 := of_yes s w R T
  have M1 := fun w R => comes_of s w R
  go_enter Tryz.func24, Tryz.ntmps24
  go_wp2_with fail
  refine O1.mono ?_
  rintro e w2 ⟨rfl, hc2⟩
  have M2 := M1 w2 (R.ch hc2)
  clear O1 M1 R hb
  go_wp2_with fail
  refine M2.mono ?_
  rintro e w3 ⟨v, rfl, hown, hc3⟩
  have HO := Lib.hid (own_low hown hc2.size)
  obtain ⟨a, c, rfl⟩ := own_val hown
  clear hown M2
  go_wp2
  go_ret
  exact ⟨_, rfl, HO.out, hc2.trans hc3⟩
set_option maxRecDepth 100000 in
theorem comes1_no (s : ScT) (b : Nat) (w : World) (R : AnySc w s) (T : TakesAt w) (h : checkB s = false) (hb : w.heap[b]? = some (.cells (scC s) 26 (0, 0))) : Calls Tryz.prog 24 #[.pointer (some ⟨b, 0, none⟩)] w fun e w' => e = pan 130 ∧ Ch [] w w' := by
  have O1 := of_no s w R T h
  clear h
  go_enter Tryz.func24, Tryz.ntmps24
  go_wp2_with fail
  refine O1.mono ?_
  rintro e w2 ⟨rfl, hc2⟩
  exact ⟨rfl, rfl, hc2⟩
set_option maxRecDepth 100000 in
theorem comesP_of (s : ScT) (w : World) (R : RightSc w s) (T : TakesAt w) : Calls Tryz.prog 6 #[.agg (scC s)] w fun e w' => ∃ v, e = .returned (.tuple #[v, I 0]) ∧ w'.ownsRow w.heap.size 22 1 v (keysL (catL s.ls)).length ((keysL (catL s.ls)).map fun k => U k) ∧ Ch [] w w' := by
  obtain ⟨W, hW, C, hB⟩ := scbox s w
  obtain ⟨ks, hks⟩ : ∃ k, keysL (catL s.ls) = k := ⟨_, rfl⟩
  have M1 := fun b w R T hb => comes1_of s b w R T hb
  rw [hks] at M1 ⊢
  obtain ⟨n, hn⟩ : ∃ n, ks.length = n := ⟨_, rfl⟩
  rw [hn] at M1 ⊢
  have T1 : Calls Tryz.prog 23 #[.func (.func 24) #[] #[.pointer (some ⟨w.heap.size, 0, none⟩)]] W fun e w' => ∃ v, e = .returned (.tuple #[v, I 0]) ∧ w'.ownsRow w.heap.size 22 1 v n (ks.map fun k => U k) ∧ Ch [] W w' := by
    refine (triesBW_ok 24 _ W (fun x w' => w'.ownsRow (W.heap.size + 2) 22 1 (.slice x.1 x.2.1 x.2.2) n (ks.map fun k => U k)) (fun x A B h c => own_keep h c (by simp)) (fun _ _ => by kernel_rfl) (fun w1 hc hz => (M1 _ w1 (R.ch (C.trans hc)) (T.ch (C.trans hc)) (bkeep hc hB)).mono fun e w2 h => ?_)).mono ?_
    · obtain ⟨v, he, ho, hc2⟩ := h
      obtain ⟨a, c, rfl⟩ := own_val ho
      exact ⟨(a, n, c), he, own_low ho hz, hc2⟩
    · rintro e w' ⟨x, rfl, ho, hc⟩
      exact ⟨_, rfl, own_low ho (by have := C.size; omega), hc⟩
  clear R hB M1 hks hn T
  go_enter Tryz.func6, Tryz.ntmps6
  go_upto_region 1 with (fail)
  try rw [hW]
  clear hW
  go_wp2_with fail
  refine T1.mono ?_
  rintro e w2 ⟨v, rfl, hown, hc⟩
  have HO := Lib.hid hown
  obtain ⟨a, c, rfl⟩ := own_val hown
  clear hown T1
  go_wp2
  go_ret2
  exact ⟨_, rfl, HO.out, C.trans hc⟩
set_option maxRecDepth 100000 in
theorem comesP_no (s : ScT) (w : World) (R : AnySc w s) (T : TakesAt w) (h : checkB s = false) : Calls Tryz.prog 6 #[.agg (scC s)] w fun e w' => e = .returned (.tuple #[.slice none 0 0, I 130]) ∧ Ch [] w w' := by
  obtain ⟨W, hW, C, hB⟩ := scbox s w
  have T1 := triesBW_err 130 24 #[.pointer (some ⟨w.heap.size, 0, none⟩)] W (fun _ _ => by kernel_rfl) (fun w1 hc hz => comes1_no s _ w1 (R.ch (C.trans hc)) (T.ch (C.trans hc)) h (bkeep hc hB))
  clear R hB T h
  go_enter Tryz.func6, Tryz.ntmps6
  go_upto_region 1 with (fail)
  try rw [hW]
  clear hW
  go_wp2_with fail
  refine T1.mono ?_
  rintro e w2 ⟨rfl, hc⟩
  clear T1
  go_wp2
  go_ret2
  exact ⟨rfl, C.trans hc⟩
set_option maxRecDepth 100000 in
theorem parts1_of (s : ScT) (b : Nat) (w : World) (R : RightSc w s) (T : TakesAt w) (hb : w.heap[b]? = some (.cells (scC s) 26 (0, 0))) : Calls Tryz.prog 28 #[.pointer (some ⟨b, 0, none⟩)] w fun e w' => e = .returned (I (ptsS s)) ∧ Ch [] w w' := by
  have O1 := of_yes s w R T
  have M1 := fun w R => parts_of s w R
  obtain ⟨n, hn⟩ : ∃ n, ptsS s = n := ⟨_, rfl⟩
  rw [hn] at M1 ⊢
  clear hn
  go_enter Tryz.func28, Tryz.ntmps28
  go_wp2_with fail
  refine O1.mono ?_
  rintro e w2 ⟨rfl, hc2⟩
  have M2 := M1 w2 (R.ch hc2)
  clear O1 M1 R hb
  go_wp2_with fail
  refine M2.mono ?_
  rintro e w3 ⟨rfl, hc3⟩
  clear M2
  go_wp2
  go_ret
  exact ⟨rfl, hc2.trans hc3⟩
set_option maxRecDepth 100000 in
theorem parts1_no (s : ScT) (b : Nat) (w : World) (R : AnySc w s) (T : TakesAt w) (h : checkB s = false) (hb : w.heap[b]? = some (.cells (scC s) 26 (0, 0))) : Calls Tryz.prog 28 #[.pointer (some ⟨b, 0, none⟩)] w fun e w' => e = pan 130 ∧ Ch [] w w' := by
  have O1 := of_no s w R T h
  clear h
  go_enter Tryz.func28, Tryz.ntmps28
  go_wp2_with fail
  refine O1.mono ?_
  rintro e w2 ⟨rfl, hc2⟩
  exact ⟨rfl, rfl, hc2⟩
/-- What tries makes of what some call comes to. -/
theorem tries_of {df : Nat} {cap : Array Value} {w : World} {n : Int} (hdf : ∀ args w, (callFunc df args).run Tryz.prog w = .ok (.enter df args) w)
    (h : ∀ w1, Ch [] w w1 → Calls Tryz.prog df cap w1 fun e w' => e = .returned (I n) ∧ Ch [] w1 w') :
    Calls Tryz.prog 27 #[.func (.func df) #[] cap] w fun e w' => e = .returned (.tuple #[I n, I 0]) ∧ Ch [] w w' := by
  refine (triesBI_ok df cap w (fun x _ => x = n) (fun _ _ _ h _ => h) hdf (fun w1 hc hz => (h w1 hc).mono fun e w2 h => ⟨_, h.1, rfl, h.2⟩)).mono ?_
  rintro e w' ⟨x, rfl, rfl, hc⟩
  exact ⟨rfl, hc⟩
/-- The two that Parts gives. -/
def partsE (s : ScT) : Int × Int := if checkB s = true then ((ptsS s : Int), 0) else (0, 130)
set_option maxRecDepth 100000 in
theorem partsP_any (s : ScT) (w : World) (R : AnySc w s) (T : TakesAt w) : Calls Tryz.prog 7 #[.agg (scC s)] w fun e w' => e = .returned (.tuple #[I (partsE s).1, I (partsE s).2]) ∧ Ch [] w w' := by
  obtain ⟨W, hW, C, hB⟩ := scbox s w
  have T1 : Calls Tryz.prog 27 #[.func (.func 28) #[] #[.pointer (some ⟨w.heap.size, 0, none⟩)]] W fun e w' => e = .returned (.tuple #[I (partsE s).1, I (partsE s).2]) ∧ Ch [] W w' := by
    unfold partsE
    by_cases h : checkB s = true
    · rw [if_pos h]
      exact tries_of (fun _ _ => by kernel_rfl) (fun w1 hc => parts1_of s _ w1 ((R.ch (C.trans hc)).right h) (T.ch (C.trans hc)) (bkeep hc hB))
    · rw [if_neg h]
      exact triesBI_err 130 28 _ W (fun _ _ => by kernel_rfl) (fun w1 hc hz => parts1_no s _ w1 (R.ch (C.trans hc)) (T.ch (C.trans hc)) (by simpa using h) (bkeep hc hB))
  obtain ⟨p, hp⟩ : ∃ p, partsE s = p := ⟨_, rfl⟩
  rw [hp] at T1 ⊢
  obtain ⟨p1, p2⟩ := p
  dsimp only at T1 ⊢
  clear R hB T hp
  go_enter Tryz.func7, Tryz.ntmps7
  go_upto_region 1 with (fail)
  try rw [hW]
  clear hW
  go_wp2_with fail
  refine T1.mono ?_
  rintro e w2 ⟨rfl, hc⟩
  clear T1
  go_wp2
  go_ret2
  exact ⟨rfl, C.trans hc⟩
set_option maxRecDepth 100000 in
theorem enough1_of (s : ScT) (b : Nat) (w : World) (R : RightSc w s) (T : TakesAt w) (h5 : ptsS s ≤ 5) (hb : w.heap[b]? = some (.cells (scC s) 26 (0, 0))) : Calls Tryz.prog 31 #[.pointer (some ⟨b, 0, none⟩)] w fun e w' => e = .returned (I (lstS s)) ∧ Ch [] w w' := by
  have O1 := of_yes s w R T
  have M1 := fun w R => least_of s w R h5
  obtain ⟨n, hn⟩ : ∃ n, lstS s = n := ⟨_, rfl⟩
  rw [hn] at M1 ⊢
  clear hn h5
  go_enter Tryz.func31, Tryz.ntmps31
  go_wp2_with fail
  refine O1.mono ?_
  rintro e w2 ⟨rfl, hc2⟩
  have M2 := M1 w2 (R.ch hc2)
  clear O1 M1 R hb
  go_wp2_with fail
  refine M2.mono ?_
  rintro e w3 ⟨rfl, hc3⟩
  clear M2
  go_wp2
  go_ret
  exact ⟨rfl, hc2.trans hc3⟩
set_option maxRecDepth 100000 in
theorem enough1_deep (s : ScT) (b : Nat) (w : World) (R : RightSc w s) (T : TakesAt w) (h5 : ¬ ptsS s ≤ 5) (hb : w.heap[b]? = some (.cells (scC s) 26 (0, 0))) : Calls Tryz.prog 31 #[.pointer (some ⟨b, 0, none⟩)] w fun e w' => e = pan 2 ∧ Ch [] w w' := by
  have O1 := of_yes s w R T
  have M1 := fun w R => least_no s w R h5
  clear h5
  go_enter Tryz.func31, Tryz.ntmps31
  go_wp2_with fail
  refine O1.mono ?_
  rintro e w2 ⟨rfl, hc2⟩
  have M2 := M1 w2 (R.ch hc2)
  clear O1 M1 R hb
  go_wp2_with fail
  refine M2.mono ?_
  rintro e w3 ⟨rfl, hc3⟩
  exact ⟨rfl, rfl, hc2.trans hc3⟩
set_option maxRecDepth 100000 in
theorem enough1_no (s : ScT) (b : Nat) (w : World) (R : AnySc w s) (T : TakesAt w) (h : checkB s = false) (hb : w.heap[b]? = some (.cells (scC s) 26 (0, 0))) : Calls Tryz.prog 31 #[.pointer (some ⟨b, 0, none⟩)] w fun e w' => e = pan 130 ∧ Ch [] w w' := by
  have O1 := of_no s w R T h
  clear h
  go_enter Tryz.func31, Tryz.ntmps31
  go_wp2_with fail
  refine O1.mono ?_
  rintro e w2 ⟨rfl, hc2⟩
  exact ⟨rfl, rfl, hc2⟩
/-- Is there enough for a script? -/
def enoughB (s : ScT) : Bool := checkB s && ptsB s && decide (lstS s ≤ s.sl)
set_option maxRecDepth 100000 in
theorem enoughP_any (s : ScT) (w : World) (R : AnySc w s) (T : TakesAt w) : Calls Tryz.prog 9 #[.agg (scC s)] w fun e w' => e = .returned (.bool (enoughB s)) ∧ Ch [] w w' := by
  obtain ⟨W, hW, C, hB⟩ := scbox s w
  have T1 : ∃ x y : Int, (enoughB s = decide (y = 0 ∧ x ≤ s.sl)) ∧ Calls Tryz.prog 27 #[.func (.func 31) #[] #[.pointer (some ⟨w.heap.size, 0, none⟩)]] W fun e w' => e = .returned (.tuple #[I x, I y]) ∧ Ch [] W w' := by
    unfold enoughB ptsB
    by_cases h : checkB s = true
    · by_cases h5 : ptsS s ≤ 5
      · refine ⟨lstS s, 0, by simp [h, h5], ?_⟩
        exact tries_of (fun _ _ => by kernel_rfl) (fun w1 hc => enough1_of s _ w1 ((R.ch (C.trans hc)).right h) (T.ch (C.trans hc)) h5 (bkeep hc hB))
      · refine ⟨0, 2, by simp [h, h5], ?_⟩
        exact triesBI_err 2 31 _ W (fun _ _ => by kernel_rfl) (fun w1 hc hz => enough1_deep s _ w1 ((R.ch (C.trans hc)).right h) (T.ch (C.trans hc)) h5 (bkeep hc hB))
    · refine ⟨0, 130, by simp [h], ?_⟩
      exact triesBI_err 130 31 _ W (fun _ _ => by kernel_rfl) (fun w1 hc hz => enough1_no s _ w1 (R.ch (C.trans hc)) (T.ch (C.trans hc)) (by simpa using h) (bkeep hc hB))
  obtain ⟨x, y, hxy, T1⟩ := T1
  rw [hxy]
  clear R T hxy
  obtain ⟨B, hBe⟩ : ∃ B, w.heap.size = B := ⟨_, rfl⟩
  rw [hBe] at hB T1
  have hc1 : (scC s)[1]? = some (I s.sl) := rfl
  rcases (show y = 0 ∨ ¬ y = 0 by omega) with hy | hy
  · subst hy
    rw [show decide ((0 : Int) = 0 ∧ x ≤ s.sl) = decide (x ≤ s.sl) by simp]
    go_enter Tryz.func9, Tryz.ntmps9
    go_upto_region 1 with (fail)
    try rw [hW]
    try rw [hBe]
    clear hW hBe
    go_wp2_with fail
    refine T1.mono ?_
    rintro e w2 ⟨rfl, hc⟩
    have hB2 := bkeep hc hB
    clear T1 hB
    go_wp2
    go_ret
    exact ⟨rfl, C.trans hc⟩
  · rw [show decide (y = 0 ∧ x ≤ s.sl) = false from decide_eq_false (fun h => hy h.1)]
    have hye : (y == 0) = false := by simpa using hy
    go_enter Tryz.func9, Tryz.ntmps9
    go_upto_region 1 with (fail)
    try rw [hW]
    try rw [hBe]
    clear hW hBe
    go_wp2_with fail
    refine T1.mono ?_
    rintro e w2 ⟨rfl, hc⟩
    have hB2 := bkeep hc hB
    clear T1 hB
    go_wp2
    go_ret
    exact ⟨rfl, C.trans hc⟩
/-- The two that Least gives. -/
def leastE (ss : List ScT) : Int × Int := if ss.all checkB = true then (if ss.all ptsB = true then (mostS ss, 0) else (0, 2)) else (0, 130)
set_option maxRecDepth 100000 in
theorem leastP_any (ss : List ScT) (Q c : Nat) (w : World) (hss : ss.length ≤ 1000) (hA : ∀ s ∈ ss, AnySc w s) (hT : TakesAt w) (hQ : RowsSc w Q ss) : Calls Tryz.prog 14 #[.slice (some ⟨Q, 0, none⟩) ss.length c] w fun e w' => e = .returned (.tuple #[I (leastE ss).1, I (leastE ss).2]) ∧ Ch [] w w' := by
  obtain ⟨W, hW, C, hB⟩ := box_sl _ w (some ⟨Q, 0, none⟩) ss.length c rfl
  have L1 := fun w1 (hc : Ch [] W w1) => least1_any ss _ Q c w1 hss (fun s hs => (hA s hs).ch (C.trans hc)) (hT.ch (C.trans hc)) (bkeep hc hB) (hQ.ch (C.trans hc))
  have T1 : Calls Tryz.prog 27 #[.func (.func 34) #[] #[.pointer (some ⟨w.heap.size, 0, none⟩)]] W fun e w' => e = .returned (.tuple #[I (leastE ss).1, I (leastE ss).2]) ∧ Ch [] W w' := by
    unfold leastE
    by_cases h : ss.all checkB = true
    · rw [if_pos h]
      by_cases h5 : ss.all ptsB = true
      · rw [if_pos h5]
        refine tries_of (fun _ _ => by kernel_rfl) (fun w1 hc => (L1 w1 hc).mono ?_)
        rintro e w' (⟨_, _, he, hc'⟩ | ⟨h', _⟩ | ⟨_, h', _⟩)
        · exact ⟨he, hc'⟩
        · rw [h] at h'; cases h'
        · rw [h5] at h'; cases h'
      · rw [if_neg h5]
        refine triesBI_err 2 34 _ W (fun _ _ => by kernel_rfl) (fun w1 hc hz => (L1 w1 hc).mono ?_)
        rintro e w' (⟨_, h', _⟩ | ⟨h', _⟩ | ⟨_, _, he, hc'⟩)
        · exact absurd h' h5
        · rw [h] at h'; cases h'
        · exact ⟨he, hc'⟩
    · rw [if_neg h]
      refine triesBI_err 130 34 _ W (fun _ _ => by kernel_rfl) (fun w1 hc hz => (L1 w1 hc).mono ?_)
      rintro e w' (⟨h', _⟩ | ⟨_, he, hc'⟩ | ⟨h', _⟩)
      · exact absurd h' h
      · exact ⟨he, hc'⟩
      · exact absurd h' h
  obtain ⟨p, hp⟩ : ∃ p, leastE ss = p := ⟨_, rfl⟩
  rw [hp] at T1 ⊢
  obtain ⟨p1, p2⟩ := p
  dsimp only at T1 ⊢
  obtain ⟨n, hn⟩ : ∃ n, ss.length = n := ⟨_, rfl⟩
  rw [hn] at hW hB ⊢
  clear hA hT hQ hB L1 hp hn hss
  obtain ⟨B, hBe⟩ : ∃ B, w.heap.size = B := ⟨_, rfl⟩
  rw [hBe] at T1
  go_enter Tryz.func14, Tryz.ntmps14
  go_upto_region 1 with (fail)
  try rw [hW]
  try rw [hBe]
  clear hW hBe
  go_wp2_with fail
  refine T1.mono ?_
  rintro e w2 ⟨rfl, hc⟩
  go_wp2
  go_ret2
  exact ⟨rfl, C.trans hc⟩
end Go.Proofs.Hc
