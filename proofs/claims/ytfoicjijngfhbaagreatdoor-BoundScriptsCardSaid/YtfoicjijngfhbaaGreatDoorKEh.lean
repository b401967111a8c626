/- bound: Least, Comes, Parts, Enough of any scripts. -/
import Derived.Test.YtfoicjijngfhbaaGreatDoorKBc
import Derived.Test.YtfoicjijngfhbaaGreatDoorKBd
import Derived.Test.YtfoicjijngfhbaaGreatDoorKBe
import Derived.Test.YtfoicjijngfhbaaGreatDoorKBf
import Derived.Test.YtfoicjijngfhbaaGreatDoorKBk
import Derived.Test.YtfoicjijngfhbaaGreatDoorKBu
import Derived.Test.YtfoicjijngfhbaaGreatDoorKBw
import Derived.Test.YtfoicjijngfhbaaGreatDoorKDa
import Derived.Test.YtfoicjijngfhbaaGreatDoorKDf
import Derived.Test.YtfoicjijngfhbaaGreatDoorKEa
import Derived.Test.YtfoicjijngfhbaaGreatDoorKEf
import Derived.Test.YtfoicjijngfhbaaGreatDoorKEg
import Derived.Test.YtfoicjijngfhbaaGreatDoorKEk
import Derived.Test.YtfoicjijngfhbaaGreatDoorKHm
import Derived.Test.YtfoicjijngfhbaaGreatDoorKHr
import Derived.Below
import Derived.BigQuiet
import Derived.Deep.Cut
import Derived.Deep.Draws
import Derived.Deep.OwnRows
import Derived.Deep.QuietTactic
import Derived.Deep.RegionHeld
import Derived.Laws.AppendOwn
import Derived.Laws.Bits64
import Derived.Laws.Bits64b
import Derived.Laws.CopyOwn
import Derived.Laws.CopyRow
import Derived.Laws.EntriesVeiled
import Derived.Laws.IdiomCopy
import Derived.Laws.Tables
import Derived.Lib.AppendZerosOnto
import Derived.Lib.BitFns
import Derived.Lib.Hide
import Derived.Lib.Slices
import Derived.Lib.Small
import Derived.Lib.Strings
import Derived.Lib.Tables
import Derived.Lib.Walk
import Derived.LoopIn
import Derived.LoopNIn
import Derived.Maps.RangeWalk
import Derived.Maps.Views
import Derived.OwnWalkIn
import Derived.RangeFuncCalls
import Derived.RangeFuncRecord
import Derived.RangeFuncSeq
import Derived.Recover
import Derived.ScopeJumps
import Derived.Sort.AssemblyPlain
import Derived.Sort.Defs
import Derived.Sort.LotC
import Derived.Sort.LotD1
import Derived.Sort.LotD5
import Derived.Sort.LotD6
import Derived.Sort.Walk13a
import Derived.StillTail
import Derived.TacticsInMore
import Derived.Test.YtfoicjijngfhbaaGreatDoorProg
import Derived.WalkKit
import Derived.WalkLawsBesides
set_option linter.unusedSimpArgs false
set_option linter.unusedVariables false
namespace Go.Proofs.Hc
open Go.RowKit
set_option linter.unusedVariables false
set_option linter.unusedSimpArgs false
attribute [local go_sem] wrap_u64 wrap_u8 bits_xor64 bits_and64 bits_or64 bits_not64 bits_xor8 bits_and8 bits_or8 signed64 signed8 ofInt_N BitVec.ofInt_add BitVec.ofInt_mul ofInt_sub' ofInt8_N64 ofInt64_N8 wide8 eqN neN shr_pow shr1 shr7 shr56
attribute [local go_sem high] bits_com64 shl_wrap
attribute [local go_sem] nn2 nm2 nn3 nm3 nn4 nm4 nn5 nm5 nn6 nm6 nn7 nm7 nn8 nm8
attribute [local go_sem] Oper.semAt_some make_func1 make_funcB
attribute [local go_sem] cell_heap ice_heap cellAt_cells iceAt_cells setAt_cells size_setCell rowAt_cells canLay_cells laidAt_cells size_onObj rowRes_some layRes_true
attribute [local go_sem ↓] heap_alloc heap_drew heap_drewN heap_setCell heap_putObj heap_onObj
attribute [local go_sem] loadS box_sc loadP5 box_pl scC_size scC_all scC_seed
attribute [local go_sem ↓] lrowS lrowP5
/-- Scripts side by side. -/
def RowsSc (w : World) (Q : Nat) (ss : List ScT) : Prop := ∃ cur : Array Value, w.heap[Q]? = some (.cells cur 26 (0, 0)) ∧ ∀ (j : Nat) s, ss[j]? = some s → rowAt (j * 5) 5 (.cells cur 26 (0, 0)) = some (scC s)
theorem RowsSc.ch {w w' : World} {Q : Nat} {ss : List ScT} (h : RowsSc w Q ss) (c : Ch [] w w') : RowsSc w' Q ss := by
  obtain ⟨cur, h1, h2⟩ := h
  exact ⟨cur, bkeep c h1, h2⟩
theorem RowsSc.row {w : World} {Q : Nat} {ss : List ScT} (h : RowsSc w Q ss) {j : Nat} {s : ScT} (hj : ss[j]? = some s) : (w.heap[Q]?).bind (rowAt (j * 5) 5) = some (scC s) := by
  obtain ⟨cur, h1, h2⟩ := h
  rw [h1, Option.bind_some]
  exact h2 j s hj
def mostS (ss : List ScT) : Int := ss.foldl (fun m s => max m (lstS s)) 2
theorem mostS_snoc (ss : List ScT) (s : ScT) : mostS (ss ++ [s]) = max (mostS ss) (lstS s) := by
  unfold mostS
  rw [List.foldl_append]
  rfl
theorem lstS_le (s : ScT) : 2 ≤ lstS s ∧ lstS s ≤ 95 := by
  unfold lstS slabsB
  have := splitsB_le (k := ((keysL (catL s.ls)).length : Int)) (by omega)
  omega
theorem mostS_le (ss : List ScT) : 2 ≤ mostS ss ∧ mostS ss ≤ 95 := by
  have key : ∀ (l : List ScT) (m : Int), 2 ≤ m → m ≤ 95 → 2 ≤ l.foldl (fun m s => max m (lstS s)) m ∧ l.foldl (fun m s => max m (lstS s)) m ≤ 95 := by
    intro l
    induction l with
    | nil => intro m h1 h2; exact ⟨h1, h2⟩
    | cons s l ih =>
      intro m h1 h2
      have := lstS_le s
      exact ih _ (show 2 ≤ max m (lstS s) by omega) (show max m (lstS s) ≤ 95 by omega)
  exact key ss 2 (by omega) (by omega)
def ptsB (s : ScT) : Bool := decide (ptsS s ≤ 5)
/-- Where Least stands at its second label. -/
def LeastN (w : World) (b n : Nat) (ss : List ScT) (a : Act) (wr : World) : Prop :=
  ∃ (q4 q5 q6 q7 q8 q9 q10 q11 q12 q13 q14 q15 q16 q17 q18 q19 q20 q21 q22 q23 q24 q25 q26 q27 q28 q29 : Value) (j : Nat), a = { tmps := #[.pointer (some ⟨b, 0, none⟩), I 0, I j, I (mostS (ss.take j)), q4, q5, q6, q7, q8, q9, q10, q11, q12, q13, q14, q15, q16, q17, q18, q19, q20, q21, q22, q23, q24, q25, q26, q27, q28, q29], defers := [] } ∧ j ≤ n ∧ ss.all checkB = true ∧ (ss.take j).all ptsB = true ∧ Ch [] w wr
theorem all_snoc {f : ScT → Bool} {ss : List ScT} {j : Nat} {s : ScT} (hj : ss[j]? = some s) : (ss.take (j + 1)).all f = ((ss.take j).all f && f s) := by
  rw [take_snoc hj, List.all_append]
  simp
theorem all_bad {f : ScT → Bool} {ss : List ScT} {j : Nat} {s : ScT} (hj : ss[j]? = some s) (h : f s = false) : ss.all f = false := by
  cases hh : ss.all f with
  | false => rfl
  | true =>
    have := List.all_eq_true.1 hh s (List.mem_of_getElem? hj)
    rw [h] at this
    cases this
set_option maxHeartbeats 1000000 in
set_option maxRecDepth 100000 in
theorem least1_any (ss : List ScT) (b Q c : Nat) (w : World) (hss : ss.length ≤ 1000) (hA : ∀ s ∈ ss, AnySc w s) (hT : TakesAt w) (hb : w.heap[b]? = some (.cells #[.slice (some ⟨Q, 0, none⟩) ss.length c] 57 (0, 0))) (hQ : RowsSc w Q ss) :
    Calls Tryz.prog 34 #[.pointer (some ⟨b, 0, none⟩)] w fun e w' => (ss.all checkB = true ∧ ss.all ptsB = true ∧ e = .returned (I (mostS ss)) ∧ Ch [] w w') ∨ (ss.all checkB = false ∧ e = .panicked [{ v := .iface 29 (I 130), recovered := false }] ∧ Ch [] w w') ∨ (ss.all checkB = true ∧ ss.all ptsB = false ∧ e = .panicked [{ v := .iface 29 (I 2), recovered := false }] ∧ Ch [] w w') := by
  obtain ⟨Post, hPost⟩ : ∃ P : Ending → World → Prop, P = fun e w' => (ss.all checkB = true ∧ ss.all ptsB = true ∧ e = .returned (I (mostS ss)) ∧ Ch [] w w') ∨ (ss.all checkB = false ∧ e = .panicked [{ v := .iface 29 (I 130), recovered := false }] ∧ Ch [] w w') ∨ (ss.all checkB = true ∧ ss.all ptsB = false ∧ e = .panicked [{ v := .iface 29 (I 2), recovered := false }] ∧ Ch [] w w') := ⟨_, rfl⟩
  rw [← hPost]
  have HP1 := Lib.hid (show ∀ w', ss.all checkB = true → ss.all ptsB = true → Ch [] w w' → Post (.returned (I (mostS ss))) w' from fun w' h1 h2 h3 => by rw [hPost]; exact .inl ⟨h1, h2, rfl, h3⟩)
  have HP2 := Lib.hid (show ∀ w', ss.all checkB = false → Ch [] w w' → Post (.panicked [{ v := .iface 29 (I 130), recovered := false }]) w' from fun w' h1 h3 => by rw [hPost]; exact .inr (.inl ⟨h1, rfl, h3⟩))
  have HP3 := Lib.hid (show ∀ w', ss.all checkB = true → ss.all ptsB = false → Ch [] w w' → Post (.panicked [{ v := .iface 29 (I 2), recovered := false }]) w' from fun w' h1 h2 h3 => by rw [hPost]; exact .inr (.inr ⟨h1, h2, rfl, h3⟩))
  clear hPost
  obtain ⟨n, hn⟩ : ∃ n, ss.length = n := ⟨_, rfl⟩
  rw [hn] at hb hss
  have HA := Lib.hid hA
  have HT := Lib.hid hT
  have HB := Lib.hid hb
  have HQ := Lib.hid hQ
  have HN := Lib.hid hn
  clear hA hT hb hQ hn
  go_enter Tryz.func34, Tryz.ntmps34
  go_wp2
  refine scope_jumpsB 1 (LeastN w b n ss) (fun a _ => n - (intOf (a.tmps.getD 2 undef)).toNat) rfl ?_ ?_
  · rintro a0 wr ⟨q4, q5, q6, q7, q8, q9, q10, q11, q12, q13, q14, q15, q16, q17, q18, q19, q20, q21, q22, q23, q24, q25, q26, q27, q28, q29, j, rfl, hj, hck, hpt, hC⟩
    have hb1 := bkeep hC HB.out
    rcases (show ¬ j < n ∨ j < n by omega) with hge | hlt
    · have hgeI : ¬ (j : Int) < n := by omega
      rw [List.take_of_length_le (by have := HN.out; omega)] at hpt ⊢
      have HE := Lib.hid (HP1.out wr hck hpt hC)
      go_wp2
      exact HE.out
    · have hjI : (j : Int) < n := by omega
      obtain ⟨s, hs⟩ : ∃ s, ss[j]? = some s := ⟨_, List.getElem?_eq_getElem (by have := HN.out; omega)⟩
      have hr := (HQ.out.ch hC).row hs
      have hAs := (HA.out s (List.mem_of_getElem? hs)).ch hC
      have hcs : checkB s = true := List.all_eq_true.1 hck s (List.mem_of_getElem? hs)
      have R1 := hAs.right hcs
      have O1 := of_yes s wr R1 (HT.out.ch hC)
      have hm0 := mostS_le (ss.take j)
      have E1 : mostS (ss.take (j + 1)) = max (mostS (ss.take j)) (lstS s) := by rw [take_snoc hs, mostS_snoc]
      have E2 := all_snoc (f := ptsB) hs
      have hbad := fun h => all_bad (f := ptsB) hs h
      obtain ⟨mm, hmm⟩ : ∃ m, mostS (ss.take j) = m := ⟨_, rfl⟩
      rw [hmm] at hm0 E1 ⊢
      rw [hpt] at E2
      have HE1 := Lib.hid E1
      have HE2 := Lib.hid E2
      have HBD := Lib.hid hbad
      have HCK := Lib.hid hck
      clear hs hAs hcs hmm E1 E2 hbad hck hpt
      go_wp2_with fail
      refine O1.mono ?_
      rintro e w2 ⟨rfl, hc2⟩
      have C2 := hC.trans hc2
      have R2 := R1.ch hc2
      clear O1 R1 hr hb1 hC hc2
      by_cases h5 : ptsS s ≤ 5
      · have L1 := least_of s w2 R2 h5
        have hl0 := lstS_le s
        have hp : ptsB s = true := decide_eq_true h5
        obtain ⟨ll, hll⟩ : ∃ l, lstS s = l := ⟨_, rfl⟩
        rw [hll] at L1 hl0 HE1
        have HPB := Lib.hid hp
        clear hll h5 R2 hp
        go_wp2_with fail
        refine L1.mono ?_
        rintro e w3 ⟨rfl, hc3⟩
        have C3 := C2.trans hc3
        clear L1 hc3 C2
        go_wp2
        go_step3
        refine ⟨rfl, ⟨_, _, _, _, _, _, _, _, _, _, _, _, _, _, _, _, _, _, _, _, _, _, _, _, _, _, j + 1, by rw [HE1.out]; first | rfl | go_num, by omega, HCK.out, by rw [HE2.out, HPB.out]; rfl, C3⟩, ?_⟩
        simp [intOf]; omega
      · have L1 := least_no s w2 R2 h5
        have hp : ptsB s = false := decide_eq_false h5
        have HE := Lib.hid (fun w' h => HP3.out w' HCK.out (HBD.out hp) h)
        clear h5 R2 hp
        go_wp2_with fail
        refine L1.mono ?_
        rintro e w3 ⟨rfl, hc3⟩
        have C3 := C2.trans hc3
        first | exact HE.out _ C3 | exact ⟨rfl, HE.out _ C3⟩ | (go_step3; exact ⟨rfl, HE.out _ C3⟩)
  · intro hpass
    go_wp2
    apply wp_label
    go_wp2
    go_loopw [2] (fun i wr => ∃ j : Nat, i = I j ∧ j ≤ n ∧ (ss.take j).all checkB = true ∧ Ch [] w wr) (fun i _ => n - (intOf i).toNat)
    case atStart => exact ⟨0, rfl, by omega, rfl, Ch.refl _ _⟩
    case round =>
      obtain ⟨j, hi, hj, hck, hC⟩ := hrel
      subst hi
      have hb1 := bkeep hC HB.out
      rcases (show j = n ∨ j < n by omega) with rfl | hlt
      · rw [List.take_of_length_le (by have := HN.out; omega)] at hck
        have HCK := Lib.hid hck
        clear hck
        go_wp2
        refine wp_label ?_
        rename_i hK
        refine hK _ _ (hpass _ _ ?_)
        exact ⟨_, _, _, _, _, _, _, _, _, _, _, _, _, _, _, _, _, _, _, _, _, _, _, _, _, _, 0, rfl, by omega, HCK.out, rfl, hC⟩
      · have hjI : (j : Int) < n := by omega
        have hne : ¬ (j : Int) = n := by omega
        obtain ⟨s, hs⟩ : ∃ s, ss[j]? = some s := ⟨_, List.getElem?_eq_getElem (by have := HN.out; omega)⟩
        have hr := (HQ.out.ch hC).row hs
        have hAs := (HA.out s (List.mem_of_getElem? hs)).ch hC
        have E2 := all_snoc (f := checkB) hs
        rw [hck] at E2
        have hbad := fun h => all_bad (f := checkB) hs h
        have HE2 := Lib.hid E2
        have HBD := Lib.hid hbad
        cases hcs : checkB s with
        | true =>
          have O1 := of_yes s wr (hAs.right hcs) (HT.out.ch hC)
          have HCS := Lib.hid hcs
          clear hs hAs E2 hbad hck hcs
          go_wp2_with fail
          refine O1.mono ?_
          rintro e w2 ⟨rfl, hc2⟩
          have C2 := hC.trans hc2
          clear O1 hr hb1 hC hc2
          go_wp2
          go_roundw
          case rel => exact ⟨j + 1, by go_num, by omega, by rw [HE2.out, HCS.out]; rfl, C2⟩
          case measure => simp [intOf]; omega
        | false =>
          have O1 := of_no s wr hAs (HT.out.ch hC) hcs
          have HE := Lib.hid (fun w' h => HP2.out w' (HBD.out hcs) h)
          clear hs hAs E2 hbad hck hcs
          go_wp2_with fail
          refine O1.mono ?_
          rintro e w2 ⟨rfl, hc2⟩
          have C2 := hC.trans hc2
          first | exact HE.out _ C2 | exact ⟨rfl, HE.out _ C2⟩ | (go_step3; exact ⟨rfl, HE.out _ C2⟩)
end Go.Proofs.Hc
