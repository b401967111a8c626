/- slices.insertionSortOrdered at words. -/
import Derived.Test.YtfoicjijngfhbaaGreatDoorKDa
import Derived.Test.YtfoicjijngfhbaaGreatDoorKHm
import Derived.Test.YtfoicjijngfhbaaGreatDoorKHr
import Derived.Below
import Derived.BigQuiet
import Derived.Deep.Cut
import Derived.Deep.Draws
import Derived.Deep.QuietTactic
import Derived.Deep.RegionHeld
import Derived.Laws.CopyRow
import Derived.Laws.Tables
import Derived.Lib.Hide
import Derived.LoopIn
import Derived.LoopNIn
import Derived.OwnWalkIn
import Derived.RangeFuncCalls
import Derived.RangeFuncRecord
import Derived.RangeFuncSeq
import Derived.Recover
import Derived.Sort.Defs
import Derived.TacticsInMore
import Derived.Test.YtfoicjijngfhbaaGreatDoorProg
import Derived.WalkKit
import Derived.WalkLawsBesides
set_option linter.unusedSimpArgs false
set_option linter.unusedVariables false
namespace Go.Proofs.Hc
open Go.RowKit
set_option linter.unusedVariables false
set_option linter.unusedSimpArgs false
attribute [local go_sem] wrap_u64 wrap_u8 bits_xor64 bits_and64 bits_or64 bits_not64 bits_xor8 bits_and8 bits_or8 signed64 signed8 ofInt_N BitVec.ofInt_add BitVec.ofInt_mul ofInt_sub' ofInt8_N64 ofInt64_N8 wide8 eqN neN shr_pow shr1 shr7 shr56
attribute [local go_sem high] bits_com64 shl_wrap
attribute [local go_sem] nn2 nm2 nn3 nm3 nn4 nm4 nn5 nm5 nn6 nm6 nn7 nm7 nn8 nm8
attribute [local go_sem] Oper.semAt_some make_func1
attribute [local go_sem] cell_heap ice_heap cellAt_cells iceAt_cells setAt_cells size_setCell rowAt_cells canLay_cells laidAt_cells size_onObj rowRes_some layRes_true
attribute [local go_sem ↓] heap_alloc heap_drew heap_drewN heap_setCell heap_putObj heap_onObj
theorem insOuter_go (a b i : Nat) (d : Array (BitVec 64)) (h : i < b) : Go.Sort.insOuter ltW a b i d = Go.Sort.insOuter ltW a b (i + 1) (Go.Sort.insInner ltW a i d) := by
  rw [Go.Sort.insOuter, if_pos h]
theorem insOuter_end (a b i : Nat) (d : Array (BitVec 64)) (h : ¬ i < b) : Go.Sort.insOuter ltW a b i d = d := by
  rw [Go.Sort.insOuter, if_neg h]
theorem swp_size (d : Array (BitVec 64)) (i j : Nat) : (Go.Sort.swp d i j).size = d.size := by unfold Go.Sort.swp; simp
theorem insInner_end (a : Nat) (d : Array (BitVec 64)) : Go.Sort.insInner ltW a a d = d := by
  cases a with
  | zero => rfl
  | succ m => rw [Go.Sort.insInner, if_neg (by simp)]
theorem insInner_go (a m : Nat) (d : Array (BitVec 64)) (h : a < m + 1) (hl : ltW d[m + 1]! d[m]! = true) : Go.Sort.insInner ltW a (m + 1) d = Go.Sort.insInner ltW a m (Go.Sort.swp d (m + 1) m) := by
  rw [Go.Sort.insInner, if_pos (by simp [h, hl])]
theorem insInner_stop (a m : Nat) (d : Array (BitVec 64)) (hl : ltW d[m + 1]! d[m]! = false) : Go.Sort.insInner ltW a (m + 1) d = d := by
  rw [Go.Sort.insInner, if_neg (by simp [hl])]
set_option maxHeartbeats 4000000 in
set_option maxRecDepth 100000 in
theorem insert_any (q cap a b : Nat) (d : Array (BitVec 64)) (z : Array Value) (w : World) (hab : a ≤ b) (hb : b ≤ d.size) (hs : d.size < 4611686018427387904) (hq : RowW w q d z) :
    Calls Tryz.prog 70 #[.slice (some ⟨q, 0, none⟩) d.size cap, I a, I b] w fun e w' => e = .returned (.tuple #[]) ∧ RowW w' q (Go.Sort.insertionSort ltW d a b) z ∧ Ch [q] w w' := by
  obtain ⟨n, hn⟩ : ∃ n, d.size = n := ⟨_, rfl⟩
  unfold Go.Sort.insertionSort
  rw [hn] at hb hs ⊢
  have HN := Lib.hid hn
  have HQ := Lib.hid hq
  clear hn hq
  go_enter Tryz.func70, Tryz.ntmps70
  go_wp2
  go_loopw [6] (fun vi wr => ∃ (i : Nat) (dk : Array (BitVec 64)), vi = I i ∧ a < i ∧ i ≤ b + 1 ∧ dk.size = n ∧ RowW wr q dk z ∧ Go.Sort.insOuter ltW a b i dk = Go.Sort.insOuter ltW a b (a + 1) d ∧ Ch [q] w wr) (fun vi _ => b + 1 - (intOf vi).toNat)
  case atStart => exact ⟨a + 1, d, by go_num, by omega, by omega, HN.out, HQ.out, rfl, Ch.refl _ _⟩
  case round =>
    obtain ⟨i, dk, hi, hai, hib, hdk, hrow, hins, hC⟩ := hrel
    subst hi
    have HI := Lib.hid hins
    clear hins HQ HN
    rcases (show ¬ i < b ∨ i < b by omega) with hlt | hlt
    · have hE := Lib.hid (insOuter_end a b i dk hlt)
      have HRW := Lib.hid hrow
      have hlti : ¬ (i : Int) < b := by omega
      clear hrow
      go_wp2
      go_end0
      exact ⟨rfl, by rw [← HI.out, hE.out]; exact HRW.out, hC⟩
    · have hE := Lib.hid (insOuter_go a b i dk hlt)
      have hlti : (i : Int) < b := by omega
      go_wp2
      go_loopw [7] (fun vj wr => ∃ (j : Nat) (dj : Array (BitVec 64)), vj = I j ∧ a ≤ j ∧ j ≤ i ∧ dj.size = n ∧ RowW wr q dj z ∧ Go.Sort.insInner ltW a j dj = Go.Sort.insInner ltW a i dk ∧ Ch [q] w wr) (fun vj _ => (intOf vj).toNat)
      case atStart => exact ⟨i, dk, rfl, by omega, by omega, hdk, hrow, rfl, hC⟩
      case round =>
        obtain ⟨j, dj, hj, haj, hji, hdj, hrowj, hinn, hCj⟩ := hrel
        subst hj
        have HNN := Lib.hid hinn
        clear hinn hrow hC hdk
        rcases (show j = a ∨ a < j by omega) with rfl | hgt
        · go_wp2
          have sP : (fun W' : World => W'.heap[q]? = some (.cells (dcells dj z) 22 (0, 0)) ∧ Ch [q] w W') wr.drew := ⟨hrowj, hCj.drew⟩
          refine wp_region_held_drew (S := fun W' : World => W'.heap[q]? = some (.cells (dcells dj z) 22 (0, 0)) ∧ Ch [q] w W') (by kernel_rfl) sP ?_
          intro _
          simp only [List.size_toArray, List.length_cons, List.length_nil, Nat.reduceAdd]
          clear hrowj hCj
          generalize wr.drew = w2 at *
          refine wpAnyH_take (i := 0) (oi := ⟨some 16, _, _, _, _, none⟩) (v := ?_) rfl (by kernel_rfl) (by kernel_rfl) (by kernel_rfl) (fun _ _ _ h => h) (Or.inl ⟨by rfl, ?_⟩) sP ?_
          rotate_left
          · intro wq hSq
            first | (go_simp; done) | (go_simp; with_reducible rfl)
          try simp only [Act.put, List.setIfInBounds_toArray, List.set_cons_zero, List.set_cons_succ]
          refine wpAnyH_take (i := 1) (oi := ⟨some 17, _, _, _, _, none⟩) (v := ?_) rfl (by kernel_rfl) (by kernel_rfl) (by kernel_rfl) (fun _ _ _ h => h) (Or.inl ⟨by rfl, ?_⟩) sP ?_
          rotate_left
          · intro wq hSq
            first | (go_simp; done) | (go_simp; with_reducible rfl)
          try simp only [Act.put, List.setIfInBounds_toArray, List.set_cons_zero, List.set_cons_succ]
          refine wpAnyH_take (i := 2) (oi := ⟨some 18, _, _, _, _, none⟩) (v := ?_) rfl (by kernel_rfl) (by kernel_rfl) (by kernel_rfl) (fun _ _ _ h => h) (Or.inl ⟨by rfl, ?_⟩) sP ?_
          rotate_left
          · intro wq hSq
            first | (go_simp; done) | (go_simp; with_reducible rfl)
          try simp only [Act.put, List.setIfInBounds_toArray, List.set_cons_zero, List.set_cons_succ]
          refine wpAnyH_take (i := 3) (oi := ⟨some 19, _, _, _, _, none⟩) (v := ?_) rfl (by kernel_rfl) (by kernel_rfl) (by kernel_rfl) (fun _ _ _ h => h) (Or.inl ⟨by rfl, ?_⟩) sP ?_
          rotate_left
          · intro wq hSq
            first | (go_simp; done) | (go_simp; with_reducible rfl)
          try simp only [Act.put, List.setIfInBounds_toArray, List.set_cons_zero, List.set_cons_succ]
          refine wpAnyH_take (i := 4) (oi := ⟨some 20, _, _, _, _, _⟩) (v := undef) rfl (by kernel_rfl) (by kernel_rfl) (by kernel_rfl) (fun _ _ _ h => h) (Or.inr ⟨by rfl, rfl⟩) sP ?_
          try simp only [Act.put, List.setIfInBounds_toArray, List.set_cons_zero, List.set_cons_succ]
          refine wpAnyH_take (i := 5) (oi := ⟨some 21, _, _, _, _, _⟩) (v := undef) rfl (by kernel_rfl) (by kernel_rfl) (by kernel_rfl) (fun _ _ _ h => h) (Or.inr ⟨by rfl, rfl⟩) sP ?_
          try simp only [Act.put, List.setIfInBounds_toArray, List.set_cons_zero, List.set_cons_succ]
          refine wpAnyH_take (i := 6) (oi := ⟨some 22, _, _, _, _, _⟩) (v := undef) rfl (by kernel_rfl) (by kernel_rfl) (by kernel_rfl) (fun _ _ _ h => h) (Or.inr ⟨by rfl, rfl⟩) sP ?_
          try simp only [Act.put, List.setIfInBounds_toArray, List.set_cons_zero, List.set_cons_succ]
          refine wpAnyH_take (i := 7) (oi := ⟨some 23, _, _, _, _, _⟩) (v := undef) rfl (by kernel_rfl) (by kernel_rfl) (by kernel_rfl) (fun _ _ _ h => h) (Or.inr ⟨by rfl, rfl⟩) sP ?_
          try simp only [Act.put, List.setIfInBounds_toArray, List.set_cons_zero, List.set_cons_succ]
          refine wpAnyH_take (i := 8) (oi := ⟨some 24, _, _, _, _, _⟩) (v := undef) rfl (by kernel_rfl) (by kernel_rfl) (by kernel_rfl) (fun _ _ _ h => h) (Or.inr ⟨by rfl, rfl⟩) sP ?_
          try simp only [Act.put, List.setIfInBounds_toArray, List.set_cons_zero, List.set_cons_succ]
          refine wpAnyH_take (i := 9) (oi := ⟨some 25, _, _, _, _, _⟩) (v := undef) rfl (by kernel_rfl) (by kernel_rfl) (by kernel_rfl) (fun _ _ _ h => h) (Or.inr ⟨by rfl, rfl⟩) sP ?_
          try simp only [Act.put, List.setIfInBounds_toArray, List.set_cons_zero, List.set_cons_succ]
          refine wpAnyH_take (i := 10) (oi := ⟨some 26, _, _, _, _, _⟩) (v := undef) rfl (by kernel_rfl) (by kernel_rfl) (by kernel_rfl) (fun _ _ _ h => h) (Or.inr ⟨by rfl, rfl⟩) sP ?_
          try simp only [Act.put, List.setIfInBounds_toArray, List.set_cons_zero, List.set_cons_succ]
          refine wpAnyH_take (i := 11) (oi := ⟨some 27, _, _, _, _, _⟩) (v := undef) rfl (by kernel_rfl) (by kernel_rfl) (by kernel_rfl) (fun _ _ _ h => h) (Or.inr ⟨by rfl, rfl⟩) sP ?_
          try simp only [Act.put, List.setIfInBounds_toArray, List.set_cons_zero, List.set_cons_succ]
          refine wpAnyH_take (i := 12) (oi := ⟨some 28, _, _, _, _, _⟩) (v := undef) rfl (by kernel_rfl) (by kernel_rfl) (by kernel_rfl) (fun _ _ _ h => h) (Or.inr ⟨by rfl, rfl⟩) sP ?_
          try simp only [Act.put, List.setIfInBounds_toArray, List.set_cons_zero, List.set_cons_succ]
          refine wpAnyH_ready (rs := [13]) (by kernel_rfl) (by simp) ?_
          refine AllReadyH.cons rfl (fun K hK => ?_) AllReadyH.nil
          go_simp
          refine hK.out _ _ sP (fun _ => ?_)
          clear hK K
          refine wpAnyH_take (i := 14) (oi := ⟨some 30, _, _, _, _, none⟩) (v := ?_) rfl (by kernel_rfl) (by kernel_rfl) (by kernel_rfl) (fun _ _ _ h => h) (Or.inl ⟨by rfl, ?_⟩) sP ?_
          rotate_left
          · intro wq hSq
            first | (go_simp; done) | (go_simp; with_reducible rfl)
          try simp only [Act.put, List.setIfInBounds_toArray, List.set_cons_zero, List.set_cons_succ]
          refine wpAnyH_done (by kernel_rfl) ?_ _
          have HS := Lib.hid sP
          have hE2 := Lib.hid (insInner_end j dj)
          clear sP
          go_wp2
          go_roundw
          case rel => exact ⟨i + 1, dj, by go_num, by omega, by omega, hdj, HS.out.1, by rw [← HI.out, hE.out, ← HNN.out, hE2.out], HS.out.2⟩
          case measure => simp [intOf]; omega
        · obtain ⟨m, rfl⟩ : ∃ m, j = m + 1 := ⟨j - 1, by omega⟩
          have cj := dcells_get dj z (m + 1) (by omega)
          have cj1 := dcells_get dj z m (by omega)
          have SW := fun wq (h : RowW wq q dj z) => RowW.swap h (m + 1) m (by omega) (by omega)
          have G1 := fun h => insInner_go a m dj hgt h
          have G2 := fun h => insInner_stop a m dj h
          have hsz := swp_size dj (m + 1) m
          obtain ⟨x, hx⟩ : ∃ x, dj[m + 1]! = x := ⟨_, rfl⟩
          obtain ⟨y, hy⟩ : ∃ x, dj[m]! = x := ⟨_, rfl⟩
          rw [hx] at cj G1 G2 SW
          rw [hy] at cj1 G1 G2 SW
          obtain ⟨D2, hD2⟩ : ∃ x, Go.Sort.swp dj (m + 1) m = x := ⟨_, rfl⟩
          rw [hD2] at G1 SW hsz
          have HSW := Lib.hid SW
          have HG1 := Lib.hid G1
          have HG2 := Lib.hid G2
          have HSZ := Lib.hid (hsz.trans hdj)
          have HDJ := Lib.hid hdj
          clear SW G1 G2 hsz hx hy hD2 hdj
          have L1 := fun w => less_any x y w
          have hmn : m + 1 < n := by omega
          have hmnI : (m : Int) + 1 < n := by omega
          have ham : (a : Int) < m + 1 := by omega
          have hm1 : (m : Int) + 1 - 1 = m := by omega
          have hm2 : (m : Int) < n := by omega
          have hm3 : (0 : Int) ≤ m + 1 := by omega
          have hm4 : (0 : Int) ≤ m := by omega
          have hmw : IntKind.i64.wrap (m : Int) = m := IntWalk.i64_in _ (by omega)
          go_wp2
          have sP : (fun W' : World => W'.heap[q]? = some (.cells (dcells dj z) 22 (0, 0)) ∧ Ch [q] w W') wr.drew := ⟨hrowj, hCj.drew⟩
          refine wp_region_held_drew (S := fun W' : World => W'.heap[q]? = some (.cells (dcells dj z) 22 (0, 0)) ∧ Ch [q] w W') (by kernel_rfl) sP ?_
          intro _
          simp only [List.size_toArray, List.length_cons, List.length_nil, Nat.reduceAdd]
          clear hrowj hCj
          generalize wr.drew = w2 at *
          refine wpAnyH_take (i := 0) (oi := ⟨some 16, _, _, _, _, none⟩) (v := ?_) rfl (by kernel_rfl) (by kernel_rfl) (by kernel_rfl) (fun _ _ _ h => h) (Or.inl ⟨by rfl, ?_⟩) sP ?_
          rotate_left
          · intro wq hSq
            obtain ⟨q1, q2⟩ := hSq
            first | (go_simp; done) | (go_simp; with_reducible rfl)
          try simp only [Act.put, List.setIfInBounds_toArray, List.set_cons_zero, List.set_cons_succ]
          refine wpAnyH_take (i := 1) (oi := ⟨some 17, _, _, _, _, none⟩) (v := ?_) rfl (by kernel_rfl) (by kernel_rfl) (by kernel_rfl) (fun _ _ _ h => h) (Or.inl ⟨by rfl, ?_⟩) sP ?_
          rotate_left
          · intro wq hSq
            obtain ⟨q1, q2⟩ := hSq
            first | (go_simp; done) | (go_simp; with_reducible rfl)
          try simp only [Act.put, List.setIfInBounds_toArray, List.set_cons_zero, List.set_cons_succ]
          refine wpAnyH_take (i := 2) (oi := ⟨some 18, _, _, _, _, none⟩) (v := ?_) rfl (by kernel_rfl) (by kernel_rfl) (by kernel_rfl) (fun _ _ _ h => h) (Or.inl ⟨by rfl, ?_⟩) sP ?_
          rotate_left
          · intro wq hSq
            obtain ⟨q1, q2⟩ := hSq
            first | (go_simp; done) | (go_simp; with_reducible rfl)
          try simp only [Act.put, List.setIfInBounds_toArray, List.set_cons_zero, List.set_cons_succ]
          refine wpAnyH_take (i := 3) (oi := ⟨some 19, _, _, _, _, none⟩) (v := ?_) rfl (by kernel_rfl) (by kernel_rfl) (by kernel_rfl) (fun _ _ _ h => h) (Or.inl ⟨by rfl, ?_⟩) sP ?_
          rotate_left
          · intro wq hSq
            obtain ⟨q1, q2⟩ := hSq
            first | (go_simp; done) | (go_simp; with_reducible rfl)
          try simp only [Act.put, List.setIfInBounds_toArray, List.set_cons_zero, List.set_cons_succ]
          refine wpAnyH_take (i := 4) (oi := ⟨some 20, _, _, _, _, _⟩) (v := ?_) rfl (by kernel_rfl) (by kernel_rfl) (by kernel_rfl) (fun _ _ _ h => h) (Or.inl ⟨by rfl, ?_⟩) sP ?_
          rotate_left
          · intro wq hSq
            obtain ⟨q1, q2⟩ := hSq
            first | (go_simp; done) | (go_simp; with_reducible rfl)
          try simp only [Act.put, List.setIfInBounds_toArray, List.set_cons_zero, List.set_cons_succ]
          refine wpAnyH_take (i := 5) (oi := ⟨some 21, _, _, _, _, _⟩) (v := ?_) rfl (by kernel_rfl) (by kernel_rfl) (by kernel_rfl) (fun _ _ _ h => h) (Or.inl ⟨by rfl, ?_⟩) sP ?_
          rotate_left
          · intro wq hSq
            obtain ⟨q1, q2⟩ := hSq
            first | (go_simp; done) | (go_simp; with_reducible rfl)
          try simp only [Act.put, List.setIfInBounds_toArray, List.set_cons_zero, List.set_cons_succ]
          refine wpAnyH_take (i := 6) (oi := ⟨some 22, _, _, _, _, _⟩) (v := ?_) rfl (by kernel_rfl) (by kernel_rfl) (by kernel_rfl) (fun _ _ _ h => h) (Or.inl ⟨by rfl, ?_⟩) sP ?_
          rotate_left
          · intro wq hSq
            obtain ⟨q1, q2⟩ := hSq
            first | (go_simp; done) | (go_simp; with_reducible rfl)
          try simp only [Act.put, List.setIfInBounds_toArray, List.set_cons_zero, List.set_cons_succ]
          refine wpAnyH_take (i := 7) (oi := ⟨some 23, _, _, _, _, _⟩) (v := ?_) rfl (by kernel_rfl) (by kernel_rfl) (by kernel_rfl) (fun _ _ _ h => h) (Or.inl ⟨by rfl, ?_⟩) sP ?_
          rotate_left
          · intro wq hSq
            obtain ⟨q1, q2⟩ := hSq
            first | (go_simp; done) | (go_simp; with_reducible rfl)
          try simp only [Act.put, List.setIfInBounds_toArray, List.set_cons_zero, List.set_cons_succ]
          refine wpAnyH_take (i := 8) (oi := ⟨some 24, _, _, _, _, _⟩) (v := ?_) rfl (by kernel_rfl) (by kernel_rfl) (by kernel_rfl) (fun _ _ _ h => h) (Or.inl ⟨by rfl, ?_⟩) sP ?_
          rotate_left
          · intro wq hSq
            obtain ⟨q1, q2⟩ := hSq
            first | (go_simp; done) | (go_simp; with_reducible rfl)
          try simp only [Act.put, List.setIfInBounds_toArray, List.set_cons_zero, List.set_cons_succ]
          refine wpAnyH_take (i := 9) (oi := ⟨some 25, _, _, _, _, _⟩) (v := ?_) rfl (by kernel_rfl) (by kernel_rfl) (by kernel_rfl) (fun _ _ _ h => h) (Or.inl ⟨by rfl, ?_⟩) sP ?_
          rotate_left
          · intro wq hSq
            obtain ⟨q1, q2⟩ := hSq
            first | (go_simp; done) | (go_simp; with_reducible rfl)
          try simp only [Act.put, List.setIfInBounds_toArray, List.set_cons_zero, List.set_cons_succ]
          refine wpAnyH_take (i := 10) (oi := ⟨some 26, _, _, _, _, _⟩) (v := ?_) rfl (by kernel_rfl) (by kernel_rfl) (by kernel_rfl) (fun _ _ _ h => h) (Or.inl ⟨by rfl, ?_⟩) sP ?_
          rotate_left
          · intro wq hSq
            obtain ⟨q1, q2⟩ := hSq
            first | (go_simp; done) | (go_simp; with_reducible rfl)
          try simp only [Act.put, List.setIfInBounds_toArray, List.set_cons_zero, List.set_cons_succ]
          refine wpAnyH_take (i := 11) (oi := ⟨some 27, _, _, _, _, _⟩) (v := ?_) rfl (by kernel_rfl) (by kernel_rfl) (by kernel_rfl) (fun _ _ _ h => h) (Or.inl ⟨by rfl, ?_⟩) sP ?_
          rotate_left
          · intro wq hSq
            obtain ⟨q1, q2⟩ := hSq
            first | (go_simp; done) | (go_simp; with_reducible rfl)
          try simp only [Act.put, List.setIfInBounds_toArray, List.set_cons_zero, List.set_cons_succ]
          refine wpAnyH_take (i := 12) (oi := ⟨some 28, _, _, _, _, _⟩) (v := ?_) rfl (by kernel_rfl) (by kernel_rfl) (by kernel_rfl) (fun _ _ _ h => h) (Or.inl ⟨by rfl, ?_⟩) sP ?_
          rotate_left
          · intro wq hSq
            obtain ⟨q1, q2⟩ := hSq
            first | (go_simp; done) | (go_simp; with_reducible rfl)
          try simp only [Act.put, List.setIfInBounds_toArray, List.set_cons_zero, List.set_cons_succ]
          refine wpAnyH_ready (rs := [13]) (by kernel_rfl) (by simp) ?_
          refine AllReadyH.cons rfl (fun K hK => ?_) AllReadyH.nil
          go_simp
          refine (L1 _).mono ?_
          rintro e w' ⟨rfl, rfl⟩
          refine hK.out _ _ sP (fun _ => ?_)
          clear hK K
          refine wpAnyH_take (i := 14) (oi := ⟨some 30, _, _, _, _, none⟩) (v := ?_) rfl (by kernel_rfl) (by kernel_rfl) (by kernel_rfl) (fun _ _ _ h => h) (Or.inl ⟨by rfl, ?_⟩) sP ?_
          rotate_left
          · intro wq hSq
            first | (go_simp; done) | (go_simp; with_reducible rfl)
          try simp only [Act.put, List.setIfInBounds_toArray, List.set_cons_zero, List.set_cons_succ]
          refine wpAnyH_done (by kernel_rfl) ?_ _
          cases hl : ltW x y with
          | false =>
            have hE3 := Lib.hid (HG2.out hl)
            have HS := Lib.hid sP
            clear sP hl L1 cj cj1
            go_wp2
            go_roundw
            case rel => exact ⟨i + 1, dj, by go_num, by omega, by omega, HDJ.out, HS.out.1, by rw [← HI.out, hE.out, ← HNN.out, hE3.out], HS.out.2⟩
            case measure => simp [intOf]; omega
          | true =>
            have hE3 := Lib.hid (HG1.out hl)
            clear hl L1
            go_wp2
            have sT : (fun W' : World => Ch [q] w W') w2.drew := sP.2.drew
            have rT : w2.drew.heap[q]? = some (.cells (dcells dj z) 22 (0, 0)) := sP.1
            refine wp_region_held_drew (S := fun W' : World => Ch [q] w W') (by kernel_rfl) sT ?_
            intro _
            simp only [List.size_toArray, List.length_cons, List.length_nil, Nat.reduceAdd]
            clear sP
            generalize w2.drew = w4 at *
            refine wpAnyH_take (i := 0) (oi := ⟨some 33, _, _, _, _, none⟩) (v := ?_) rfl (by kernel_rfl) (by kernel_rfl) (by kernel_rfl) (fun _ _ _ h => h) (Or.inl ⟨by rfl, ?_⟩) sT ?_
            rotate_left
            · intro wq hSq
              first | (go_simp; done) | (go_simp; with_reducible rfl)
            try simp only [Act.put, List.setIfInBounds_toArray, List.set_cons_zero, List.set_cons_succ]
            refine wpAnyH_take (i := 1) (oi := ⟨some 34, _, _, _, _, none⟩) (v := ?_) rfl (by kernel_rfl) (by kernel_rfl) (by kernel_rfl) (fun _ _ _ h => h) (Or.inl ⟨by rfl, ?_⟩) sT ?_
            rotate_left
            · intro wq hSq
              first | (go_simp; done) | (go_simp; with_reducible rfl)
            try simp only [Act.put, List.setIfInBounds_toArray, List.set_cons_zero, List.set_cons_succ]
            refine wpAnyH_take (i := 2) (oi := ⟨some 35, _, _, _, _, none⟩) (v := ?_) rfl (by kernel_rfl) (by kernel_rfl) (by kernel_rfl) (fun _ _ _ h => h) (Or.inl ⟨by rfl, ?_⟩) sT ?_
            rotate_left
            · intro wq hSq
              first | (go_simp; done) | (go_simp; with_reducible rfl)
            try simp only [Act.put, List.setIfInBounds_toArray, List.set_cons_zero, List.set_cons_succ]
            refine wpAnyH_take (i := 3) (oi := ⟨some 36, _, _, _, _, none⟩) (v := ?_) rfl (by kernel_rfl) (by kernel_rfl) (by kernel_rfl) (fun _ _ _ h => h) (Or.inl ⟨by rfl, ?_⟩) sT ?_
            rotate_left
            · intro wq hSq
              first | (go_simp; done) | (go_simp; with_reducible rfl)
            try simp only [Act.put, List.setIfInBounds_toArray, List.set_cons_zero, List.set_cons_succ]
            refine wpAnyH_take (i := 4) (oi := ⟨some 37, _, _, _, _, none⟩) (v := ?_) rfl (by kernel_rfl) (by kernel_rfl) (by kernel_rfl) (fun _ _ _ h => h) (Or.inl ⟨by rfl, ?_⟩) sT ?_
            rotate_left
            · intro wq hSq
              first | (go_simp; done) | (go_simp; with_reducible rfl)
            try simp only [Act.put, List.setIfInBounds_toArray, List.set_cons_zero, List.set_cons_succ]
            refine wpAnyH_take (i := 5) (oi := ⟨some 38, _, _, _, _, none⟩) (v := ?_) rfl (by kernel_rfl) (by kernel_rfl) (by kernel_rfl) (fun _ _ _ h => h) (Or.inl ⟨by rfl, ?_⟩) sT ?_
            rotate_left
            · intro wq hSq
              first | (go_simp; done) | (go_simp; with_reducible rfl)
            try simp only [Act.put, List.setIfInBounds_toArray, List.set_cons_zero, List.set_cons_succ]
            refine wpAnyH_take (i := 6) (oi := ⟨some 39, _, _, _, _, none⟩) (v := ?_) rfl (by kernel_rfl) (by kernel_rfl) (by kernel_rfl) (fun _ _ _ h => h) (Or.inl ⟨by rfl, ?_⟩) sT ?_
            rotate_left
            · intro wq hSq
              first | (go_simp; done) | (go_simp; with_reducible rfl)
            try simp only [Act.put, List.setIfInBounds_toArray, List.set_cons_zero, List.set_cons_succ]
            refine wpAnyH_take (i := 7) (oi := ⟨some 40, _, _, _, _, none⟩) (v := ?_) rfl (by kernel_rfl) (by kernel_rfl) (by kernel_rfl) (fun _ _ _ h => h) (Or.inl ⟨by rfl, ?_⟩) sT ?_
            rotate_left
            · intro wq hSq
              first | (go_simp; done) | (go_simp; with_reducible rfl)
            try simp only [Act.put, List.setIfInBounds_toArray, List.set_cons_zero, List.set_cons_succ]
            refine wpAnyH_take (i := 8) (oi := ⟨some 41, _, _, _, _, none⟩) (v := ?_) rfl (by kernel_rfl) (by kernel_rfl) (by kernel_rfl) (fun _ _ _ h => h) (Or.inl ⟨by rfl, ?_⟩) sT ?_
            rotate_left
            · intro wq hSq
              first | (go_simp; done) | (go_simp; with_reducible rfl)
            try simp only [Act.put, List.setIfInBounds_toArray, List.set_cons_zero, List.set_cons_succ]
            refine wpAnyH_take (i := 10) (oi := ⟨some 43, _, _, _, _, none⟩) (v := ?_) rfl (by kernel_rfl) (by kernel_rfl) (by kernel_rfl) (fun _ _ _ h => h) (Or.inl ⟨by rfl, ?_⟩) sT ?_
            rotate_left
            · intro wq hSq
              first | (go_simp; done) | (go_simp; with_reducible rfl)
            try simp only [Act.put, List.setIfInBounds_toArray, List.set_cons_zero, List.set_cons_succ]
            refine wpAnyH_take (i := 11) (oi := ⟨some 44, _, _, _, _, none⟩) (v := ?_) rfl (by kernel_rfl) (by kernel_rfl) (by kernel_rfl) (fun _ _ _ h => h) (Or.inl ⟨by rfl, ?_⟩) sT ?_
            rotate_left
            · intro wq hSq
              first | (go_simp; done) | (go_simp; with_reducible rfl)
            try simp only [Act.put, List.setIfInBounds_toArray, List.set_cons_zero, List.set_cons_succ]
            refine wpAnyH_take (i := 12) (oi := ⟨some 45, _, _, _, _, none⟩) (v := ?_) rfl (by kernel_rfl) (by kernel_rfl) (by kernel_rfl) (fun _ _ _ h => h) (Or.inl ⟨by rfl, ?_⟩) sT ?_
            rotate_left
            · intro wq hSq
              first | (go_simp; done) | (go_simp; with_reducible rfl)
            try simp only [Act.put, List.setIfInBounds_toArray, List.set_cons_zero, List.set_cons_succ]
            refine wpAnyH_ready (rs := [9, 13]) (by kernel_rfl) (by simp) ?_
            refine AllReadyH.cons (o := ⟨some 42, _, _, _, _, none⟩) rfl (fun K hK => ?_) (AllReadyH.cons (o := ⟨some 46, _, _, _, _, none⟩) rfl (fun K hK => ?_) AllReadyH.nil)
            · go_simp
              refine hK.out _ _ sT (fun _ => ?_)
              clear hK K
              try simp only [Act.put, List.setIfInBounds_toArray, List.set_cons_zero, List.set_cons_succ]
              refine wpAnyH_ready (rs := [13]) (by kernel_rfl) (by simp) ?_
              refine AllReadyH.cons (o := ⟨some 46, _, _, _, _, none⟩) rfl (fun K hK => ?_) AllReadyH.nil
              go_simp
              refine hK.out _ _ sT (fun _ => ?_)
              clear hK K
              try simp only [Act.put, List.setIfInBounds_toArray, List.set_cons_zero, List.set_cons_succ]
              refine wpAnyH_take (i := 14) (oi := ⟨some 47, _, _, _, _, none⟩) (v := ?_) rfl (by kernel_rfl) (by kernel_rfl) (by kernel_rfl) (fun _ _ _ h => h) (Or.inl ⟨by rfl, ?_⟩) sT ?_
              rotate_left
              · intro wq hSq
                first | (go_simp; done) | (go_simp; with_reducible rfl)
              try simp only [Act.put, List.setIfInBounds_toArray, List.set_cons_zero, List.set_cons_succ]
              refine wpAnyH_ready (rs := [15]) (by kernel_rfl) (by simp) ?_
              refine AllReadyH.cons rfl (fun K hK => ?_) AllReadyH.nil
              go_simp
              refine hK.out _ _ (sT.setCell (.inl (by simp)) _) (fun _ => ?_)
              clear hK K
              have sT16 : (fun W' : World => Ch [q] w W') (w4.setCell ⟨q, m + 1, none⟩ (U y)) := sT.setCell (.inl (by simp)) _
              refine wpAnyH_take (i := 16) (oi := ⟨some 48, _, _, _, _, none⟩) (v := ?_) rfl (by kernel_rfl) (by kernel_rfl) (by kernel_rfl) (fun _ _ _ h => h) (Or.inl ⟨by rfl, ?_⟩) sT16 ?_
              rotate_left
              · intro wq hSq
                first | (go_simp; done) | (go_simp; with_reducible rfl)
              try simp only [Act.put, List.setIfInBounds_toArray, List.set_cons_zero, List.set_cons_succ]
              refine wpAnyH_ready (rs := [17]) (by kernel_rfl) (by simp) ?_
              refine AllReadyH.cons rfl (fun K hK => ?_) AllReadyH.nil
              go_simp
              refine hK.out _ _ ((sT.setCell (p := ⟨q, m + 1, none⟩) (.inl (by simp)) _).setCell (p := ⟨q, m, none⟩) (.inl (by simp)) _) (fun _ => ?_)
              clear hK K
              refine wpAnyH_done (by kernel_rfl) ?_ _
              have HRW := Lib.hid (HSW.out w4 rT)
              have HCH := Lib.hid ((sT.setCell (p := ⟨q, m + 1, none⟩) (.inl (by simp)) (U y)).setCell (p := ⟨q, m, none⟩) (.inl (by simp)) (U x))
              clear rT sT sT16 cj cj1
              go_wp2
              go_roundw
              case rel => exact ⟨m, D2, by go_num, by omega, by omega, HSZ.out, HRW.out, by rw [← HNN.out, hE3.out], HCH.out⟩
              case measure => simp [intOf]
            · go_simp
              refine hK.out _ _ sT (fun _ => ?_)
              clear hK K
              try simp only [Act.put, List.setIfInBounds_toArray, List.set_cons_zero, List.set_cons_succ]
              refine wpAnyH_ready (rs := [9]) (by kernel_rfl) (by simp) ?_
              refine AllReadyH.cons (o := ⟨some 42, _, _, _, _, none⟩) rfl (fun K hK => ?_) AllReadyH.nil
              go_simp
              refine hK.out _ _ sT (fun _ => ?_)
              clear hK K
              try simp only [Act.put, List.setIfInBounds_toArray, List.set_cons_zero, List.set_cons_succ]
              refine wpAnyH_take (i := 14) (oi := ⟨some 47, _, _, _, _, none⟩) (v := ?_) rfl (by kernel_rfl) (by kernel_rfl) (by kernel_rfl) (fun _ _ _ h => h) (Or.inl ⟨by rfl, ?_⟩) sT ?_
              rotate_left
              · intro wq hSq
                first | (go_simp; done) | (go_simp; with_reducible rfl)
              try simp only [Act.put, List.setIfInBounds_toArray, List.set_cons_zero, List.set_cons_succ]
              refine wpAnyH_ready (rs := [15]) (by kernel_rfl) (by simp) ?_
              refine AllReadyH.cons rfl (fun K hK => ?_) AllReadyH.nil
              go_simp
              refine hK.out _ _ (sT.setCell (.inl (by simp)) _) (fun _ => ?_)
              clear hK K
              have sT16 : (fun W' : World => Ch [q] w W') (w4.setCell ⟨q, m + 1, none⟩ (U y)) := sT.setCell (.inl (by simp)) _
              refine wpAnyH_take (i := 16) (oi := ⟨some 48, _, _, _, _, none⟩) (v := ?_) rfl (by kernel_rfl) (by kernel_rfl) (by kernel_rfl) (fun _ _ _ h => h) (Or.inl ⟨by rfl, ?_⟩) sT16 ?_
              rotate_left
              · intro wq hSq
                first | (go_simp; done) | (go_simp; with_reducible rfl)
              try simp only [Act.put, List.setIfInBounds_toArray, List.set_cons_zero, List.set_cons_succ]
              refine wpAnyH_ready (rs := [17]) (by kernel_rfl) (by simp) ?_
              refine AllReadyH.cons rfl (fun K hK => ?_) AllReadyH.nil
              go_simp
              refine hK.out _ _ ((sT.setCell (p := ⟨q, m + 1, none⟩) (.inl (by simp)) _).setCell (p := ⟨q, m, none⟩) (.inl (by simp)) _) (fun _ => ?_)
              clear hK K
              refine wpAnyH_done (by kernel_rfl) ?_ _
              have HRW := Lib.hid (HSW.out w4 rT)
              have HCH := Lib.hid ((sT.setCell (p := ⟨q, m + 1, none⟩) (.inl (by simp)) (U y)).setCell (p := ⟨q, m, none⟩) (.inl (by simp)) (U x))
              clear rT sT sT16 cj cj1
              go_wp2
              go_roundw
              case rel => exact ⟨m, D2, by go_num, by omega, by omega, HSZ.out, HRW.out, by rw [← HNN.out, hE3.out], HCH.out⟩
              case measure => simp [intOf]
end Go.Proofs.Hc
