/- slices.heapSortOrdered at words (printed by gen_heap.py). -/
import Derived.Test.YtfoicjijngfhbaaGreatDoorKDa
import Derived.Test.YtfoicjijngfhbaaGreatDoorKDb
import Derived.Test.YtfoicjijngfhbaaGreatDoorKDc
import Derived.Test.YtfoicjijngfhbaaGreatDoorKHm
import Derived.Test.YtfoicjijngfhbaaGreatDoorKHr
import Derived.Below
import Derived.BigQuiet
import Derived.Deep.Cut
import Derived.Deep.Draws
import Derived.Deep.QuietTactic
import Derived.Deep.RegionHeld
import Derived.Laws.CopyRow
import Derived.Laws.Tables
import Derived.Lib.Hide
import Derived.LoopIn
import Derived.LoopNIn
import Derived.OwnWalkIn
import Derived.RangeFuncCalls
import Derived.RangeFuncRecord
import Derived.RangeFuncSeq
import Derived.Recover
import Derived.Sort.Defs
import Derived.TacticsInMore
import Derived.Test.YtfoicjijngfhbaaGreatDoorProg
import Derived.WalkKit
import Derived.WalkLawsBesides
set_option linter.unusedSimpArgs false
set_option linter.unusedVariables false
namespace Go.Proofs.Hc
open Go.RowKit
set_option linter.unusedVariables false
set_option linter.unusedSimpArgs false
attribute [local go_sem] wrap_u64 wrap_u8 bits_xor64 bits_and64 bits_or64 bits_not64 bits_xor8 bits_and8 bits_or8 signed64 signed8 ofInt_N BitVec.ofInt_add BitVec.ofInt_mul ofInt_sub' ofInt8_N64 ofInt64_N8 wide8 eqN neN shr_pow shr1 shr7 shr56
attribute [local go_sem high] bits_com64 shl_wrap
attribute [local go_sem] nn2 nm2 nn3 nm3 nn4 nm4 nn5 nm5 nn6 nm6 nn7 nm7 nn8 nm8
attribute [local go_sem] Oper.semAt_some make_func1
attribute [local go_sem] cell_heap ice_heap cellAt_cells iceAt_cells setAt_cells size_setCell rowAt_cells canLay_cells laidAt_cells size_onObj rowRes_some layRes_true
attribute [local go_sem ↓] heap_alloc heap_drew heap_drewN heap_setCell heap_putObj heap_onObj
theorem sift_n (q cap lo hi f n : Nat) (d : Array (BitVec 64)) (hn : d.size = n) (z : Array Value) (w : World) (hlo : lo ≤ n) (hb : f + hi ≤ n) (hs : n < 1152921504606846976) (hq : RowW w q d z) :
    Calls Tryz.prog 89 #[.slice (some ⟨q, 0, none⟩) n cap, I lo, I hi, I f] w fun e w' => e = .returned (.tuple #[]) ∧ RowW w' q (Go.Sort.siftDown ltW hi f lo d) z ∧ Ch [q] w w' := by
  subst hn
  exact sift_any q cap lo hi f d z w hlo hb hs hq
theorem sift_size (hi f : Nat) : ∀ (k r : Nat) (d : Array (BitVec 64)), hi - r ≤ k → (Go.Sort.siftDown ltW hi f r d).size = d.size := by
  intro k
  induction k with
  | zero =>
    intro r d h
    rw [sift_end hi f r d (by omega)]
  | succ k ih =>
    intro r d h
    rw [Go.Sort.siftDown]
    split
    · rfl
    · split
      · split
        · rfl
        · split
          · rw [ih _ _ (by omega), swp_size]
          · rfl
      · split
        · rfl
        · rw [ih _ _ (by omega), swp_size]
theorem dcells_same (d : Array (BitVec 64)) (z : Array Value) (i : Nat) (h : i < d.size) : (dcells d z).setIfInBounds i (U d[i]!) = dcells d z := by
  rw [dcells_set d z i _ h]
  congr 1
  apply Array.ext_getElem?
  intro j
  by_cases hj : j = i
  · subst hj
    rw [Array.getElem?_setIfInBounds_self_of_lt h, Array.getElem?_eq_getElem h]
    simp [h]
  · rw [Array.getElem?_setIfInBounds_ne (fun e => hj e.symm)]
set_option maxHeartbeats 4000000 in
set_option maxRecDepth 100000 in
theorem heap_any (q cap a b : Nat) (d : Array (BitVec 64)) (z : Array Value) (w : World) (hab : a ≤ b) (hb : b ≤ d.size) (hs : d.size < 1152921504606846976) (hq : RowW w q d z) :
    Calls Tryz.prog 71 #[.slice (some ⟨q, 0, none⟩) d.size cap, I a, I b] w fun e w' => e = .returned (.tuple #[]) ∧ RowW w' q (Go.Sort.heapSort ltW d a b) z ∧ Ch [q] w w' := by
  obtain ⟨n, hn⟩ : ∃ n, d.size = n := ⟨_, rfl⟩
  unfold Go.Sort.heapSort
  rw [hn] at hb hs ⊢
  obtain ⟨H, hH⟩ : ∃ H, b - a = H := ⟨_, rfl⟩
  obtain ⟨K, hK0⟩ : ∃ K, (H - 1) / 2 + 1 = K := ⟨_, rfl⟩
  rw [hH, hK0]
  have e1 : (b : Int) - (a : Int) = H := by omega
  have e2 : ((H : Int) - 1).tdiv 2 = (K : Int) - 1 := by
    rcases Nat.eq_zero_or_pos H with h | h
    · subst h
      have : K = 1 := by omega
      subst this
      decide
    · rw [Int.tdiv_eq_ediv_of_nonneg (by omega)]
      omega
  have u1 : IntKind.i64.wrap ((H : Int) - 1) = (H : Int) - 1 := IntWalk.i64_in _ (by omega)
  have u2 : IntKind.i64.wrap ((K : Int) - 1) = (K : Int) - 1 := IntWalk.i64_in _ (by omega)
  have hKn : K ≤ n + 1 := by omega
  have haH : a + H ≤ n := by omega
  have HN := Lib.hid hn
  have HQ := Lib.hid hq
  clear hn hq hH hK0
  go_enter Tryz.func71, Tryz.ntmps71
  go_wp2
  go_loopw [9] (fun v wr => ∃ (k : Nat) (dj : Array (BitVec 64)), v = I ((k : Int) - 1) ∧ k ≤ K ∧ dj.size = n ∧ RowW wr q dj z ∧ Go.Sort.heapBuild ltW H a k dj = Go.Sort.heapBuild ltW H a K d ∧ Ch [q] w wr) (fun v _ => (intOf v + 1).toNat)
  case atStart => exact ⟨K, d, rfl, by omega, HN.out, HQ.out, rfl, Ch.refl _ _⟩
  case round =>
    obtain ⟨k, dj, hv, hkK, hdj, hrow, hhb, hC⟩ := hrel
    subst hv
    have HB := Lib.hid hhb
    clear hhb HQ HN
    rcases (show k = 0 ∨ 0 < k by omega) with rfl | hk0
    · obtain ⟨W1, hW1⟩ : ∃ W, wr = W := ⟨_, rfl⟩
      rw [hW1] at hrow hC ⊢
      clear hW1
      have hd1 : Go.Sort.heapBuild ltW H a K d = dj := by rw [← HB.out]; rfl
      have HD1 := Lib.hid hd1
      obtain ⟨D1, hD1⟩ : ∃ x, dj = x := ⟨_, rfl⟩
      rw [hD1] at hrow hdj HD1
      clear hd1 HB hD1
      rw [show (((0 : Nat) : Int) - 1) = -1 from rfl]
      go_wp2
      go_loopw [10] (fun v wr => ∃ (k : Nat) (dj : Array (BitVec 64)), v = I ((k : Int) - 1) ∧ k ≤ H ∧ dj.size = n ∧ RowW wr q dj z ∧ Go.Sort.heapPop ltW a k dj = Go.Sort.heapPop ltW a H D1 ∧ Ch [q] w wr) (fun v _ => (intOf v + 1).toNat)
      case atStart => exact ⟨H, D1, rfl, Nat.le_refl _, hdj, hrow, rfl, hC⟩
      case round =>
        obtain ⟨k, dj, hv, hkH, hdj, hrow, hhp, hC⟩ := hrel
        subst hv
        have HP := Lib.hid hhp
        clear hhp
        rcases (show k = 0 ∨ 0 < k by omega) with rfl | hk0
        · have HRW := Lib.hid hrow
          clear hrow hdj
          go_wp2
          go_end0
          exact ⟨rfl, by rw [HD1.out, ← HP.out]; exact HRW.out, hC⟩
        · obtain ⟨m, rfl⟩ : ∃ m, k = m + 1 := ⟨k - 1, by omega⟩
          have hm1 : (((m + 1 : Nat) : Int) - 1) = m := by omega
          have hm0 : (0 : Int) ≤ m := by omega
          rw [hm1]
          obtain ⟨am, ham⟩ : ∃ x, a + m = x := ⟨_, rfl⟩
          have f1 : (a : Int) + (m : Int) = am := by omega
          have f2 : IntKind.i64.wrap (am : Int) = am := IntWalk.i64_in _ (by omega)
          have f3 : (am : Int) < n := by omega
          have f4 : (0 : Int) ≤ am := by omega
          have f5 : (a : Int) < n := by omega
          have f6 : (0 : Int) ≤ a := by omega
          have cA := dcells_get dj z a (by omega)
          have cM := dcells_get dj z am (by omega)
          have SW := fun wq (h : RowW wq q dj z) => RowW.swap h a am (by omega) (by omega)
          have hsz := (swp_size dj a am).trans hdj
          obtain ⟨X, hX⟩ : ∃ x, dj[a]! = x := ⟨_, rfl⟩
          have hX0 := Lib.hid hX
          obtain ⟨Y, hY⟩ : ∃ x, dj[am]! = x := ⟨_, rfl⟩
          rw [hX] at cA SW
          rw [hY] at cM SW
          have hpop : Go.Sort.heapPop ltW a (m + 1) dj = Go.Sort.heapPop ltW a m (Go.Sort.siftDown ltW m a 0 (Go.Sort.swp dj a am)) := by rw [← ham]; rfl
          have HPOP := Lib.hid hpop
          obtain ⟨D2, hD2⟩ : ∃ x, Go.Sort.swp dj a am = x := ⟨_, rfl⟩
          rw [hD2] at SW hsz HPOP
          have HSW := Lib.hid SW
          have hdn : ¬ am = a → ¬ a = am := fun h e => h e.symm
          have hma : am + 0 ≤ n := by omega
          have hamn : a + m ≤ n := by omega
          clear hpop SW hD2 hX hY
          have hlt : a < dj.size := by omega
          rcases (show am = a ∨ ¬ am = a by omega) with hq2 | hq2
          · have hXY : Y = X := by
              have h := cM
              rw [hq2, cA] at h
              have h2 : U X = U Y := Option.some.inj h
              have h3 : N X = N Y := by simpa using h2
              exact ((N_inj X Y).1 h3).symm
            have SW2 := HSW.out
            simp only [hq2, hXY] at SW2
            have HS2 := Lib.hid SW2
            have f7 : IntKind.i64.wrap (a : Int) = a := IntWalk.i64_in _ (by omega)
            have n0 := dcells_same dj z a hlt
            rw [hX0.out] at n0
            rw [hq2] at f1 cM
            rw [hXY] at cM
            clear SW2 HSW hXY f2 f3 f4 hma hdn ham hq2
            have sP : wr.heap[q]? = some (.cells (dcells dj z) 22 (0, 0)) ∧ Ch [q] w wr := ⟨hrow, hC⟩
            clear hrow hC
            go_wp2
            have sT : (fun W' : World => Ch [q] w W') wr.drew := sP.2.drew
            have rT : wr.drew.heap[q]? = some (.cells (dcells dj z) 22 (0, 0)) := sP.1
            refine wp_region_held_drew (S := fun W' : World => Ch [q] w W') (by kernel_rfl) sT ?_
            intro _
            simp only [List.size_toArray, List.length_cons, List.length_nil, Nat.reduceAdd]
            clear sP
            generalize wr.drew = w4 at *
            refine wpAnyH_take (i := 0) (oi := ⟨some 33, _, _, _, _, none⟩) (v := ?_) rfl (by kernel_rfl) (by kernel_rfl) (by kernel_rfl) (fun _ _ _ h => h) (Or.inl ⟨by rfl, ?_⟩) sT ?_
            rotate_left
            · intro wq hSq
              first | (go_simp; done) | (go_simp; with_reducible rfl)
            try simp only [Act.put, List.setIfInBounds_toArray, List.set_cons_zero, List.set_cons_succ]
            refine wpAnyH_take (i := 1) (oi := ⟨some 34, _, _, _, _, none⟩) (v := ?_) rfl (by kernel_rfl) (by kernel_rfl) (by kernel_rfl) (fun _ _ _ h => h) (Or.inl ⟨by rfl, ?_⟩) sT ?_
            rotate_left
            · intro wq hSq
              first | (go_simp; done) | (go_simp; with_reducible rfl)
            try simp only [Act.put, List.setIfInBounds_toArray, List.set_cons_zero, List.set_cons_succ]
            refine wpAnyH_take (i := 2) (oi := ⟨some 35, _, _, _, _, none⟩) (v := ?_) rfl (by kernel_rfl) (by kernel_rfl) (by kernel_rfl) (fun _ _ _ h => h) (Or.inl ⟨by rfl, ?_⟩) sT ?_
            rotate_left
            · intro wq hSq
              first | (go_simp; done) | (go_simp; with_reducible rfl)
            try simp only [Act.put, List.setIfInBounds_toArray, List.set_cons_zero, List.set_cons_succ]
            refine wpAnyH_take (i := 3) (oi := ⟨some 36, _, _, _, _, none⟩) (v := ?_) rfl (by kernel_rfl) (by kernel_rfl) (by kernel_rfl) (fun _ _ _ h => h) (Or.inl ⟨by rfl, ?_⟩) sT ?_
            rotate_left
            · intro wq hSq
              first | (go_simp; done) | (go_simp; with_reducible rfl)
            try simp only [Act.put, List.setIfInBounds_toArray, List.set_cons_zero, List.set_cons_succ]
            refine wpAnyH_take (i := 4) (oi := ⟨some 37, _, _, _, _, none⟩) (v := ?_) rfl (by kernel_rfl) (by kernel_rfl) (by kernel_rfl) (fun _ _ _ h => h) (Or.inl ⟨by rfl, ?_⟩) sT ?_
            rotate_left
            · intro wq hSq
              first | (go_simp; done) | (go_simp; with_reducible rfl)
            try simp only [Act.put, List.setIfInBounds_toArray, List.set_cons_zero, List.set_cons_succ]
            refine wpAnyH_take (i := 5) (oi := ⟨some 38, _, _, _, _, none⟩) (v := ?_) rfl (by kernel_rfl) (by kernel_rfl) (by kernel_rfl) (fun _ _ _ h => h) (Or.inl ⟨by rfl, ?_⟩) sT ?_
            rotate_left
            · intro wq hSq
              first | (go_simp; done) | (go_simp; with_reducible rfl)
            try simp only [Act.put, List.setIfInBounds_toArray, List.set_cons_zero, List.set_cons_succ]
            refine wpAnyH_take (i := 6) (oi := ⟨some 39, _, _, _, _, none⟩) (v := ?_) rfl (by kernel_rfl) (by kernel_rfl) (by kernel_rfl) (fun _ _ _ h => h) (Or.inl ⟨by rfl, ?_⟩) sT ?_
            rotate_left
            · intro wq hSq
              first | (go_simp; done) | (go_simp; with_reducible rfl)
            try simp only [Act.put, List.setIfInBounds_toArray, List.set_cons_zero, List.set_cons_succ]
            refine wpAnyH_take (i := 7) (oi := ⟨some 40, _, _, _, _, none⟩) (v := ?_) rfl (by kernel_rfl) (by kernel_rfl) (by kernel_rfl) (fun _ _ _ h => h) (Or.inl ⟨by rfl, ?_⟩) sT ?_
            rotate_left
            · intro wq hSq
              first | (go_simp; done) | (go_simp; with_reducible rfl)
            try simp only [Act.put, List.setIfInBounds_toArray, List.set_cons_zero, List.set_cons_succ]
            refine wpAnyH_take (i := 8) (oi := ⟨some 41, _, _, _, _, none⟩) (v := ?_) rfl (by kernel_rfl) (by kernel_rfl) (by kernel_rfl) (fun _ _ _ h => h) (Or.inl ⟨by rfl, ?_⟩) sT ?_
            rotate_left
            · intro wq hSq
              first | (go_simp; done) | (go_simp; with_reducible rfl)
            try simp only [Act.put, List.setIfInBounds_toArray, List.set_cons_zero, List.set_cons_succ]
            refine wpAnyH_take (i := 9) (oi := ⟨some 42, _, _, _, _, none⟩) (v := ?_) rfl (by kernel_rfl) (by kernel_rfl) (by kernel_rfl) (fun _ _ _ h => h) (Or.inl ⟨by rfl, ?_⟩) sT ?_
            rotate_left
            · intro wq hSq
              first | (go_simp; done) | (go_simp; with_reducible rfl)
            try simp only [Act.put, List.setIfInBounds_toArray, List.set_cons_zero, List.set_cons_succ]
            refine wpAnyH_take (i := 10) (oi := ⟨some 43, _, _, _, _, none⟩) (v := ?_) rfl (by kernel_rfl) (by kernel_rfl) (by kernel_rfl) (fun _ _ _ h => h) (Or.inl ⟨by rfl, ?_⟩) sT ?_
            rotate_left
            · intro wq hSq
              first | (go_simp; done) | (go_simp; with_reducible rfl)
            try simp only [Act.put, List.setIfInBounds_toArray, List.set_cons_zero, List.set_cons_succ]
            refine wpAnyH_take (i := 12) (oi := ⟨some 45, _, _, _, _, none⟩) (v := ?_) rfl (by kernel_rfl) (by kernel_rfl) (by kernel_rfl) (fun _ _ _ h => h) (Or.inl ⟨by rfl, ?_⟩) sT ?_
            rotate_left
            · intro wq hSq
              first | (go_simp; done) | (go_simp; with_reducible rfl)
            try simp only [Act.put, List.setIfInBounds_toArray, List.set_cons_zero, List.set_cons_succ]
            refine wpAnyH_take (i := 13) (oi := ⟨some 46, _, _, _, _, none⟩) (v := ?_) rfl (by kernel_rfl) (by kernel_rfl) (by kernel_rfl) (fun _ _ _ h => h) (Or.inl ⟨by rfl, ?_⟩) sT ?_
            rotate_left
            · intro wq hSq
              first | (go_simp; done) | (go_simp; with_reducible rfl)
            try simp only [Act.put, List.setIfInBounds_toArray, List.set_cons_zero, List.set_cons_succ]
            refine wpAnyH_take (i := 14) (oi := ⟨some 47, _, _, _, _, none⟩) (v := ?_) rfl (by kernel_rfl) (by kernel_rfl) (by kernel_rfl) (fun _ _ _ h => h) (Or.inl ⟨by rfl, ?_⟩) sT ?_
            rotate_left
            · intro wq hSq
              first | (go_simp; done) | (go_simp; with_reducible rfl)
            try simp only [Act.put, List.setIfInBounds_toArray, List.set_cons_zero, List.set_cons_succ]
            refine wpAnyH_ready (rs := [11, 15]) (by kernel_rfl) (by simp) ?_
            refine AllReadyH.cons (o := ⟨some 44, _, _, _, _, none⟩) rfl (fun K hK => ?_) (AllReadyH.cons (o := ⟨some 48, _, _, _, _, none⟩) rfl (fun K hK => ?_) AllReadyH.nil)
            · go_simp
              refine hK.out _ _ sT (fun _ => ?_)
              clear hK K
              try simp only [Act.put, List.setIfInBounds_toArray, List.set_cons_zero, List.set_cons_succ]
              refine wpAnyH_ready (rs := [15]) (by kernel_rfl) (by simp) ?_
              refine AllReadyH.cons (o := ⟨some 48, _, _, _, _, none⟩) rfl (fun K hK => ?_) AllReadyH.nil
              go_simp
              refine hK.out _ _ sT (fun _ => ?_)
              clear hK K
              try simp only [Act.put, List.setIfInBounds_toArray, List.set_cons_zero, List.set_cons_succ]
              refine wpAnyH_take (i := 16) (oi := ⟨some 49, _, _, _, _, none⟩) (v := ?_) rfl (by kernel_rfl) (by kernel_rfl) (by kernel_rfl) (fun _ _ _ h => h) (Or.inl ⟨by rfl, ?_⟩) sT ?_
              rotate_left
              · intro wq hSq
                first | (go_simp; done) | (go_simp; with_reducible rfl)
              try simp only [Act.put, List.setIfInBounds_toArray, List.set_cons_zero, List.set_cons_succ]
              refine wpAnyH_ready (rs := [17]) (by kernel_rfl) (by simp) ?_
              refine AllReadyH.cons rfl (fun K hK => ?_) AllReadyH.nil
              go_simp
              refine hK.out _ _ (sT.setCell (p := ⟨q, a, none⟩) (.inl (by simp)) _) (fun _ => ?_)
              clear hK K
              have sT16 : (fun W' : World => Ch [q] w W') (w4.setCell ⟨q, a, none⟩ (U X)) := sT.setCell (p := ⟨q, a, none⟩) (.inl (by simp)) _
              refine wpAnyH_take (i := 18) (oi := ⟨some 50, _, _, _, _, none⟩) (v := ?_) rfl (by kernel_rfl) (by kernel_rfl) (by kernel_rfl) (fun _ _ _ h => h) (Or.inl ⟨by rfl, ?_⟩) sT16 ?_
              rotate_left
              · intro wq hSq
                first | (go_simp; done) | (go_simp; with_reducible rfl)
              try simp only [Act.put, List.setIfInBounds_toArray, List.set_cons_zero, List.set_cons_succ]
              refine wpAnyH_ready (rs := [19]) (by kernel_rfl) (by simp) ?_
              refine AllReadyH.cons rfl (fun K hK => ?_) AllReadyH.nil
              go_simp
              refine hK.out _ _ ((sT.setCell (p := ⟨q, a, none⟩) (.inl (by simp)) _).setCell (p := ⟨q, a, none⟩) (.inl (by simp)) _) (fun _ => ?_)
              clear hK K
              refine wpAnyH_done (by kernel_rfl) ?_ _
              have HRW := HS2.out w4 rT
              have HCH := (sT.setCell (p := ⟨q, a, none⟩) (.inl (by simp)) (U X)).setCell (p := ⟨q, a, none⟩) (.inl (by simp)) (U X)
              obtain ⟨w5, hw5⟩ : ∃ W, (w4.setCell ⟨q, a, none⟩ (U X)).setCell ⟨q, a, none⟩ (U X) = W := ⟨_, rfl⟩
              rw [hw5] at HRW
              have HCH5 : Ch [q] w w5 := by rw [← hw5]; exact HCH
              have SI := sift_n q cap 0 m a n D2 hsz z w5 (by omega) hamn hs HRW
              have HSZ := Lib.hid ((sift_size m a _ 0 D2 (Nat.le_refl _)).trans hsz)
              clear HRW HCH rT sT sT16 cA cM hsz
              first | rw [hw5] | skip
              clear hw5
              go_wp2_with fail
              refine SI.mono ?_
              rintro e w6 ⟨rfl, hr6, hc6⟩
              have HR6 := Lib.hid hr6
              have HC6 := Lib.hid (HCH5.trans hc6)
              clear SI hr6 hc6 HCH5
              go_wp2
              go_roundw
              case rel => exact ⟨m, _, rfl, by omega, HSZ.out, HR6.out, by rw [← HP.out, HPOP.out], HC6.out⟩
              case measure => simp [intOf]
            · go_simp
              refine hK.out _ _ sT (fun _ => ?_)
              clear hK K
              try simp only [Act.put, List.setIfInBounds_toArray, List.set_cons_zero, List.set_cons_succ]
              refine wpAnyH_ready (rs := [11]) (by kernel_rfl) (by simp) ?_
              refine AllReadyH.cons (o := ⟨some 44, _, _, _, _, none⟩) rfl (fun K hK => ?_) AllReadyH.nil
              go_simp
              refine hK.out _ _ sT (fun _ => ?_)
              clear hK K
              try simp only [Act.put, List.setIfInBounds_toArray, List.set_cons_zero, List.set_cons_succ]
              refine wpAnyH_take (i := 16) (oi := ⟨some 49, _, _, _, _, none⟩) (v := ?_) rfl (by kernel_rfl) (by kernel_rfl) (by kernel_rfl) (fun _ _ _ h => h) (Or.inl ⟨by rfl, ?_⟩) sT ?_
              rotate_left
              · intro wq hSq
                first | (go_simp; done) | (go_simp; with_reducible rfl)
              try simp only [Act.put, List.setIfInBounds_toArray, List.set_cons_zero, List.set_cons_succ]
              refine wpAnyH_ready (rs := [17]) (by kernel_rfl) (by simp) ?_
              refine AllReadyH.cons rfl (fun K hK => ?_) AllReadyH.nil
              go_simp
              refine hK.out _ _ (sT.setCell (p := ⟨q, a, none⟩) (.inl (by simp)) _) (fun _ => ?_)
              clear hK K
              have sT16 : (fun W' : World => Ch [q] w W') (w4.setCell ⟨q, a, none⟩ (U X)) := sT.setCell (p := ⟨q, a, none⟩) (.inl (by simp)) _
              refine wpAnyH_take (i := 18) (oi := ⟨some 50, _, _, _, _, none⟩) (v := ?_) rfl (by kernel_rfl) (by kernel_rfl) (by kernel_rfl) (fun _ _ _ h => h) (Or.inl ⟨by rfl, ?_⟩) sT16 ?_
              rotate_left
              · intro wq hSq
                first | (go_simp; done) | (go_simp; with_reducible rfl)
              try simp only [Act.put, List.setIfInBounds_toArray, List.set_cons_zero, List.set_cons_succ]
              refine wpAnyH_ready (rs := [19]) (by kernel_rfl) (by simp) ?_
              refine AllReadyH.cons rfl (fun K hK => ?_) AllReadyH.nil
              go_simp
              refine hK.out _ _ ((sT.setCell (p := ⟨q, a, none⟩) (.inl (by simp)) _).setCell (p := ⟨q, a, none⟩) (.inl (by simp)) _) (fun _ => ?_)
              clear hK K
              refine wpAnyH_done (by kernel_rfl) ?_ _
              have HRW := HS2.out w4 rT
              have HCH := (sT.setCell (p := ⟨q, a, none⟩) (.inl (by simp)) (U X)).setCell (p := ⟨q, a, none⟩) (.inl (by simp)) (U X)
              obtain ⟨w5, hw5⟩ : ∃ W, (w4.setCell ⟨q, a, none⟩ (U X)).setCell ⟨q, a, none⟩ (U X) = W := ⟨_, rfl⟩
              rw [hw5] at HRW
              have HCH5 : Ch [q] w w5 := by rw [← hw5]; exact HCH
              have SI := sift_n q cap 0 m a n D2 hsz z w5 (by omega) hamn hs HRW
              have HSZ := Lib.hid ((sift_size m a _ 0 D2 (Nat.le_refl _)).trans hsz)
              clear HRW HCH rT sT sT16 cA cM hsz
              first | rw [hw5] | skip
              clear hw5
              go_wp2_with fail
              refine SI.mono ?_
              rintro e w6 ⟨rfl, hr6, hc6⟩
              have HR6 := Lib.hid hr6
              have HC6 := Lib.hid (HCH5.trans hc6)
              clear SI hr6 hc6 HCH5
              go_wp2
              go_roundw
              case rel => exact ⟨m, _, rfl, by omega, HSZ.out, HR6.out, by rw [← HP.out, HPOP.out], HC6.out⟩
              case measure => simp [intOf]
          · have n1 : ¬ a = am := hdn hq2
            have sP : wr.heap[q]? = some (.cells (dcells dj z) 22 (0, 0)) ∧ Ch [q] w wr := ⟨hrow, hC⟩
            clear hrow hC
            go_wp2
            have sT : (fun W' : World => Ch [q] w W') wr.drew := sP.2.drew
            have rT : wr.drew.heap[q]? = some (.cells (dcells dj z) 22 (0, 0)) := sP.1
            refine wp_region_held_drew (S := fun W' : World => Ch [q] w W') (by kernel_rfl) sT ?_
            intro _
            simp only [List.size_toArray, List.length_cons, List.length_nil, Nat.reduceAdd]
            clear sP
            generalize wr.drew = w4 at *
            refine wpAnyH_take (i := 0) (oi := ⟨some 33, _, _, _, _, none⟩) (v := ?_) rfl (by kernel_rfl) (by kernel_rfl) (by kernel_rfl) (fun _ _ _ h => h) (Or.inl ⟨by rfl, ?_⟩) sT ?_
            rotate_left
            · intro wq hSq
              first | (go_simp; done) | (go_simp; with_reducible rfl)
            try simp only [Act.put, List.setIfInBounds_toArray, List.set_cons_zero, List.set_cons_succ]
            refine wpAnyH_take (i := 1) (oi := ⟨some 34, _, _, _, _, none⟩) (v := ?_) rfl (by kernel_rfl) (by kernel_rfl) (by kernel_rfl) (fun _ _ _ h => h) (Or.inl ⟨by rfl, ?_⟩) sT ?_
            rotate_left
            · intro wq hSq
              first | (go_simp; done) | (go_simp; with_reducible rfl)
            try simp only [Act.put, List.setIfInBounds_toArray, List.set_cons_zero, List.set_cons_succ]
            refine wpAnyH_take (i := 2) (oi := ⟨some 35, _, _, _, _, none⟩) (v := ?_) rfl (by kernel_rfl) (by kernel_rfl) (by kernel_rfl) (fun _ _ _ h => h) (Or.inl ⟨by rfl, ?_⟩) sT ?_
            rotate_left
            · intro wq hSq
              first | (go_simp; done) | (go_simp; with_reducible rfl)
            try simp only [Act.put, List.setIfInBounds_toArray, List.set_cons_zero, List.set_cons_succ]
            refine wpAnyH_take (i := 3) (oi := ⟨some 36, _, _, _, _, none⟩) (v := ?_) rfl (by kernel_rfl) (by kernel_rfl) (by kernel_rfl) (fun _ _ _ h => h) (Or.inl ⟨by rfl, ?_⟩) sT ?_
            rotate_left
            · intro wq hSq
              first | (go_simp; done) | (go_simp; with_reducible rfl)
            try simp only [Act.put, List.setIfInBounds_toArray, List.set_cons_zero, List.set_cons_succ]
            refine wpAnyH_take (i := 4) (oi := ⟨some 37, _, _, _, _, none⟩) (v := ?_) rfl (by kernel_rfl) (by kernel_rfl) (by kernel_rfl) (fun _ _ _ h => h) (Or.inl ⟨by rfl, ?_⟩) sT ?_
            rotate_left
            · intro wq hSq
              first | (go_simp; done) | (go_simp; with_reducible rfl)
            try simp only [Act.put, List.setIfInBounds_toArray, List.set_cons_zero, List.set_cons_succ]
            refine wpAnyH_take (i := 5) (oi := ⟨some 38, _, _, _, _, none⟩) (v := ?_) rfl (by kernel_rfl) (by kernel_rfl) (by kernel_rfl) (fun _ _ _ h => h) (Or.inl ⟨by rfl, ?_⟩) sT ?_
            rotate_left
            · intro wq hSq
              first | (go_simp; done) | (go_simp; with_reducible rfl)
            try simp only [Act.put, List.setIfInBounds_toArray, List.set_cons_zero, List.set_cons_succ]
            refine wpAnyH_take (i := 6) (oi := ⟨some 39, _, _, _, _, none⟩) (v := ?_) rfl (by kernel_rfl) (by kernel_rfl) (by kernel_rfl) (fun _ _ _ h => h) (Or.inl ⟨by rfl, ?_⟩) sT ?_
            rotate_left
            · intro wq hSq
              first | (go_simp; done) | (go_simp; with_reducible rfl)
            try simp only [Act.put, List.setIfInBounds_toArray, List.set_cons_zero, List.set_cons_succ]
            refine wpAnyH_take (i := 7) (oi := ⟨some 40, _, _, _, _, none⟩) (v := ?_) rfl (by kernel_rfl) (by kernel_rfl) (by kernel_rfl) (fun _ _ _ h => h) (Or.inl ⟨by rfl, ?_⟩) sT ?_
            rotate_left
            · intro wq hSq
              first | (go_simp; done) | (go_simp; with_reducible rfl)
            try simp only [Act.put, List.setIfInBounds_toArray, List.set_cons_zero, List.set_cons_succ]
            refine wpAnyH_take (i := 8) (oi := ⟨some 41, _, _, _, _, none⟩) (v := ?_) rfl (by kernel_rfl) (by kernel_rfl) (by kernel_rfl) (fun _ _ _ h => h) (Or.inl ⟨by rfl, ?_⟩) sT ?_
            rotate_left
            · intro wq hSq
              first | (go_simp; done) | (go_simp; with_reducible rfl)
            try simp only [Act.put, List.setIfInBounds_toArray, List.set_cons_zero, List.set_cons_succ]
            refine wpAnyH_take (i := 9) (oi := ⟨some 42, _, _, _, _, none⟩) (v := ?_) rfl (by kernel_rfl) (by kernel_rfl) (by kernel_rfl) (fun _ _ _ h => h) (Or.inl ⟨by rfl, ?_⟩) sT ?_
            rotate_left
            · intro wq hSq
              first | (go_simp; done) | (go_simp; with_reducible rfl)
            try simp only [Act.put, List.setIfInBounds_toArray, List.set_cons_zero, List.set_cons_succ]
            refine wpAnyH_take (i := 10) (oi := ⟨some 43, _, _, _, _, none⟩) (v := ?_) rfl (by kernel_rfl) (by kernel_rfl) (by kernel_rfl) (fun _ _ _ h => h) (Or.inl ⟨by rfl, ?_⟩) sT ?_
            rotate_left
            · intro wq hSq
              first | (go_simp; done) | (go_simp; with_reducible rfl)
            try simp only [Act.put, List.setIfInBounds_toArray, List.set_cons_zero, List.set_cons_succ]
            refine wpAnyH_take (i := 12) (oi := ⟨some 45, _, _, _, _, none⟩) (v := ?_) rfl (by kernel_rfl) (by kernel_rfl) (by kernel_rfl) (fun _ _ _ h => h) (Or.inl ⟨by rfl, ?_⟩) sT ?_
            rotate_left
            · intro wq hSq
              first | (go_simp; done) | (go_simp; with_reducible rfl)
            try simp only [Act.put, List.setIfInBounds_toArray, List.set_cons_zero, List.set_cons_succ]
            refine wpAnyH_take (i := 13) (oi := ⟨some 46, _, _, _, _, none⟩) (v := ?_) rfl (by kernel_rfl) (by kernel_rfl) (by kernel_rfl) (fun _ _ _ h => h) (Or.inl ⟨by rfl, ?_⟩) sT ?_
            rotate_left
            · intro wq hSq
              first | (go_simp; done) | (go_simp; with_reducible rfl)
            try simp only [Act.put, List.setIfInBounds_toArray, List.set_cons_zero, List.set_cons_succ]
            refine wpAnyH_take (i := 14) (oi := ⟨some 47, _, _, _, _, none⟩) (v := ?_) rfl (by kernel_rfl) (by kernel_rfl) (by kernel_rfl) (fun _ _ _ h => h) (Or.inl ⟨by rfl, ?_⟩) sT ?_
            rotate_left
            · intro wq hSq
              first | (go_simp; done) | (go_simp; with_reducible rfl)
            try simp only [Act.put, List.setIfInBounds_toArray, List.set_cons_zero, List.set_cons_succ]
            refine wpAnyH_ready (rs := [11, 15]) (by kernel_rfl) (by simp) ?_
            refine AllReadyH.cons (o := ⟨some 44, _, _, _, _, none⟩) rfl (fun K hK => ?_) (AllReadyH.cons (o := ⟨some 48, _, _, _, _, none⟩) rfl (fun K hK => ?_) AllReadyH.nil)
            · go_simp
              refine hK.out _ _ sT (fun _ => ?_)
              clear hK K
              try simp only [Act.put, List.setIfInBounds_toArray, List.set_cons_zero, List.set_cons_succ]
              refine wpAnyH_ready (rs := [15]) (by kernel_rfl) (by simp) ?_
              refine AllReadyH.cons (o := ⟨some 48, _, _, _, _, none⟩) rfl (fun K hK => ?_) AllReadyH.nil
              go_simp
              refine hK.out _ _ sT (fun _ => ?_)
              clear hK K
              try simp only [Act.put, List.setIfInBounds_toArray, List.set_cons_zero, List.set_cons_succ]
              refine wpAnyH_take (i := 16) (oi := ⟨some 49, _, _, _, _, none⟩) (v := ?_) rfl (by kernel_rfl) (by kernel_rfl) (by kernel_rfl) (fun _ _ _ h => h) (Or.inl ⟨by rfl, ?_⟩) sT ?_
              rotate_left
              · intro wq hSq
                first | (go_simp; done) | (go_simp; with_reducible rfl)
              try simp only [Act.put, List.setIfInBounds_toArray, List.set_cons_zero, List.set_cons_succ]
              refine wpAnyH_ready (rs := [17]) (by kernel_rfl) (by simp) ?_
              refine AllReadyH.cons rfl (fun K hK => ?_) AllReadyH.nil
              go_simp
              refine hK.out _ _ (sT.setCell (p := ⟨q, a, none⟩) (.inl (by simp)) _) (fun _ => ?_)
              clear hK K
              have sT16 : (fun W' : World => Ch [q] w W') (w4.setCell ⟨q, a, none⟩ (U Y)) := sT.setCell (p := ⟨q, a, none⟩) (.inl (by simp)) _
              refine wpAnyH_take (i := 18) (oi := ⟨some 50, _, _, _, _, none⟩) (v := ?_) rfl (by kernel_rfl) (by kernel_rfl) (by kernel_rfl) (fun _ _ _ h => h) (Or.inl ⟨by rfl, ?_⟩) sT16 ?_
              rotate_left
              · intro wq hSq
                first | (go_simp; done) | (go_simp; with_reducible rfl)
              try simp only [Act.put, List.setIfInBounds_toArray, List.set_cons_zero, List.set_cons_succ]
              refine wpAnyH_ready (rs := [19]) (by kernel_rfl) (by simp) ?_
              refine AllReadyH.cons rfl (fun K hK => ?_) AllReadyH.nil
              go_simp
              refine hK.out _ _ ((sT.setCell (p := ⟨q, a, none⟩) (.inl (by simp)) _).setCell (p := ⟨q, am, none⟩) (.inl (by simp)) _) (fun _ => ?_)
              clear hK K
              refine wpAnyH_done (by kernel_rfl) ?_ _
              have HRW := HSW.out w4 rT
              have HCH := (sT.setCell (p := ⟨q, a, none⟩) (.inl (by simp)) (U Y)).setCell (p := ⟨q, am, none⟩) (.inl (by simp)) (U X)
              obtain ⟨w5, hw5⟩ : ∃ W, (w4.setCell ⟨q, a, none⟩ (U Y)).setCell ⟨q, am, none⟩ (U X) = W := ⟨_, rfl⟩
              rw [hw5] at HRW
              have HCH5 : Ch [q] w w5 := by rw [← hw5]; exact HCH
              have SI := sift_n q cap 0 m a n D2 hsz z w5 (by omega) hamn hs HRW
              have HSZ := Lib.hid ((sift_size m a _ 0 D2 (Nat.le_refl _)).trans hsz)
              clear HRW HCH rT sT sT16 cA cM hsz
              first | rw [hw5] | skip
              clear hw5
              go_wp2_with fail
              refine SI.mono ?_
              rintro e w6 ⟨rfl, hr6, hc6⟩
              have HR6 := Lib.hid hr6
              have HC6 := Lib.hid (HCH5.trans hc6)
              clear SI hr6 hc6 HCH5
              go_wp2
              go_roundw
              case rel => exact ⟨m, _, rfl, by omega, HSZ.out, HR6.out, by rw [← HP.out, HPOP.out], HC6.out⟩
              case measure => simp [intOf]
            · go_simp
              refine hK.out _ _ sT (fun _ => ?_)
              clear hK K
              try simp only [Act.put, List.setIfInBounds_toArray, List.set_cons_zero, List.set_cons_succ]
              refine wpAnyH_ready (rs := [11]) (by kernel_rfl) (by simp) ?_
              refine AllReadyH.cons (o := ⟨some 44, _, _, _, _, none⟩) rfl (fun K hK => ?_) AllReadyH.nil
              go_simp
              refine hK.out _ _ sT (fun _ => ?_)
              clear hK K
              try simp only [Act.put, List.setIfInBounds_toArray, List.set_cons_zero, List.set_cons_succ]
              refine wpAnyH_take (i := 16) (oi := ⟨some 49, _, _, _, _, none⟩) (v := ?_) rfl (by kernel_rfl) (by kernel_rfl) (by kernel_rfl) (fun _ _ _ h => h) (Or.inl ⟨by rfl, ?_⟩) sT ?_
              rotate_left
              · intro wq hSq
                first | (go_simp; done) | (go_simp; with_reducible rfl)
              try simp only [Act.put, List.setIfInBounds_toArray, List.set_cons_zero, List.set_cons_succ]
              refine wpAnyH_ready (rs := [17]) (by kernel_rfl) (by simp) ?_
              refine AllReadyH.cons rfl (fun K hK => ?_) AllReadyH.nil
              go_simp
              refine hK.out _ _ (sT.setCell (p := ⟨q, a, none⟩) (.inl (by simp)) _) (fun _ => ?_)
              clear hK K
              have sT16 : (fun W' : World => Ch [q] w W') (w4.setCell ⟨q, a, none⟩ (U Y)) := sT.setCell (p := ⟨q, a, none⟩) (.inl (by simp)) _
              refine wpAnyH_take (i := 18) (oi := ⟨some 50, _, _, _, _, none⟩) (v := ?_) rfl (by kernel_rfl) (by kernel_rfl) (by kernel_rfl) (fun _ _ _ h => h) (Or.inl ⟨by rfl, ?_⟩) sT16 ?_
              rotate_left
              · intro wq hSq
                first | (go_simp; done) | (go_simp; with_reducible rfl)
              try simp only [Act.put, List.setIfInBounds_toArray, List.set_cons_zero, List.set_cons_succ]
              refine wpAnyH_ready (rs := [19]) (by kernel_rfl) (by simp) ?_
              refine AllReadyH.cons rfl (fun K hK => ?_) AllReadyH.nil
              go_simp
              refine hK.out _ _ ((sT.setCell (p := ⟨q, a, none⟩) (.inl (by simp)) _).setCell (p := ⟨q, am, none⟩) (.inl (by simp)) _) (fun _ => ?_)
              clear hK K
              refine wpAnyH_done (by kernel_rfl) ?_ _
              have HRW := HSW.out w4 rT
              have HCH := (sT.setCell (p := ⟨q, a, none⟩) (.inl (by simp)) (U Y)).setCell (p := ⟨q, am, none⟩) (.inl (by simp)) (U X)
              obtain ⟨w5, hw5⟩ : ∃ W, (w4.setCell ⟨q, a, none⟩ (U Y)).setCell ⟨q, am, none⟩ (U X) = W := ⟨_, rfl⟩
              rw [hw5] at HRW
              have HCH5 : Ch [q] w w5 := by rw [← hw5]; exact HCH
              have SI := sift_n q cap 0 m a n D2 hsz z w5 (by omega) hamn hs HRW
              have HSZ := Lib.hid ((sift_size m a _ 0 D2 (Nat.le_refl _)).trans hsz)
              clear HRW HCH rT sT sT16 cA cM hsz
              first | rw [hw5] | skip
              clear hw5
              go_wp2_with fail
              refine SI.mono ?_
              rintro e w6 ⟨rfl, hr6, hc6⟩
              have HR6 := Lib.hid hr6
              have HC6 := Lib.hid (HCH5.trans hc6)
              clear SI hr6 hc6 HCH5
              go_wp2
              go_roundw
              case rel => exact ⟨m, _, rfl, by omega, HSZ.out, HR6.out, by rw [← HP.out, HPOP.out], HC6.out⟩
              case measure => simp [intOf]
    · obtain ⟨m, rfl⟩ : ∃ m, k = m + 1 := ⟨k - 1, by omega⟩
      have hm1 : (((m + 1 : Nat) : Int) - 1) = m := by omega
      have hm0 : (0 : Int) ≤ m := by omega
      have SI := sift_n q cap m H a n dj hdj z wr (by omega) haH hs hrow
      have HSZ := Lib.hid ((sift_size H a _ m dj (Nat.le_refl _)).trans hdj)
      rw [hm1]
      clear hdj hrow
      go_wp2_with fail
      refine SI.mono ?_
      rintro e w2 ⟨rfl, hr2, hc2⟩
      have HR2 := Lib.hid hr2
      have HC2 := Lib.hid (hC.trans hc2)
      clear SI hr2 hc2 hC
      go_wp2
      go_roundw
      case rel => exact ⟨m, _, rfl, by omega, HSZ.out, HR2.out, by rw [← HB.out]; rfl, HC2.out⟩
      case measure => simp [intOf]
end Go.Proofs.Hc
