/- bound: comes, parts, least of any script that may be (printed by mkEg.py from Bu and Bv). -/
import Derived.Test.YtfoicjijngfhbaaGreatDoorKBb
import Derived.Test.YtfoicjijngfhbaaGreatDoorKBc
import Derived.Test.YtfoicjijngfhbaaGreatDoorKBd
import Derived.Test.YtfoicjijngfhbaaGreatDoorKBe
import Derived.Test.YtfoicjijngfhbaaGreatDoorKBf
import Derived.Test.YtfoicjijngfhbaaGreatDoorKBk
import Derived.Test.YtfoicjijngfhbaaGreatDoorKBo
import Derived.Test.YtfoicjijngfhbaaGreatDoorKBu
import Derived.Test.YtfoicjijngfhbaaGreatDoorKDa
import Derived.Test.YtfoicjijngfhbaaGreatDoorKFm
import Derived.Test.YtfoicjijngfhbaaGreatDoorKDf
import Derived.Test.YtfoicjijngfhbaaGreatDoorKDn
import Derived.Test.YtfoicjijngfhbaaGreatDoorKDo
import Derived.Test.YtfoicjijngfhbaaGreatDoorKEa
import Derived.Test.YtfoicjijngfhbaaGreatDoorKEe
import Derived.Test.YtfoicjijngfhbaaGreatDoorKEf
import Derived.Test.YtfoicjijngfhbaaGreatDoorKEk
import Derived.Test.YtfoicjijngfhbaaGreatDoorKHm
import Derived.Test.YtfoicjijngfhbaaGreatDoorKHr
import Derived.Below
import Derived.BigQuiet
import Derived.Deep.Cut
import Derived.Deep.Draws
import Derived.Deep.OwnRows
import Derived.Deep.QuietTactic
import Derived.Deep.RegionHeld
import Derived.Laws.AppendOwn
import Derived.Laws.Bits64
import Derived.Laws.Bits64b
import Derived.Laws.CopyOwn
import Derived.Laws.CopyRow
import Derived.Laws.EntriesVeiled
import Derived.Laws.IdiomCopy
import Derived.Laws.Tables
import Derived.Lib.AppendZerosOnto
import Derived.Lib.BitFns
import Derived.Lib.Hide
import Derived.Lib.Slices
import Derived.Lib.Small
import Derived.Lib.Strings
import Derived.Lib.Tables
import Derived.Lib.Walk
import Derived.LoopIn
import Derived.LoopNIn
import Derived.Maps.RangeWalk
import Derived.Maps.Views
import Derived.OwnWalkIn
import Derived.RangeFuncCalls
import Derived.RangeFuncRecord
import Derived.RangeFuncSeq
import Derived.Recover
import Derived.Sort.AssemblyPlain
import Derived.Sort.Defs
import Derived.Sort.LotC
import Derived.Sort.LotD1
import Derived.Sort.LotD5
import Derived.Sort.LotD6
import Derived.Sort.Walk13a
import Derived.StillTail
import Derived.TacticsInMore
import Derived.Test.YtfoicjijngfhbaaGreatDoorProg
import Derived.WalkKit
import Derived.WalkLawsBesides
set_option linter.unusedSimpArgs false
set_option linter.unusedVariables false
namespace Go.Proofs.Hc
open Go.RowKit
set_option linter.unusedVariables false
set_option linter.unusedSimpArgs false
attribute [local go_sem] wrap_u64 wrap_u8 bits_xor64 bits_and64 bits_or64 bits_not64 bits_xor8 bits_and8 bits_or8 signed64 signed8 ofInt_N BitVec.ofInt_add BitVec.ofInt_mul ofInt_sub' ofInt8_N64 ofInt64_N8 wide8 eqN neN shr_pow shr1 shr7 shr56
attribute [local go_sem high] bits_com64 shl_wrap
attribute [local go_sem] nn2 nm2 nn3 nm3 nn4 nm4 nn5 nm5 nn6 nm6 nn7 nm7 nn8 nm8
attribute [local go_sem] Oper.semAt_some make_func1 make_funcB
attribute [local go_sem] cell_heap ice_heap cellAt_cells iceAt_cells setAt_cells size_setCell rowAt_cells canLay_cells laidAt_cells size_onObj rowRes_some layRes_true
attribute [local go_sem ↓] heap_alloc heap_drew heap_drewN heap_setCell heap_putObj heap_onObj
attribute [local go_sem] loadS box_sc loadP5 box_pl scC_size scC_all scC_seed
attribute [local go_sem ↓] lrowS lrowP5
/-- Each once. -/
def dd : List (BitVec 64) → List (BitVec 64)
  | [] => []
  | x :: l => if x ∈ l then dd l else x :: dd l
theorem mem_dd (k : BitVec 64) : ∀ l : List (BitVec 64), k ∈ dd l ↔ k ∈ l
  | [] => by simp [dd]
  | x :: l => by
    unfold dd
    have h := mem_dd k l
    split
    · next hx =>
      rw [h, List.mem_cons]
      constructor
      · exact fun h => .inr h
      · rintro (rfl | h)
        · exact hx
        · exact h
    · rw [List.mem_cons, List.mem_cons, h]
theorem nodup_dd : ∀ l : List (BitVec 64), (dd l).Nodup
  | [] => List.nodup_nil
  | x :: l => by
    unfold dd
    split
    · exact nodup_dd l
    · next hx => exact List.nodup_cons.2 ⟨fun h => hx ((mem_dd x l).1 h), nodup_dd l⟩
theorem len_dd : ∀ l : List (BitVec 64), (dd l).length ≤ l.length
  | [] => Nat.le_refl _
  | x :: l => by
    unfold dd
    have := len_dd l
    split <;> simp <;> omega
theorem sortW_perm (l : List (BitVec 64)) : (sortW l).Perm l := List.mergeSort_perm ..
theorem sortW_sorted (l : List (BitVec 64)) : (sortW l).Pairwise fun a b => (!ltW b a) = true := by
  refine List.pairwise_mergeSort ?_ ?_ l
  · intro a b c h1 h2
    simp only [Bool.not_eq_true'] at h1 h2 ⊢
    exact swoW.ntrans _ _ _ h2 h1
  · intro a b
    cases h : ltW b a with
    | false => rfl
    | true =>
      have : ltW a b = false := ltW_false.2 (by have := ltW_true.1 h; omega)
      rw [this]
      rfl
theorem sort_same {xs ys : List (BitVec 64)} (hx : xs.Nodup) (hy : ys.Nodup) (h : ∀ k, k ∈ xs ↔ k ∈ ys) : sortW xs = sortW ys := by
  refine List.Perm.eq_of_pairwise (le := fun a b => (!ltW b a) = true) ?_ (sortW_sorted xs) (sortW_sorted ys) ((sortW_perm xs).trans (((List.perm_ext_iff_of_nodup hx hy).2 h).trans (sortW_perm ys).symm))
  intro a b _ _ h1 h2
  simp only [Bool.not_eq_true'] at h1 h2
  exact ltW_eq a b h2 h1
/-- The keys that come, rising. -/
def keysL (l : List CallT) : List (BitVec 64) := sortW (dd ((l.filter CallT.comes).map CallT.k))
theorem cntL_ne (l : List CallT) (k : BitVec 64) : cntL l k ≠ 0 ↔ k ∈ (l.filter CallT.comes).map CallT.k := by
  unfold cntL
  rw [List.mem_map]
  constructor
  · intro h
    have h1 : (l.filter fun c => c.comes && c.k == k) ≠ [] := fun e => h (by rw [e]; rfl)
    obtain ⟨x, hx⟩ := List.exists_mem_of_ne_nil _ h1
    obtain ⟨hx1, hx2⟩ := List.mem_filter.1 hx
    simp only [Bool.and_eq_true, beq_iff_eq] at hx2
    exact ⟨x, List.mem_filter.2 ⟨hx1, hx2.1⟩, hx2.2⟩
  · rintro ⟨c, hc, rfl⟩ h
    obtain ⟨h1, h2⟩ := List.mem_filter.1 hc
    have h3 : c ∈ l.filter fun c' => c'.comes && c'.k == c.k := List.mem_filter.2 ⟨h1, by simp [h2]⟩
    have h4 := List.length_pos_of_mem h3
    omega
theorem keys_mem (l : List CallT) (k : BitVec 64) : k ∈ keysL l ↔ cntL l k ≠ 0 := by
  unfold keysL
  rw [(sortW_perm _).mem_iff, mem_dd, cntL_ne]
theorem keys_nodup (l : List CallT) : (keysL l).Nodup := (sortW_perm _).symm.nodup (nodup_dd _)
theorem keys_len (l : List CallT) : (keysL l).length ≤ l.length := by
  unfold keysL
  rw [(sortW_perm _).length_eq]
  refine Nat.le_trans (len_dd _) ?_
  rw [List.length_map]
  exact List.length_filter_le _ _
/-- With how few bits a script's keys part; how few slabs are enough. -/
def ptsS (s : ScT) : Nat := deepN 7 ((keysL (catL s.ls)).map (hashOf s.sd))
def lstS (s : ScT) : Int := slabsB ((keysL (catL s.ls)).length : Int)
theorem comes_of (s : ScT) (w : World) (R : RightSc w s) :
    Calls Tryz.prog 26 #[.agg (scC s)] w fun e w' => ∃ v, e = .returned v ∧ w'.ownsRow w.heap.size 22 1 v (keysL (catL s.ls)).length ((keysL (catL s.ls)).map fun k => U k) ∧ Ch [] w w' :=
  comes_any s w R (keysL (catL s.ls)) (fun xs hn h => by
    have hk : keysL (catL s.ls) = sortW xs := by
      unfold keysL
      exact sort_same (nodup_dd _) hn (fun k => by rw [mem_dd, h k, cntL_ne])
    have hlen : xs.length ≤ 1000000 := by
      have h1 := R.calls
      have h2 := keys_len (catL s.ls)
      rw [hk, (sortW_perm xs).length_eq] at h2
      omega
    rw [hk]
    exact sort_all xs hlen)
set_option maxHeartbeats 1000000 in
set_option maxRecDepth 100000 in
theorem parts_of (s : ScT) (w : World) (R : RightSc w s) : Calls Tryz.prog 29 #[.agg (scC s)] w fun e w' => e = .returned (I (ptsS s)) ∧ Ch [] w w' := by
  have hc64 := R.calls
  have hkl := keys_len (catL s.ls)
  obtain ⟨W, hW, C, hB⟩ := plbox s w
  have R1 := R.ch C
  have M1 := fun w R => comes_of s w R
  have D1 := fun v base w hown => deepest_any s.sd 7 (by decide) (keysL (catL s.ls)) (keys_nodup _) (by omega) v base w hown
  rw [show deepN 7 ((keysL (catL s.ls)).map (hashOf s.sd)) = ptsS s from rfl] at D1
  obtain ⟨n, hn⟩ : ∃ n, ptsS s = n := ⟨_, rfl⟩
  rw [hn] at D1 ⊢
  clear hn hc64 hkl
  obtain ⟨B, hBe⟩ : ∃ B, w.heap.size = B := ⟨_, rfl⟩
  rw [hBe] at hB
  clear R
  go_enter Tryz.func29, Tryz.ntmps29
  go_wp2
  try rw [hW]
  try rw [hBe]
  clear hW hBe
  have sP : (fun W' : World => Ch [] w W' ∧ W'.heap[B]? = some (.cells (scC s) 50 (0, 0))) W.drew := ⟨C.drew, hB⟩
  have R2 := R1.ch ((Ch.refl [] W).drew)
  refine wp_region_held_drew (S := fun W' : World => Ch [] w W' ∧ W'.heap[B]? = some (.cells (scC s) 50 (0, 0))) (by kernel_rfl) sP ?_
  intro _
  simp only [List.size_toArray, List.length_cons, List.length_nil, Nat.reduceAdd]
  clear C hB R1
  generalize W.drew = w2 at *
  refine wpAnyH_take (i := 0) (oi := ⟨some 6, _, _, _, _, none⟩) (v := ?_) rfl (by kernel_rfl) (by kernel_rfl) (by kernel_rfl) (fun _ _ _ h => h) (Or.inl ⟨by rfl, ?_⟩) sP ?_
  rotate_left
  · intro wq hSq
    obtain ⟨q0, q1⟩ := hSq
    first | (go_simp; done) | (go_simp; with_reducible rfl)
  try simp only [Act.put, List.setIfInBounds_toArray, List.set_cons_zero, List.set_cons_succ]
  refine wpAnyH_take (i := 1) (oi := ⟨some 7, _, _, _, _, none⟩) (v := ?_) rfl (by kernel_rfl) (by kernel_rfl) (by kernel_rfl) (fun _ _ _ h => h) (Or.inl ⟨by rfl, ?_⟩) sP ?_
  rotate_left
  · intro wq hSq
    obtain ⟨q0, q1⟩ := hSq
    first | (go_simp; done) | (go_simp; with_reducible rfl)
  try simp only [Act.put, List.setIfInBounds_toArray, List.set_cons_zero, List.set_cons_succ]
  refine wpAnyH_take (i := 2) (oi := ⟨some 8, _, _, _, _, none⟩) (v := ?_) rfl (by kernel_rfl) (by kernel_rfl) (by kernel_rfl) (fun _ _ _ h => h) (Or.inl ⟨by rfl, ?_⟩) sP ?_
  rotate_left
  · intro wq hSq
    obtain ⟨q0, q1⟩ := hSq
    first | (go_simp; done) | (go_simp; with_reducible rfl)
  try simp only [Act.put, List.setIfInBounds_toArray, List.set_cons_zero, List.set_cons_succ]
  refine wpAnyH_take (i := 3) (oi := ⟨some 9, _, _, _, _, none⟩) (v := ?_) rfl (by kernel_rfl) (by kernel_rfl) (by kernel_rfl) (fun _ _ _ h => h) (Or.inl ⟨by rfl, ?_⟩) sP ?_
  rotate_left
  · intro wq hSq
    obtain ⟨q0, q1⟩ := hSq
    first | (go_simp; done) | (go_simp; with_reducible rfl)
  try simp only [Act.put, List.setIfInBounds_toArray, List.set_cons_zero, List.set_cons_succ]
  refine wpAnyH_ready (rs := [4]) (by kernel_rfl) (by simp) ?_
  refine AllReadyH.cons rfl (fun K hK => ?_) AllReadyH.nil
  go_simp
  refine (M1 _ R2).mono ?_
  rintro e w3 ⟨v, rfl, hown, hc3⟩
  have sP3 : (fun W' : World => Ch [] w W' ∧ W'.heap[B]? = some (.cells (scC s) 50 (0, 0))) w3 := ⟨sP.1.trans hc3, bkeep hc3 sP.2⟩
  refine hK.out _ _ sP3 (fun _ => ?_)
  clear hK K sP hc3 M1 R2
  refine wpAnyH_ready (rs := [5]) (by kernel_rfl) (by simp) ?_
  refine AllReadyH.cons rfl (fun K hK => ?_) AllReadyH.nil
  go_simp
  refine (D1 _ _ _ hown).mono ?_
  rintro e w4 ⟨rfl, hc4⟩
  have sP4 : (fun W' : World => Ch [] w W' ∧ W'.heap[B]? = some (.cells (scC s) 50 (0, 0))) w4 := ⟨sP3.1.trans hc4, bkeep hc4 sP3.2⟩
  refine hK.out _ _ sP4 (fun _ => ?_)
  clear hK K sP3 hc4 hown D1
  refine wpAnyH_take (i := 6) (oi := ⟨some 5, _, _, _, _, none⟩) (v := ?_) rfl (by kernel_rfl) (by kernel_rfl) (by kernel_rfl) (fun _ _ _ h => h) (Or.inl ⟨by rfl, ?_⟩) sP4 ?_
  rotate_left
  · intro wq hSq
    first | (go_simp; done) | (go_simp; with_reducible rfl)
  try simp only [Act.put, List.setIfInBounds_toArray, List.set_cons_zero, List.set_cons_succ]
  refine wpAnyH_take (i := 7) (oi := ⟨some 12, _, _, _, _, none⟩) (v := ?_) rfl (by kernel_rfl) (by kernel_rfl) (by kernel_rfl) (fun _ _ _ h => h) (Or.inl ⟨by rfl, ?_⟩) sP4 ?_
  rotate_left
  · intro wq hSq
    first | (go_simp; done) | (go_simp; with_reducible rfl)
  try simp only [Act.put, List.setIfInBounds_toArray, List.set_cons_zero, List.set_cons_succ]
  refine wpAnyH_take (i := 8) (oi := ⟨some 13, _, _, _, _, none⟩) (v := ?_) rfl (by kernel_rfl) (by kernel_rfl) (by kernel_rfl) (fun _ _ _ h => h) (Or.inl ⟨by rfl, ?_⟩) sP4 ?_
  rotate_left
  · intro wq hSq
    first | (go_simp; done) | (go_simp; with_reducible rfl)
  try simp only [Act.put, List.setIfInBounds_toArray, List.set_cons_zero, List.set_cons_succ]
  refine wpAnyH_take (i := 9) (oi := ⟨some 3, _, _, _, _, none⟩) (v := ?_) rfl (by kernel_rfl) (by kernel_rfl) (by kernel_rfl) (fun _ _ _ h => h) (Or.inl ⟨by rfl, ?_⟩) sP4 ?_
  rotate_left
  · intro wq hSq
    first | (go_simp; done) | (go_simp; with_reducible rfl)
  try simp only [Act.put, List.setIfInBounds_toArray, List.set_cons_zero, List.set_cons_succ]
  refine wpAnyH_take (i := 10) (oi := ⟨some 4, _, _, _, _, none⟩) (v := ?_) rfl (by kernel_rfl) (by kernel_rfl) (by kernel_rfl) (fun _ _ _ h => h) (Or.inl ⟨by rfl, ?_⟩) sP4 ?_
  rotate_left
  · intro wq hSq
    first | (go_simp; done) | (go_simp; with_reducible rfl)
  try simp only [Act.put, List.setIfInBounds_toArray, List.set_cons_zero, List.set_cons_succ]
  refine wpAnyH_done (by kernel_rfl) ?_ _
  have C4 := sP4.1
  clear sP4
  go_wp2_with (go_at_call 43; refine (bneed_yes _ _).mono ?_; rintro e w' ⟨rfl, rfl⟩)
  go_ret
  exact ⟨rfl, C4⟩
set_option maxRecDepth 100000 in
theorem least_of (s : ScT) (w : World) (R : RightSc w s) (h5 : ptsS s ≤ 5) : Calls Tryz.prog 32 #[.agg (scC s)] w fun e w' => e = .returned (I (lstS s)) ∧ Ch [] w w' := by
  obtain ⟨W, hW, C, hB⟩ := plbox s w
  have P1 := parts_of s W (R.ch C)
  have M1 := fun w R => comes_of s w R
  have hc64 := R.calls
  have hkl := keys_len (catL s.ls)
  have L1 := fun w => slabs_any ((keysL (catL s.ls)).length : Int) (by omega) (by omega) w
  rw [show slabsB ((keysL (catL s.ls)).length : Int) = lstS s from rfl] at L1
  obtain ⟨n, hn⟩ : ∃ n, ptsS s = n := ⟨_, rfl⟩
  rw [hn] at P1 h5
  have h5I : (n : Int) ≤ 5 := by omega
  obtain ⟨ll, hll⟩ : ∃ n, lstS s = n := ⟨_, rfl⟩
  rw [hll] at L1 ⊢
  obtain ⟨ks, hks⟩ : ∃ n, keysL (catL s.ls) = n := ⟨_, rfl⟩
  rw [hks] at M1 L1
  obtain ⟨kn, hkn⟩ : ∃ n, ks.length = n := ⟨_, rfl⟩
  rw [hkn] at M1 L1
  clear hn hll hks hkn hkl hc64
  have R1 := R.ch C
  obtain ⟨B, hBe⟩ : ∃ B, w.heap.size = B := ⟨_, rfl⟩
  rw [hBe] at hB
  clear R
  go_enter Tryz.func32, Tryz.ntmps32
  go_upto_region 1 with (fail)
  try rw [hW]
  try rw [hBe]
  clear hW hBe
  go_wp2_with fail
  refine P1.mono ?_
  rintro e w2 ⟨rfl, hc2⟩
  have hB2 := bkeep hc2 hB
  have R2 := R1.ch hc2
  have C2 := C.trans hc2
  have M2 := M1 w2 R2
  clear C hB R1 P1 M1 hc2 R2
  go_wp2_with (go_at_call 43; refine (bneed_yes _ _).mono ?_; rintro e w' ⟨rfl, rfl⟩)
  refine M2.mono ?_
  rintro e w3 ⟨v, rfl, hown, hc3⟩
  obtain ⟨a, c, rfl⟩ := own_val hown
  have C3 := C2.trans hc3
  clear hown M2 hc3 C2 hB2
  go_wp2_with fail
  refine (L1 _).mono ?_
  rintro e w4 ⟨rfl, hc4⟩
  go_wp2
  go_ret
  exact ⟨rfl, C3.trans hc4⟩
set_option maxRecDepth 100000 in
theorem least_no (s : ScT) (w : World) (R : RightSc w s) (h5 : ¬ ptsS s ≤ 5) : Calls Tryz.prog 32 #[.agg (scC s)] w fun e w' => e = .panicked [{ v := .iface 29 (I 2), recovered := false }] ∧ Ch [] w w' := by
  obtain ⟨W, hW, C, hB⟩ := plbox s w
  have P1 := parts_of s W (R.ch C)
  obtain ⟨n, hn⟩ : ∃ n, ptsS s = n := ⟨_, rfl⟩
  rw [hn] at P1 h5
  have h5I : (5 : Int) < n := by omega
  have h5d : decide ((n : Int) ≤ 5) = false := decide_eq_false (by omega)
  clear h5
  clear hn
  have R1 := R.ch C
  obtain ⟨B, hBe⟩ : ∃ B, w.heap.size = B := ⟨_, rfl⟩
  rw [hBe] at hB
  clear R
  go_enter Tryz.func32, Tryz.ntmps32
  go_upto_region 1 with (fail)
  try rw [hW]
  try rw [hBe]
  clear hW hBe
  go_wp2_with fail
  refine P1.mono ?_
  rintro e w2 ⟨rfl, hc2⟩
  have C2 := C.trans hc2
  clear C hB R1 P1 hc2
  go_wp2_with (go_at_call 43; refine (bneed_no _ _).mono ?_; rintro e w' ⟨rfl, rfl⟩)
  exact ⟨rfl, rfl, C2⟩
end Go.Proofs.Hc
