/- Package hash: prefix of any number of bits; hashes of keys that differ. -/
import Derived.Test.YtfoicjijngfhbaaGreatDoorKBc
import Derived.Test.YtfoicjijngfhbaaGreatDoorKBd
import Derived.Test.YtfoicjijngfhbaaGreatDoorKBk
import Derived.Test.YtfoicjijngfhbaaGreatDoorKBr
import Derived.Test.YtfoicjijngfhbaaGreatDoorKBt
import Derived.Test.YtfoicjijngfhbaaGreatDoorKDa
import Derived.Test.YtfoicjijngfhbaaGreatDoorKFm
import Derived.Test.YtfoicjijngfhbaaGreatDoorKEa
import Derived.Test.YtfoicjijngfhbaaGreatDoorKEk
import Derived.Test.YtfoicjijngfhbaaGreatDoorKHm
import Derived.Test.YtfoicjijngfhbaaGreatDoorKHr
import Derived.Below
import Derived.BigQuiet
import Derived.Deep.Cut
import Derived.Deep.Draws
import Derived.Deep.OwnRows
import Derived.Deep.QuietTactic
import Derived.Deep.RegionHeld
import Derived.Laws.AppendOwn
import Derived.Laws.CopyOwn
import Derived.Laws.CopyRow
import Derived.Laws.EntriesVeiled
import Derived.Laws.Tables
import Derived.Lib.AppendZerosOnto
import Derived.Lib.Hide
import Derived.Lib.Tables
import Derived.LoopIn
import Derived.LoopNIn
import Derived.Maps.RangeWalk
import Derived.Maps.Views
import Derived.OwnWalkIn
import Derived.RangeFuncCalls
import Derived.RangeFuncRecord
import Derived.RangeFuncSeq
import Derived.Recover
import Derived.TacticsInMore
import Derived.Test.YtfoicjijngfhbaaGreatDoorProg
import Derived.WalkKit
import Derived.WalkLawsBesides
set_option linter.unusedSimpArgs false
set_option linter.unusedVariables false
namespace Go.Proofs.Hc
open Go.RowKit
set_option linter.unusedVariables false
set_option linter.unusedSimpArgs false
attribute [local go_sem] wrap_u64 wrap_u8 bits_xor64 bits_and64 bits_or64 bits_not64 bits_xor8 bits_and8 bits_or8 signed64 signed8 ofInt_N BitVec.ofInt_add BitVec.ofInt_mul ofInt_sub' ofInt8_N64 ofInt64_N8 wide8 eqN neN shr_pow shr1 shr7 shr56
attribute [local go_sem high] bits_com64 shl_wrap
attribute [local go_sem] nn2 nm2 nn3 nm3 nn4 nm4 nn5 nm5 nn6 nm6 nn7 nm7 nn8 nm8
attribute [local go_sem] Oper.semAt_some make_func1 make_funcB
attribute [local go_sem] cell_heap ice_heap cellAt_cells iceAt_cells setAt_cells size_setCell rowAt_cells canLay_cells laidAt_cells size_onObj rowRes_some layRes_true
attribute [local go_sem ↓] heap_alloc heap_drew heap_drewN heap_setCell heap_putObj heap_onObj
theorem prefix_any (h : BitVec 64) (n : Nat) (hn : n ≤ 64) (w : World) : Calls Tryz.prog 82 #[U h, I n] w fun e w' => e = .returned (U (prefW n h)) ∧ w = w' := by
  obtain ⟨m, hm⟩ : ∃ m, 64 - n = m := ⟨_, rfl⟩
  have e1 : (64 : Int) - n = m := by omega
  have hs := shr_min h m
  unfold prefW
  rw [hm]
  go_enter Tryz.func82, Tryz.ntmps82
  go_wp2
  go_ret
  exact ⟨rfl, rfl⟩
theorem bwords_get (l : List (BitVec 64)) (j : Nat) (x : BitVec 64) (h : l[j]? = some x) : (bwords l)[j]? = some (U x) := by
  unfold bwords
  rw [List.getElem?_toArray, List.getElem?_map, h]
  rfl
theorem cnt_blk {w w' : World} {bm n : Nat} {f : BitVec 64 → Int} (h : CntAt w bm n f) (hb : w'.heap[bm]? = w.heap[bm]?) : CntAt w' bm n f := by
  obtain ⟨D, ⟨es, clock, hb', r⟩, hf⟩ := h
  exact ⟨D, ⟨es, clock, hb.trans hb', r⟩, hf⟩
/-- Each key met once. -/
def metW (l : List (BitVec 64)) (k : BitVec 64) : Int := if k ∈ l then 1 else 0
theorem metW_nil : metW [] = fun _ => 0 := by funext k; simp [metW]
theorem metW_snoc (l : List (BitVec 64)) (k : BitVec 64) : metW (l ++ [k]) = fun j => if j = k then 1 else metW l j := by
  funext j
  unfold metW
  by_cases h : j = k
  · simp [h]
  · simp [h]
set_option maxHeartbeats 1000000 in
set_option maxRecDepth 100000 in
theorem hashes_yieldsN (sd : BitVec 64) (ks : List (BitVec 64)) (hnd : ks.Nodup) (hlen : ks.length ≤ 1000) (S q c : Nat) (w : World) (hS : w.heap[S]? = some (.cells #[.slice (some ⟨q, 0, none⟩) ks.length c, U sd] 100 (0, 0))) (hq : w.heap[q]? = some (.cells (bwords ks) 22 (0, 0))) :
    YieldsN Tryz.prog 95 #[.pointer (some ⟨S, 0, none⟩)] (fun h : BitVec 64 => #[U h]) (ks.map (hashOf sd)) [] [S, q] w := by
  intro n l J Jx W hW hk hJ hJx hY h0
  have s0 := bkeep hW hS
  have q0 := bkeep hW hq
  obtain ⟨len, hl⟩ : ∃ n, ks.length = n := ⟨_, rfl⟩
  rw [hl] at s0 hlen
  have hmm := @run_makeMap Tryz.prog
  have hcm := cnt_made W
  have C1 : Ch [] W (W.alloc (.map #[] 0)) := (Ch.refl [] W).alloc _
  have j1 := hJ _ _ _ h0 (ChN.of_ch C1 (Nat.le_refl _) (by simp))
  have s1 := bkeep C1 s0
  have q1 := bkeep C1 q0
  obtain ⟨W1, hW1⟩ : ∃ W1, W.alloc (.map #[] 0) = W1 := ⟨_, rfl⟩
  rw [hW1] at hcm C1 j1 s1 q1
  obtain ⟨M, hM⟩ : ∃ M, W.heap.size = M := ⟨_, rfl⟩
  rw [hM] at hcm
  have z1 : M ≤ W1.heap.size := by rw [← hM]; exact C1.size
  have hSM : ¬ S = M := by have := (Array.getElem?_eq_some_iff.1 s0).1; omega
  have hqM : ¬ q = M := by have := (Array.getElem?_eq_some_iff.1 q0).1; omega
  rw [hM] at hJ hJx hY
  have HJ := Lib.hid hJ
  have HJX := Lib.hid hJx
  have HY := Lib.hid hY
  have HL := Lib.hid hl
  have HND := Lib.hid hnd
  have HST := Lib.hid (And.intro hcm (And.intro j1 (And.intro s1 (And.intro q1 z1))))
  clear hW hk hJ hJx hY h0 s0 q0 hcm C1 j1 hS hq hl hnd z1
  refine callsIn_of_wp Tryz.func95 rfl trivial ?_
  simp only [Tryz.ntmps95, List.size_toArray, List.length_cons, List.length_nil, Nat.reduceAdd, Nat.reduceSub, Array.replicate_succ, Array.replicate_zero, List.push_toArray, List.append_toArray, List.nil_append, List.cons_append]
  gi_wp2
  try rw [hW1, hM]
  clear hW1 hM
  gi_loopw [10] (fun i wr => ∃ j : Nat, i = I j ∧ j ≤ len ∧ CntAt wr M j (metW (ks.take j)) ∧ J ((ks.take j).map (hashOf sd)) wr ∧ wr.heap[S]? = some (.cells #[.slice (some ⟨q, 0, none⟩) len c, U sd] 100 (0, 0)) ∧ wr.heap[q]? = some (.cells (bwords ks) 22 (0, 0)) ∧ M ≤ wr.heap.size) (fun i _ => len - (intOf i).toNat)
  case atStart => exact ⟨0, rfl, by omega, by rw [List.take_zero, metW_nil]; exact HST.out.1, by rw [List.take_zero]; exact HST.out.2.1, HST.out.2.2⟩
  case round =>
    clear s1 q1
    obtain ⟨j, hi, hj, hcn, hJw, s1, q1, z1⟩ := hrel
    subst hi
    clear HST
    rcases (show j = len ∨ j < len by omega) with rfl | hlt
    · have hjj := hJw
      rw [List.take_of_length_le (by have := HL.out; omega)] at hjj
      clear hJw
      gi_wp2
      refine bodyPost_end (results_none rfl _ _ _) rfl ?_
      exact ⟨⟨_, rfl⟩, .inl hjj⟩
    · obtain ⟨k, hk⟩ : ∃ k, ks[j]? = some k := ⟨_, List.getElem?_eq_getElem (by have := HL.out; omega)⟩
      have hcell := bwords_get ks j k hk
      have hjl : (j : Int) < len := by omega
      have htk : ks.take (j + 1) = ks.take j ++ [k] := take_snoc hk
      have hks : ks = ks.take j ++ k :: ks.drop (j + 1) := by
        have h1 := (List.getElem?_eq_some_iff.1 hk).1
        have h2 := (List.getElem?_eq_some_iff.1 hk).2
        rw [← h2, ← List.drop_eq_getElem_cons h1, List.take_append_drop]
      have hnew : k ∉ ks.take j := by
        intro h
        have h1 := HND.out
        rw [hks, List.nodup_append] at h1
        exact h1.2.2 k h k (by simp) rfl
      have hf0 : metW (ks.take j) k = 0 := by unfold metW; rw [if_neg hnew]
      have hlk := cnt_look hcn k
      rw [hf0] at hlk
      obtain ⟨W2, hu, hcn2, hc2, hz2⟩ := cnt_put hcn (by omega) k 1 (by decide) (by decide)
      rw [← metW_snoc, ← htk] at hcn2
      have hlk2 := cnt_look hcn2 k
      have hf1 : metW (ks.take (j + 1)) k = 1 := by unfold metW; rw [htk, if_pos (by simp)]
      rw [hf1] at hlk2
      have s2 : W2.heap[S]? = _ := (hc2.block S (Array.getElem?_eq_some_iff.1 s1).1 (by simpa using hSM)).trans s1
      have q2 : W2.heap[q]? = _ := (hc2.block q (Array.getElem?_eq_some_iff.1 q1).1 (by simpa using hqM)).trans q1
      have j2 := HJ.out _ _ _ hJw (ChN.of_ch hc2 z1 (fun t ht => .inr (by rw [List.mem_singleton.1 ht]; exact Nat.le_refl _)))
      have z2 : M ≤ W2.heap.size := by omega
      have mlt : M < W2.heap.size := cnt_lt hcn2
      have hsplit : ks.map (hashOf sd) = (ks.take j).map (hashOf sd) ++ hashOf sd k :: (ks.drop (j + 1)).map (hashOf sd) := by
        conv => lhs; rw [hks]
        rw [List.map_append, List.map_cons]
      have hsn : (ks.take j).map (hashOf sd) ++ [hashOf sd k] = (ks.take (j + 1)).map (hashOf sd) := by rw [htk, List.map_append]; rfl
      obtain ⟨fn, tmps, assign, body, hy, hR⟩ := HY.out _ _ _ W2 hsplit z2 j2
      rw [hsn] at hR
      have O1 := fun w => hashOf_any sd k w
      obtain ⟨h, hh⟩ : ∃ h, hashOf sd k = h := ⟨_, rfl⟩
      rw [hh] at O1 hy
      have HC := Lib.hid (And.intro hcn2 (And.intro s2 (And.intro q2 (And.intro z2 mlt))))
      clear hcn hJw hnew hks htk hk hf0 hf1 hcn2 hc2 hz2 j2 z2 mlt hsplit hsn hh HY HJ HND z1
      gi_wp2_with (refine ⟨trivial, ?_⟩; gi_at_call 96; refine (callsIn_wide.2 (O1 _)).mono ?_; rintro e w' ⟨rfl, rfl⟩)
      refine hR.mono ?_
      rintro e W3 (⟨rfl, hJ3, hz3, hk3⟩ | ⟨rfl, hJx3⟩)
      · have hcn3 := cnt_blk HC.out.1 (hk3 M (.inr ⟨Nat.le_refl _, HC.out.2.2.2.2⟩))
        have s3 := (hk3 S (.inl (by simp))).trans HC.out.2.1
        have q3 := (hk3 q (.inl (by simp))).trans HC.out.2.2.1
        have z3 : M ≤ W3.heap.size := Nat.le_trans HC.out.2.2.2.1 hz3
        have HH := Lib.hid (And.intro hcn3 (And.intro hJ3 (And.intro s3 (And.intro q3 z3))))
        clear hk3 hy hcn3 hJ3 s3 q3 z3 hz3 hlk hlk2 hu hcell s1 q1 s2 q2
        gi_wp2
        go_roundw
        case rel => exact ⟨j + 1, by go_num, by omega, HH.out⟩
        case measure => simp [intOf]; omega
      · clear hlk hlk2 hu hcell s1 q1 s2 q2
        gi_wp2
        refine bodyPost_ret (results_none rfl _ _ _) rfl ?_
        exact ⟨⟨_, rfl⟩, .inr hJx3⟩
end Go.Proofs.Hc
