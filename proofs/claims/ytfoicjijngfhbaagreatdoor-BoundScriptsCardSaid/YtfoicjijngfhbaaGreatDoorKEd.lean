/- Package hash: counted, of any number of bits, at keys that differ. -/
import Derived.Test.YtfoicjijngfhbaaGreatDoorKBc
import Derived.Test.YtfoicjijngfhbaaGreatDoorKBd
import Derived.Test.YtfoicjijngfhbaaGreatDoorKBr
import Derived.Test.YtfoicjijngfhbaaGreatDoorKBs
import Derived.Test.YtfoicjijngfhbaaGreatDoorKBt
import Derived.Test.YtfoicjijngfhbaaGreatDoorKDa
import Derived.Test.YtfoicjijngfhbaaGreatDoorKFm
import Derived.Test.YtfoicjijngfhbaaGreatDoorKDi
import Derived.Test.YtfoicjijngfhbaaGreatDoorKEa
import Derived.Test.YtfoicjijngfhbaaGreatDoorKEc
import Derived.Test.YtfoicjijngfhbaaGreatDoorKEk
import Derived.Test.YtfoicjijngfhbaaGreatDoorKHm
import Derived.Test.YtfoicjijngfhbaaGreatDoorKHr
import Derived.Below
import Derived.BigQuiet
import Derived.Deep.Cut
import Derived.Deep.Draws
import Derived.Deep.OwnRows
import Derived.Deep.QuietTactic
import Derived.Deep.RegionHeld
import Derived.Laws.AppendOwn
import Derived.Laws.CopyOwn
import Derived.Laws.CopyRow
import Derived.Laws.EntriesVeiled
import Derived.Laws.Tables
import Derived.Lib.AppendZerosOnto
import Derived.Lib.Hide
import Derived.Lib.Tables
import Derived.LoopIn
import Derived.LoopNIn
import Derived.Maps.RangeWalk
import Derived.Maps.Views
import Derived.OwnWalkIn
import Derived.RangeFuncCalls
import Derived.RangeFuncRecord
import Derived.RangeFuncSeq
import Derived.Recover
import Derived.StillTail
import Derived.TacticsInMore
import Derived.Test.YtfoicjijngfhbaaGreatDoorProg
import Derived.WalkKit
import Derived.WalkLawsBesides
set_option linter.unusedSimpArgs false
set_option linter.unusedVariables false
namespace Go.Proofs.Hc
open Go.RowKit
set_option linter.unusedVariables false
set_option linter.unusedSimpArgs false
attribute [local go_sem] wrap_u64 wrap_u8 bits_xor64 bits_and64 bits_or64 bits_not64 bits_xor8 bits_and8 bits_or8 signed64 signed8 ofInt_N BitVec.ofInt_add BitVec.ofInt_mul ofInt_sub' ofInt8_N64 ofInt64_N8 wide8 eqN neN shr_pow shr1 shr7 shr56
attribute [local go_sem high] bits_com64 shl_wrap
attribute [local go_sem] nn2 nm2 nn3 nm3 nn4 nm4 nn5 nm5 nn6 nm6 nn7 nm7 nn8 nm8
attribute [local go_sem] Oper.semAt_some make_func1 make_funcB
attribute [local go_sem] cell_heap ice_heap cellAt_cells iceAt_cells setAt_cells size_setCell rowAt_cells canLay_cells laidAt_cells size_onObj rowRes_some layRes_true
attribute [local go_sem ↓] heap_alloc heap_drew heap_drewN heap_setCell heap_putObj heap_onObj
attribute [local go_sem] loadSe
attribute [local go_sem ↓] lrowSe
set_option maxHeartbeats 1000000 in
set_option maxRecDepth 100000 in
theorem counted_any (nb : Nat) (hnb : nb ≤ 64) (sd : BitVec 64) (ks : List (BitVec 64)) (hnd : ks.Nodup) (hlen : ks.length ≤ 1000) (c q cq : Nat) (m : Value) (w : World) (hc : w.heap[c]? = some (.cells #[.slice (some ⟨q, 0, none⟩) ks.length cq, U sd, m] 102 (0, 0))) (hq : w.heap[q]? = some (.cells (bwords ks) 22 (0, 0))) :
    Calls Tryz.prog 59 #[.pointer (some ⟨c, 0, none⟩), I nb] w fun e w' => ∃ M, e = .returned (.map (some M)) ∧ CntAt w' M ks.length (crowdF nb (ks.map (hashOf sd))) ∧ w'.heap[c]? = some (.cells #[.slice (some ⟨q, 0, none⟩) ks.length cq, U sd, .map (some M)] 102 (0, 0)) ∧ Ch [c] w w' := by
  obtain ⟨len, hl⟩ : ∃ n, ks.length = n := ⟨_, rfl⟩
  rw [hl] at hc ⊢
  obtain ⟨hs, hh⟩ : ∃ h, ks.map (hashOf sd) = h := ⟨_, rfl⟩
  rw [hh]
  have hmm := @run_makeMap Tryz.prog
  obtain ⟨W, hW, C, b1, b2, hsz⟩ := cr_world c nb w
  have hc1 := bkeep C hc
  have hq1 := bkeep C hq
  have hcl : c < w.heap.size := (Array.getElem?_eq_some_iff.1 hc).1
  obtain ⟨B, hB⟩ : ∃ B, w.heap.size = B := ⟨_, rfl⟩
  rw [hB] at b1 b2 hsz hcl
  have n1 : ¬ c = W.heap.size := by omega
  have n2 : ¬ B = W.heap.size := by omega
  have n3 : ¬ B + 1 = W.heap.size := by omega
  have n4 : ¬ B = c := by omega
  have n5 : ¬ B + 1 = c := by omega
  have HSZ := Lib.hid hsz
  have HB := Lib.hid hB
  have HCL := Lib.hid hcl
  clear hc hq hsz hcl
  refine (callsIn_wide (n := 3)).1 ?_
  refine callsIn_of_wp_marks Tryz.func59 rfl trivial ?_
  simp only [Tryz.ntmps59, List.size_toArray, List.length_cons, List.length_nil, Nat.reduceAdd, Nat.reduceSub, Array.replicate_succ, Array.replicate_zero, List.push_toArray, List.append_toArray, List.nil_append, List.cons_append]
  gi_wp2_with (fail)
  obtain ⟨M, hM⟩ : ∃ M, W.heap.size = M := ⟨_, rfl⟩
  obtain ⟨c2, hcc⟩ := mapfield c M (.slice (some ⟨q, 0, none⟩) len cq) sd m W hc1
  have hcn : CntAt ((W.alloc (.map #[] 0)).setCell ⟨c, 2, none⟩ (.map (some M))) M 0 fun _ => 0 := by
    have h := cnt_made W
    rw [hM] at h
    refine cnt_ch h (S := [c]) ((Ch.refl [c] _).setCell (.inl (by simp)) _) ?_
    rw [← hM]
    simpa using fun e => n1 e.symm
  have q2 : ((W.alloc (.map #[] 0)).setCell ⟨c, 2, none⟩ (.map (some M))).heap[q]? = some (.cells (bwords ks) 22 (0, 0)) := (hcc.block q (Array.getElem?_eq_some_iff.1 hq1).1 (by
    simp only [List.mem_singleton]
    intro e
    rw [e, hc1] at hq1
    injection hq1 with h1
    injection h1 with h2 h3
    exact absurd h3 (by decide))).trans hq1
  have b12 : ((W.alloc (.map #[] 0)).setCell ⟨c, 2, none⟩ (.map (some M))).heap[B]? = some (.cells #[.pointer (some ⟨c, 0, none⟩)] 73 (0, 0)) := (hcc.block B (Array.getElem?_eq_some_iff.1 b1).1 (by simpa using n4)).trans b1
  have b22 : ((W.alloc (.map #[] 0)).setCell ⟨c, 2, none⟩ (.map (some M))).heap[B + 1]? = some (.cells #[I nb] 3 (0, 0)) := (hcc.block (B + 1) (Array.getElem?_eq_some_iff.1 b2).1 (by simpa using n5)).trans b2
  have C2 : Ch [c] w ((W.alloc (.map #[] 0)).setCell ⟨c, 2, none⟩ (.map (some M))) := C.of_nil.trans hcc
  have nqM : q ≠ M := by have := (Array.getElem?_eq_some_iff.1 hq1).1; omega
  have hMw : w.heap.size ≤ M := by rw [HB.out]; have := HSZ.out; omega
  rw [hM] at n1 n2 n3
  obtain ⟨W2, hW2⟩ : ∃ x, (W.alloc (.map #[] 0)).setCell ⟨c, 2, none⟩ (.map (some M)) = x := ⟨_, rfl⟩
  rw [hM]
  rw [hW2] at c2 hcn q2 b12 b22 C2 ⊢
  clear hW hcc hW2 C b1 b2 hc1 hq1 hM HSZ
  refine ⟨trivial, ?_⟩
  refine (callsIn_wide.2 (hashes_any _ _ _ _ _)).mono ?_
  rintro e w3 ⟨rfl, hS, hc3⟩
  have c3 := bkeep hc3 c2
  have q3 := bkeep hc3 q2
  have b13 := bkeep hc3 b12
  have b23 := bkeep hc3 b22
  have hcn3 := cnt_ch hcn hc3 (by simp)
  have C3 := C2.trans2 hc3 (fun t ht => by cases ht)
  obtain ⟨S, hSe⟩ : ∃ S, W2.heap.size = S := ⟨_, rfl⟩
  rw [hSe] at hS ⊢
  have nSM : S ≠ M := by have := cnt_lt hcn; omega
  clear hcn c2 q2 b12 b22 C2 hc3 hSe
  have Y1 := hashes_yieldsN sd ks hnd hlen S q cq w3 (by rw [hl]; exact hS) q3
  have hsl : hs.length = len := by rw [← hh, List.length_map]; exact hl
  rw [hh] at Y1
  have lS := (Array.getElem?_eq_some_iff.1 hS).1
  have lq := (Array.getElem?_eq_some_iff.1 q3).1
  have HNB := Lib.hid hnb
  have HSL := Lib.hid hsl
  have HLEN := Lib.hid (show len ≤ 1000 by rw [← hl]; exact hlen)
  have hkp : ∀ b ∈ [S, q], b < w3.heap.size := fun b hb => by
    simp only [List.mem_cons, List.not_mem_nil, or_false] at hb
    rcases hb with rfl | rfl
    · exact lS
    · exact lq
  have hMS : ∀ b ∈ [S, q], b ≠ M := fun b hb e => by
    simp only [List.mem_cons, List.not_mem_nil, or_false] at hb
    rcases hb with rfl | rfl
    · exact nSM e
    · exact nqM e
  clear hh hS q3 lS lq nSM nqM hsl hnb hlen hl hnd
  gi_wp2
  have lc := (Array.getElem?_eq_some_iff.1 c3).1
  have lb := (Array.getElem?_eq_some_iff.1 b23).1
  have lm := cnt_lt hcn3
  have LC := Lib.hid lc
  have LB := Lib.hid lb
  have LM := Lib.hid lm
  refine range_lawN (n := 1) (xs := hs) rfl enters_hashes Y1 (fun _ => rfl) (by simp) hkp
    (fun pre W => Ch [c] w W ∧ W.heap[c]? = some (.cells #[.slice (some ⟨q, 0, none⟩) len cq, U sd, .map (some M)] 102 (0, 0)) ∧ W.heap[B]? = some (.cells #[.pointer (some ⟨c, 0, none⟩)] 73 (0, 0)) ∧ W.heap[B + 1]? = some (.cells #[I nb] 3 (0, 0)) ∧ CntAt W M pre.length (crowdF nb pre))
    (fun _ _ => False)
    ?hI (fun _ _ _ h _ => h.elim) (fun W1 hW1 => ⟨C3.trans2 hW1 (by simp), bkeep hW1 c3, bkeep hW1 b13, bkeep hW1 b23, by have h := cnt_ch hcn3 hW1 (by simp); rw [crowdF_nil]; exact h⟩) ?a₁ ?assign ?body ?done (fun _ _ h _ => h.elim)
  case hI =>
    rintro pre A B2 ⟨g0, g1, g2, g3, g4⟩ hAB
    have l0 : w.heap.size ≤ w3.heap.size + 1 := by have := C3.size; omega
    have key : ∀ b, b < w3.heap.size → b ∉ [w3.heap.size + 1] := fun b hb => by simp; omega
    refine ⟨hAB.after g0 (by omega) (by simp; omega), ?_, ?_, ?_, cnt_blk g4 (hAB.block _ (by omega) (key _ lm))⟩
    · exact (hAB.block _ (by omega) (key _ lc)).trans g1
    · exact (hAB.block _ (by omega) (key _ (by omega))).trans g2
    · exact (hAB.block _ (by omega) (key _ lb)).trans g3
  case a₁ => exact fun x => { tmps := #[.pointer (some ⟨c, 0, none⟩), I nb, .pointer (some ⟨B, 0, none⟩), .pointer (some ⟨B + 1, 0, none⟩), .map none, U x, .pointer (some ⟨c, 0, none⟩), .map (some M), .pointer (some ⟨c, 0, none⟩), .pointer (some ⟨c, 2, none⟩), .pointer (some ⟨c, 0, none⟩), .pointer (some ⟨c, 0, none⟩), .pointer (some ⟨c, 0, none⟩), .agg #[.slice (some ⟨q, 0, none⟩) len cq, U sd], .func (.func 95) #[] #[.pointer (some ⟨S, 0, none⟩)], U x, undef, undef, undef, undef, undef, undef, undef, undef, undef, undef, undef, undef, undef], defers := [] }
  case assign =>
    intro x W K hK
    gi_wp2
    exact hK
  case body =>
    rintro pre x post W hx ⟨g0, g1, g2, g3, g4⟩ hsz
    have hpl : pre.length < len := by
      have h2 := congrArg List.length hx
      simp only [List.length_append, List.length_cons] at h2
      have := HSL.out
      omega
    have HPL := Lib.hid hpl
    clear hx lc lb lm hpl
    gi_wp2
    refine rr_held (fun W' : World => W'.heap[c]? = some (.cells #[.slice (some ⟨q, 0, none⟩) len cq, U sd, .map (some M)] 102 (0, 0)) ∧ W'.heap[B]? = some (.cells #[.pointer (some ⟨c, 0, none⟩)] 73 (0, 0)) ∧ W'.heap[B + 1]? = some (.cells #[I nb] 3 (0, 0))) (by kernel_rfl) (by kernel_rfl) (by rintro ⟨a, w, h⟩; exact h) ⟨g1, g2, g3⟩ ?_
    intro sP
    simp only [List.size_toArray, List.length_cons, List.length_nil, Nat.reduceAdd]
    have C5 : Ch [] W W.drew := (Ch.refl [] W).drew
    obtain ⟨W5, hW5⟩ : ∃ x, W.drew = x := ⟨_, rfl⟩
    rw [hW5] at sP C5 ⊢
    have h5 := cnt_ch g4 C5 (by simp)
    clear hW5 g1 g2 g3 g4
    refine wpAnyH_take (i := 0) (oi := ⟨some 16, _, _, _, _, none⟩) (v := ?_) rfl (by kernel_rfl) (by kernel_rfl) (by kernel_rfl) (fun _ _ _ h => h) (Or.inl ⟨by rfl, ?_⟩) sP ?_
    rotate_left
    · intro wq hSq
      obtain ⟨q1, q2, q3⟩ := hSq
      first | (go_simp; done) | (go_simp; with_reducible rfl)
    try simp only [Act.put, List.setIfInBounds_toArray, List.set_cons_zero, List.set_cons_succ]
    refine wpAnyH_take (i := 1) (oi := ⟨some 17, _, _, _, _, none⟩) (v := ?_) rfl (by kernel_rfl) (by kernel_rfl) (by kernel_rfl) (fun _ _ _ h => h) (Or.inl ⟨by rfl, ?_⟩) sP ?_
    rotate_left
    · intro wq hSq
      obtain ⟨q1, q2, q3⟩ := hSq
      first | (go_simp; done) | (go_simp; with_reducible rfl)
    try simp only [Act.put, List.setIfInBounds_toArray, List.set_cons_zero, List.set_cons_succ]
    refine wpAnyH_take (i := 2) (oi := ⟨some 18, _, _, _, _, none⟩) (v := ?_) rfl (by kernel_rfl) (by kernel_rfl) (by kernel_rfl) (fun _ _ _ h => h) (Or.inl ⟨by rfl, ?_⟩) sP ?_
    rotate_left
    · intro wq hSq
      obtain ⟨q1, q2, q3⟩ := hSq
      first | (go_simp; done) | (go_simp; with_reducible rfl)
    try simp only [Act.put, List.setIfInBounds_toArray, List.set_cons_zero, List.set_cons_succ]
    refine wpAnyH_take (i := 3) (oi := ⟨some 19, _, _, _, _, none⟩) (v := ?_) rfl (by kernel_rfl) (by kernel_rfl) (by kernel_rfl) (fun _ _ _ h => h) (Or.inl ⟨by rfl, ?_⟩) sP ?_
    rotate_left
    · intro wq hSq
      obtain ⟨q1, q2, q3⟩ := hSq
      first | (go_simp; done) | (go_simp; with_reducible rfl)
    try simp only [Act.put, List.setIfInBounds_toArray, List.set_cons_zero, List.set_cons_succ]
    refine wpAnyH_take (i := 4) (oi := ⟨some 20, _, _, _, _, none⟩) (v := ?_) rfl (by kernel_rfl) (by kernel_rfl) (by kernel_rfl) (fun _ _ _ h => h) (Or.inl ⟨by rfl, ?_⟩) sP ?_
    rotate_left
    · intro wq hSq
      obtain ⟨q1, q2, q3⟩ := hSq
      first | (go_simp; done) | (go_simp; with_reducible rfl)
    try simp only [Act.put, List.setIfInBounds_toArray, List.set_cons_zero, List.set_cons_succ]
    refine wpAnyH_take (i := 5) (oi := ⟨some 21, _, _, _, _, none⟩) (v := ?_) rfl (by kernel_rfl) (by kernel_rfl) (by kernel_rfl) (fun _ _ _ h => h) (Or.inl ⟨by rfl, ?_⟩) sP ?_
    rotate_left
    · intro wq hSq
      obtain ⟨q1, q2, q3⟩ := hSq
      first | (go_simp; done) | (go_simp; with_reducible rfl)
    try simp only [Act.put, List.setIfInBounds_toArray, List.set_cons_zero, List.set_cons_succ]
    refine wpAnyH_ready (rs := [6]) (by kernel_rfl) (by simp) ?_
    refine AllReadyH.cons (o := ⟨some 22, _, _, _, _, none⟩) rfl (fun K hK => ?_) AllReadyH.nil
    go_simp
    refine (prefix_any _ _ HNB.out _).mono ?_
    rintro e w' ⟨rfl, rfl⟩
    refine hK.out _ _ sP (fun _ => ?_)
    clear hK K
    have hl := cnt_look h5 (prefW nb x)
    have hge := crowdF_le nb pre (prefW nb x)
    have hsn := crowdF_snoc nb pre x
    obtain ⟨v, hv⟩ : ∃ v, crowdF nb pre (prefW nb x) = v := ⟨_, rfl⟩
    obtain ⟨p, hp⟩ : ∃ p, prefW nb x = p := ⟨_, rfl⟩
    rw [hv] at hl hge hsn
    rw [hp] at hl hsn ⊢
    have hv1 : v ≤ 1000 := by have := HPL.out; have := HLEN.out; omega
    have hv0 := hge.1
    have HSN := Lib.hid hsn
    clear hsn hv hp hge
    refine wpAnyH_ready (rs := [7]) (by kernel_rfl) (by simp) ?_
    refine AllReadyH.cons (o := ⟨some 23, _, _, _, _, none⟩) rfl (fun K hK => ?_) AllReadyH.nil
    go_simp
    refine hK.out _ _ sP (fun _ => ?_)
    clear hK K hl
    refine wpAnyH_take (i := 8) (oi := ⟨some 24, _, _, _, _, none⟩) (v := ?_) rfl (by kernel_rfl) (by kernel_rfl) (by kernel_rfl) (fun _ _ _ h => h) (Or.inl ⟨by rfl, ?_⟩) sP ?_
    rotate_left
    · intro wq hSq
      first | (go_simp; done) | (go_simp; with_reducible rfl)
    try simp only [Act.put, List.setIfInBounds_toArray, List.set_cons_zero, List.set_cons_succ]
    obtain ⟨W6, hu, hcn6, hc6, hz6⟩ := cnt_put h5 (by have := HPL.out; have := HLEN.out; omega) p (v + 1) (by omega) (by
      have h2 : (IntKind.i64.max : Int) = 9223372036854775807 := by decide
      have h3 : (IntKind.i64.min : Int) = -9223372036854775808 := by decide
      simp [Lit.wf, h2, h3]; omega)
    rw [← HSN.out] at hcn6
    have hwr : IntKind.i64.wrap (v + 1) = v + 1 := IntWalk.i64_in _ (by omega)
    rw [hwr]
    refine wpAnyH_ready (rs := [9]) (by kernel_rfl) (by simp) ?_
    refine AllReadyH.cons rfl (fun K hK => ?_) AllReadyH.nil
    go_simp
    have e1 := (hc6.block c (Array.getElem?_eq_some_iff.1 sP.1).1 (by simpa using n1)).trans sP.1
    have e2 := (hc6.block B (Array.getElem?_eq_some_iff.1 sP.2.1).1 (by simpa using n2)).trans sP.2.1
    have e3 := (hc6.block (B + 1) (Array.getElem?_eq_some_iff.1 sP.2.2).1 (by simpa using n3)).trans sP.2.2
    refine hK.out _ _ ⟨e1, e2, e3⟩ (fun _ => ?_)
    clear hK K hu
    refine wpAnyH_done (by kernel_rfl) ?_ _
    have C56 : Ch [M] W W6 := C5.of_nil.trans hc6
    have K56 : ∀ b, (b = w3.heap.size ∨ b = w3.heap.size + 1 ∨ b ∈ [S, q] ∨ (w3.heap.size + 2 ≤ b ∧ b < W.heap.size)) → W6.heap[b]? = W.heap[b]? := fun b hb => by
      have l1 := LM.out
      rcases hb with h | h | h | h
      · exact C56.block b (by omega) (by simp; omega)
      · exact C56.block b (by omega) (by simp; omega)
      · exact C56.block b (by have := hkp b h; omega) (by simpa using hMS b h)
      · exact C56.block b h.2 (by simp; omega)
    have C6 : Ch [c] w W6 := g0.trans2 C56 (fun t ht => .inr (by rw [List.mem_singleton.1 ht]; exact hMw))
    have HH := Lib.hid (And.intro C6 (And.intro e1 (And.intro e2 (And.intro e3 (show CntAt W6 M (pre ++ [x]).length (crowdF nb (pre ++ [x])) by rw [List.length_append]; exact hcn6)))))
    have HK := Lib.hid K56
    have HZ := Lib.hid C56.size
    clear C56 K56 C6 e1 e2 e3 hcn6 hc6 hz6 g0 h5 C5 sP hsz
    gi_wp2
    exact ⟨HH.out, HZ.out, HK.out⟩
  case done =>
    rintro W ⟨g0, g1, g2, g3, g4⟩ hd
    clear lc lb lm
    gi_wp2
    refine marks_ret (v := .map (some M)) hd (results_tmp Tryz.results59 _ _ _) ⟨M, rfl, by rw [← HSL.out]; exact cnt_ch g4 (ch_putObj _ _ _) (by have := LM.out; simp; omega), ((ch_putObj _ _ _).block _ (Array.getElem?_eq_some_iff.1 g1).1 (by have := LC.out; simp; omega)).trans g1, g0.trans2 (ch_putObj _ _ _) (by have := C3.size; simp; omega)⟩
end Go.Proofs.Hc
