/- Package rehash: Take. -/
import Derived.Test.YtcikopeddljgkaaGreatKHcb
import Derived.Test.YtcikopeddljgkaaGreatKHdb
import Derived.Test.YtcikopeddljgkaaGreatKSb
import Derived.Test.YtcikopeddljgkaaGreatKHj
import Derived.Test.YtcikopeddljgkaaGreatKHma
import Derived.Test.YtcikopeddljgkaaGreatKHmet
import Derived.Test.YtcikopeddljgkaaGreatKHr
import Derived.Test.YtcikopeddljgkaaGreatKHtr2
import Derived.Test.YtcikopeddljgkaaGreatKRb
import Derived.Test.YtcikopeddljgkaaGreatKRi
import Derived.Test.YtcikopeddljgkaaGreatKRj
import Derived.Test.YtcikopeddljgkaaGreatKRl
import Derived.Test.YtcikopeddljgkaaGreatKRs
import Derived.Test.YtcikopeddljgkaaGreatKRv
import Derived.Below
import Derived.BigQuiet
import Derived.Deep.Draws
import Derived.Deep.Light
import Derived.Deep.OwnRows
import Derived.Deep.QuietTactic
import Derived.Deep.RegionHeld
import Derived.IntWalk
import Derived.Laws.AppendOwn
import Derived.Laws.CopyOwn
import Derived.Laws.CopyRow
import Derived.Laws.StructEq
import Derived.Laws.Tables
import Derived.Lib.AppendZerosOnto
import Derived.Lib.Hide
import Derived.Lib.Tables
import Derived.Lib.Walk
import Derived.LoopIn
import Derived.LoopN
import Derived.LoopNIn
import Derived.Maps.AppendAt
import Derived.Maps.Views
import Derived.OpenShut
import Derived.OwnWalkIn
import Derived.ProofKit
import Derived.RangeFuncBox
import Derived.RangeFuncCalls
import Derived.RangeFuncRecord
import Derived.RangeFuncSeq
import Derived.Recover
import Derived.RegionTactic
import Derived.ScopeJumps
import Derived.Shelf.Slices.Clone
import Derived.StillTail
import Derived.StillTailTactics
import Derived.TacticsInMore
import Derived.Test.YtcikopeddljgkaaGreatProg
import Derived.WalkKit
import Derived.WalkLawsBesides
import Derived.WalkMore
import Derived.WalkSpells
set_option linter.unusedSimpArgs false
set_option linter.unusedVariables false
namespace Go.Proofs.Hc
open Go.RowKit
set_option linter.unusedVariables false
attribute [local go_sem] wrap_u64 wrap_u8 bits_xor64 bits_and64 bits_or64 bits_not64 bits_xor8 bits_and8 bits_or8 signed64 signed8 ofInt_N BitVec.ofInt_add BitVec.ofInt_mul ofInt_sub' ofInt8_N64 ofInt64_N8 wide8 eqN neN shr_pow shr1 shr7 shr56
attribute [local go_sem high] bits_com64 shl_wrap
attribute [local go_sem] cell_heap ice_heap cellAt_cells iceAt_cells setAt_cells rowAt_cells canLay_cells laidAt_cells size_onObj size_setCell rowRes_some layRes_true
attribute [local go_sem] load26 load73 load23 store26 build73
attribute [local go_sem ↓] lrow26 lrow73 lrow23 srow26 zero26 brow73 heap_alloc heap_drew heap_drewN heap_setCell heap_onObj
attribute [local go_sem] tcells_size hcells_size tcells_get hcells_get tcells_one hcells_one hcells_table tcells_table hcells_all hcells_ctrl tcells_ctrl
attribute [local go_sem] nn2 nm2 nn3 nm3 nn4 nm4 nn5 nm5 nn6 nm6 nn7 nm7 nn8 nm8
attribute [local go_sem] nn2 nm2 nn3 nm3 nn4 nm4 nn5 nm5 nn6 nm6 nn7 nm7 nn8 nm8
attribute [local go_sem] seenC_size seenC_one seenC_all seenC_g0 loadSeen storeSeen buildSeen buildSeen0
attribute [local go_sem ↓] lrowSeen srowSeen browSeen zeroSeen_run
attribute [local go_sem high] laidAt_seen
attribute [local irreducible] seenC
attribute [local go_sem] ofInt_N ofInt_pow8
attribute [local go_sem] Oper.semAt_some make_func1
attribute [local go_sem] layC_idx lcell0 lcell1 lcell2 lcell3 lcell4 lcell5 lcell46
attribute [local go_sem] lay_g0 lay_g1 lay_g2 lay_g3 lay_g4 lay_g5 lay_g46 lay_s0 lay_s4 lay_s5 lay_s46 layC_size layC_one layC_all layC_ws boxLay loadLay storeLay build_lay box_lay buildLay0 buildLay2 buildLay3
attribute [local go_sem ↓] lrowLay srowLay browLay brow_lay zeroLay_run
attribute [local go_sem high] laidAt_lay
attribute [local irreducible] layC
attribute [local go_sem] boxSeen
attribute [local irreducible] waysV waysZ
theorem lay_results {fn : Func} {p q : Tmp} (h : fn.results = #[.cell p 72, .tmp q]) (tmps : Array Value) (b : Nat) (w : World) (d : LayT) (v : Value) (hp : tmps.getD p undef = .pointer (some ⟨b, 0, none⟩)) (hq : tmps.getD q undef = v)
    (hb : w.heap[b]? = some (.cells (layC d) 72 (0, 0))) : (results fn tmps).run Tryz.prog w = .ok (.tuple #[.agg (layC d), v]) w := by
  have hl := run_loadVar_row (P := Tryz.prog) w b 72 72 (layC d) (0, 0) _ hb Tryz.underlying72 rfl (by rw [layC_size]; kernel_rfl)
  have hp' : tmps[p]?.getD undef = .pointer (some ⟨b, 0, none⟩) := by simpa using hp
  have hq' : tmps[q]?.getD undef = v := by simpa using hq
  simp [results, h, hp', hq', asAddr, hl]
/-- The world in which Take goes on. -/
theorem take_world (p : LayT) (x : Int) (b : Bool) (w : World) : ∃ W, ((w.alloc (.cells (layC p) 72)).alloc (.cells (seenC x b) 93)).alloc (.cells (layC zeroLay) 72) = W ∧ Ch [] w W ∧ W.heap[w.heap.size]? = some (.cells (layC p) 72 (0, 0)) ∧ W.heap[w.heap.size + 1]? = some (.cells (seenC x b) 93 (0, 0)) ∧ W.heap[w.heap.size + 1 + 1]? = some (.cells (layC zeroLay) 72 (0, 0)) :=
  ⟨_, rfl, (((Ch.refl [] w).alloc _).alloc _).alloc _, by rw [heap_alloc, if_neg (by simp; omega), heap_alloc, if_neg (by simp), heap_alloc, if_pos rfl], by rw [heap_alloc, if_neg (by simp), heap_alloc, if_pos (by simp)], by rw [heap_alloc, if_pos (by simp)]⟩
set_option maxHeartbeats 4000000 in
set_option maxRecDepth 100000 in
theorem lTake_core (p p2 : LayT) (x : BitVec 64) (b : Bool) (n k : Nat) (hr : rightL p = true) (hpn : p.ph = (n : Int)) (hn : (n : Int) < 5) (fv : Value) (cap : Nat → Array Value) (hix : ∀ c w, (Instr.index 192 (.agg (waysV c)) (.int .i64 (n : Int))).run Tryz.prog w = .ok (.agg #[fv, .func (.func k) #[] (cap c)]) w)
    (hdf : ∀ args w, (callFunc k args).run Tryz.prog w = .ok (.enter k args) w)
    (X1 : ∀ (c g : Nat) (w : World), w.heap[g]? = some (.cells (layC p) 163 (0, 0)) → w.heap[c]? = some (.cells #[I 5] 3 (0, 0)) → Calls Tryz.prog k (#[.pointer (some ⟨g, 0, none⟩), .agg (seenC (N x) b)] ++ cap c) w fun e w' => e = .returned (.tuple #[]) ∧ w'.heap[g]? = some (.cells (layC p2) 163 (0, 0)) ∧ Ch [g] w w') (w : World) :
    Calls Tryz.prog 61 #[.agg (layC p), .agg (seenC (N x) b)] w fun e w' => e = .returned (.tuple #[.agg (layC p2), I 0]) ∧ Ch [] w w' := by
  have R1 := fun w => lCheck_any p w
  rw [checkL_yes hr] at R1
  have A1 := fun w => ways_any w
  have FF := fun a b w => field_way1 a b w
  obtain ⟨W0, hW0, C0, b0, y0, z0⟩ := take_world p (N x) b w
  clear hr
  go_enter Tryz.func61, Tryz.ntmps61
  go_wp2_with fail
  try rw [hW0]
  refine (R1 _).mono ?_
  rintro e w1 ⟨rfl, hc1⟩
  have b1 := hkeep hc1 b0
  have y1 := hkeep hc1 y0
  have z1 := hkeep hc1 z0
  have C1 := C0.trans hc1
  clear b0 y0 z0 C0 hc1 hW0 R1
  go_upto_region 7 with (fail)
  obtain ⟨B, hB⟩ : ∃ B, w.heap.size = B := ⟨_, rfl⟩
  have hBw : w.heap.size ≤ B := by omega
  rw [hB] at b1 y1 z1 ⊢
  clear hB
  have hc2 : Ch [] w1 (w1.alloc (.cells (layC p) 163)) := (Ch.refl [] w1).alloc _
  have g2 : (w1.alloc (.cells (layC p) 163)).heap[w1.heap.size]? = some (.cells (layC p) 163 (0, 0)) := by rw [heap_alloc, if_pos rfl]
  have b2 := hkeep hc2 b1
  have y2 := hkeep hc2 y1
  have z2 := hkeep hc2 z1
  have C2 := C1.trans hc2
  have k1 := (Array.getElem?_eq_some_iff.1 b1).1
  have k2 := (Array.getElem?_eq_some_iff.1 y1).1
  have k3 := (Array.getElem?_eq_some_iff.1 z1).1
  have hCw := C1.size
  clear b1 y1 z1 C1 hc2
  obtain ⟨w2, hw2⟩ : ∃ W, w1.alloc (.cells (layC p) 163) = W := ⟨_, rfl⟩
  rw [hw2] at g2 b2 y2 z2 C2 ⊢
  clear hw2
  obtain ⟨G, hG⟩ : ∃ G, w1.heap.size = G := ⟨_, rfl⟩
  rw [hG] at g2 k1 k2 k3 hCw ⊢
  clear hG
  have n1 : ¬ B = G := by omega
  have n2 : ¬ B + 1 = G := by omega
  have n3 : ¬ B + 1 + 1 = G := by omega
  clear k1 k2 k3
  have s3 : (fun W' : World => W'.heap[B]? = some (.cells (layC p) 72 (0, 0)) ∧ W'.heap[B + 1]? = some (.cells (seenC (N x) b) 93 (0, 0))) w2.drew := ⟨b2, y2⟩
  have g3 : w2.drew.heap[G]? = some (.cells (layC p) 163 (0, 0)) := g2
  have z3 : w2.drew.heap[B + 1 + 1]? = some (.cells (layC zeroLay) 72 (0, 0)) := z2
  have C3 : Ch [] w w2.drew := C2.drew
  refine wp_region_held_drew (S := fun W' => W'.heap[B]? = some (.cells (layC p) 72 (0, 0)) ∧ W'.heap[B + 1]? = some (.cells (seenC (N x) b) 93 (0, 0))) (by kernel_rfl) s3 ?_
  intro _
  simp only [List.size_toArray, List.length_cons, List.length_nil, Nat.reduceAdd]
  clear g2 b2 y2 z2 C2
  generalize w2.drew = w3 at *
  refine wpAnyH_take (i := 1) (oi := ⟨some 22, _, _, _, _, none⟩) (v := ?_) rfl (by kernel_rfl) (by kernel_rfl) (by kernel_rfl) (fun _ _ _ h => h) (Or.inl ⟨by rfl, ?_⟩) s3 ?_
  rotate_left
  · intro wq hSq
    obtain ⟨hSa, hSb⟩ := hSq
    first | (go_simp; done) | (go_simp; with_reducible rfl)
  try simp only [Act.put, List.setIfInBounds_toArray, List.set_cons_zero, List.set_cons_succ]
  refine wpAnyH_take (i := 2) (oi := ⟨some 23, _, _, _, _, none⟩) (v := ?_) rfl (by kernel_rfl) (by kernel_rfl) (by kernel_rfl) (fun _ _ _ h => h) (Or.inl ⟨by rfl, ?_⟩) s3 ?_
  rotate_left
  · intro wq hSq
    obtain ⟨hSa, hSb⟩ := hSq
    first | (go_simp; done) | (go_simp; with_reducible rfl)
  try simp only [Act.put, List.setIfInBounds_toArray, List.set_cons_zero, List.set_cons_succ]
  refine wpAnyH_take (i := 5) (oi := ⟨some 26, _, _, _, _, none⟩) (v := ?_) rfl (by kernel_rfl) (by kernel_rfl) (by kernel_rfl) (fun _ _ _ h => h) (Or.inl ⟨by rfl, ?_⟩) s3 ?_
  rotate_left
  · intro wq hSq
    obtain ⟨hSa, hSb⟩ := hSq
    first | (go_simp; done) | (go_simp; with_reducible rfl)
  try simp only [Act.put, List.setIfInBounds_toArray, List.set_cons_zero, List.set_cons_succ]
  refine wpAnyH_take (i := 6) (oi := ⟨some 27, _, _, _, _, none⟩) (v := ?_) rfl (by kernel_rfl) (by kernel_rfl) (by kernel_rfl) (fun _ _ _ h => h) (Or.inl ⟨by rfl, ?_⟩) s3 ?_
  rotate_left
  · intro wq hSq
    obtain ⟨hSa, hSb⟩ := hSq
    first | (go_simp; done) | (go_simp; with_reducible rfl)
  try simp only [Act.put, List.setIfInBounds_toArray, List.set_cons_zero, List.set_cons_succ]
  refine wpAnyH_ready (rs := [0]) (by kernel_rfl) (by simp) ?_
  refine AllReadyH.cons (o := ⟨some 21, _, _, _, _, none⟩) rfl (fun K hK => ?_) AllReadyH.nil
  go_simp
  refine (A1 _).mono ?_
  rintro e w4 ⟨c, rfl, hcw, hcc, hc4⟩
  have s4 : w4.heap[B]? = some (.cells (layC p) 72 (0, 0)) ∧ w4.heap[B + 1]? = some (.cells (seenC (N x) b) 93 (0, 0)) := ⟨hkeep hc4 s3.1, hkeep hc4 s3.2⟩
  have g4 := hkeep hc4 g3
  have z4 := hkeep hc4 z3
  have C4 := C3.trans hc4
  refine hK.out _ _ s4 (fun _ => ?_)
  clear hK K hc4 s3 g3 z3 C3 hcw
  refine wpAnyH_take (i := 3) (oi := ⟨some 24, _, _, _, _, none⟩) (v := ?_) rfl (by kernel_rfl) (by kernel_rfl) (by kernel_rfl) (fun _ _ _ h => h) (Or.inl ⟨by rfl, ?_⟩) s4 ?_
  rotate_left
  · intro wq hSq
    obtain ⟨hSa, hSb⟩ := hSq
    first | (go_simp; done) | (go_simp; with_reducible rfl)
  try simp only [Act.put, List.setIfInBounds_toArray, List.set_cons_zero, List.set_cons_succ]
  refine wpAnyH_take (i := 4) (oi := ⟨some 25, _, _, _, _, none⟩) (v := ?_) rfl (by kernel_rfl) (by kernel_rfl) (by kernel_rfl) (fun _ _ _ h => h) (Or.inl ⟨by rfl, ?_⟩) s4 ?_
  rotate_left
  · intro wq hSq
    obtain ⟨hSa, hSb⟩ := hSq
    first | (go_simp; done) | (go_simp; with_reducible rfl)
  try simp only [Act.put, List.setIfInBounds_toArray, List.set_cons_zero, List.set_cons_succ]
  refine wpAnyH_ready (rs := [7]) (by kernel_rfl) (by simp) ?_
  refine AllReadyH.cons (o := ⟨some 28, _, _, _, _, none⟩) rfl (fun K hK => ?_) AllReadyH.nil
  go_simp
  refine (X1 c _ _ g4 hcc).mono ?_
  rintro e w5 ⟨rfl, g5, hc5⟩
  have hk : ∀ k o, ¬ k = G → w4.heap[k]? = some o → w5.heap[k]? = some o := fun k o hne h => (hc5.block k (Array.getElem?_eq_some_iff.1 h).1 (by simpa using hne)).trans h
  have s5 : w5.heap[B]? = some (.cells (layC p) 72 (0, 0)) ∧ w5.heap[B + 1]? = some (.cells (seenC (N x) b) 93 (0, 0)) := ⟨hk _ _ n1 s4.1, hk _ _ n2 s4.2⟩
  have z5 := hk _ _ n3 z4
  have C5 : Ch [] w w5 := C4.trans2 hc5 (by intro t ht; right; simp at ht; omega)
  refine hK.out _ _ s5 (fun _ => ?_)
  clear hK K hc5 s4 g4 z4 C4 hk hcc
  refine wpAnyH_done (by kernel_rfl) ?_ _
  go_wp2
  refine bodyPost_ret (lay_results Tryz.results61 _ (B + 1 + 1) _ p2 _ rfl rfl ?_) rfl ⟨rfl, C5.onObj (p := B + 1 + 1) (.inr (by omega)) _⟩
  rw [heap_onObj, if_pos rfl, z5, Option.map_some, laidAt_lay]
theorem lTake_yes (p : LayT) (hr : rightL p = true) (h4 : p.ph ≤ 4) (x : BitVec 64) (b : Bool) (w : World) : Calls Tryz.prog 61 #[.agg (layC p), .agg (seenC (N x) b)] w fun e w' => e = .returned (.tuple #[.agg (layC (takeL p x)), I 0]) ∧ Ch [] w w' := by
  have R := (rightL_iff p).1 hr
  have h0 := R.ph0
  have hat := R.at_
  rcases (show p.ph = 0 ∨ p.ph = 1 ∨ p.ph = 2 ∨ p.ph = 3 ∨ p.ph = 4 by omega) with h | h | h | h | h
  · cases ho : oddB x with
    | false =>
      have e : takeL p x = { p with ph := 1, count := x } := by unfold takeL; rw [if_pos h, if_neg (by rw [ho]; decide)]
      rw [e]; exact lTake_core p _ x b 0 _ hr h (by omega) _ (fun _ => #[]) (fun c w => index_ways0 c w) Tryz.call191 (fun c g w hg _ => lThen0_yes p g x b ho w hg) w
    | true =>
      have e : takeL p x = { p with ph := 6 } := by unfold takeL; rw [if_pos h, if_pos ho]
      rw [e]; exact lTake_core p _ x b 0 _ hr h (by omega) _ (fun _ => #[]) (fun c w => index_ways0 c w) Tryz.call191 (fun c g w hg _ => lThen0_no p g x b ho w hg) w
  · have e : takeL p x = { p with ph := 2, at_ := 1 } := by unfold takeL; rw [if_neg (by omega), if_pos h]
    rw [e]; exact lTake_core p _ x b 1 _ hr h (by omega) _ (fun _ => #[]) (fun c w => index_ways1 c w) Tryz.call194 (fun c g w hg _ => lThen1_any p g x b w hg) w
  · by_cases h39 : p.at_ = 39
    · have e : takeL p x = laidL { p with ws := updW (updW p.ws 39 x) 0 p.count, at_ := 40 } := by unfold takeL; rw [if_neg (by omega), if_neg (by omega), if_pos h, if_pos h39]
      rw [e]; exact lTake_core p _ x b 2 _ hr h (by omega) _ (fun _ => #[]) (fun c w => index_ways2 c w) Tryz.call196 (fun c g w hg _ => lThen2_last p g x b h39 w hg) w
    · obtain ⟨j, hj⟩ := Int.eq_ofNat_of_zero_le (show 0 ≤ p.at_ by omega)
      have e : takeL p x = { p with ws := updW p.ws j x, at_ := (j : Int) + 1 } := by
        unfold takeL; rw [if_neg (by omega), if_neg (by omega), if_pos h, if_neg h39]
        rw [show p.at_.toNat = j by omega]
        conv => lhs; rw [hj]
      rw [e]; exact lTake_core p _ x b 2 _ hr h (by omega) _ (fun _ => #[]) (fun c w => index_ways2 c w) Tryz.call196 (fun c g w hg _ => lThen2_more p g j x b hj (by omega) (by omega) w hg) w
  · by_cases h39 : p.at_ = 39
    · have e : takeL p x = { p with at_ := 40, ph := 4 } := by unfold takeL; rw [if_neg (by omega), if_neg (by omega), if_neg (by omega), if_pos h, if_pos h39, h39]; rfl
      rw [e]; exact lTake_core p _ x b 3 _ hr h (by omega) _ (fun _ => #[]) (fun c w => index_ways3 c w) Tryz.call199 (fun c g w hg _ => lThen3_last p g x b h39 w hg) w
    · have e : takeL p x = { p with at_ := p.at_ + 1 } := by unfold takeL; rw [if_neg (by omega), if_neg (by omega), if_neg (by omega), if_pos h, if_neg h39]; rw [← h]
      rw [e]; exact lTake_core p _ x b 3 _ hr h (by omega) _ (fun _ => #[]) (fun c w => index_ways3 c w) Tryz.call199 (fun c g w hg _ => lThen3_more p g x b (by omega) (by omega) w hg) w
  · have e : takeL p x = { p with ph := 5 } := by unfold takeL; rw [if_neg (by omega), if_neg (by omega), if_neg (by omega), if_neg (by omega)]
    rw [e]; exact lTake_core p _ x b 4 _ hr h (by omega) _ (fun c => #[.pointer (some ⟨c, 0, none⟩)]) (fun c w => index_ways4 c w) Tryz.call188 (fun c g w hg hc => lThen4_any p g x b c w hg hc) w
end Go.Proofs.Hc
