/- Parts of the proof. -/
import Derived.Test.YtcikopeddljgkaaGreatKHcc
import Derived.Test.YtcikopeddljgkaaGreatKHut
import Derived.Test.YtcikopeddljgkaaGreatKHj
import Derived.Test.YtcikopeddljgkaaGreatKHma
import Derived.Test.YtcikopeddljgkaaGreatKHmet
import Derived.Test.YtcikopeddljgkaaGreatKHnw
import Derived.Test.YtcikopeddljgkaaGreatKHr
import Derived.Test.YtcikopeddljgkaaGreatKRc
import Derived.Test.YtcikopeddljgkaaGreatKHnac
import Derived.Test.YtcikopeddljgkaaGreatKHde
import Derived.Test.YtcikopeddljgkaaGreatKRh
import Derived.Test.YtcikopeddljgkaaGreatKRi
import Derived.Test.YtcikopeddljgkaaGreatKRj
import Derived.Test.YtcikopeddljgkaaGreatKRl
import Derived.Test.YtcikopeddljgkaaGreatKRs
import Derived.Below
import Derived.BigQuiet
import Derived.Deep.Draws
import Derived.Deep.Light
import Derived.Deep.OwnRows
import Derived.Deep.QuietTactic
import Derived.Deep.RegionHeld
import Derived.IntWalk
import Derived.Laws.AppendOwn
import Derived.Laws.CopyOwn
import Derived.Laws.CopyRow
import Derived.Laws.StructEq
import Derived.Laws.Tables
import Derived.Lib.AppendZerosOnto
import Derived.Lib.Hide
import Derived.Lib.Tables
import Derived.Lib.Walk
import Derived.LoopIn
import Derived.LoopN
import Derived.LoopNIn
import Derived.Maps.AppendAt
import Derived.Maps.Views
import Derived.OpenShut
import Derived.OwnWalkIn
import Derived.ProofKit
import Derived.RangeFuncBox
import Derived.RangeFuncCalls
import Derived.RangeFuncRecord
import Derived.RangeFuncSeq
import Derived.Recover
import Derived.RegionTactic
import Derived.ScopeJumps
import Derived.Shelf.Slices.Clone
import Derived.StillTail
import Derived.StillTailTactics
import Derived.TacticsInMore
import Derived.Test.YtcikopeddljgkaaGreatProg
import Derived.WalkKit
import Derived.WalkLawsBesides
import Derived.WalkMore
import Derived.WalkSpells
import Derived.Test.YtcikopeddljgkaaGreatKHdn
import Derived.Test.YtcikopeddljgkaaGreatKHpb
import Derived.Test.YtcikopeddljgkaaGreatKHcd
import Derived.Test.YtcikopeddljgkaaGreatKHce
import Derived.Test.YtcikopeddljgkaaGreatKHpa
import Derived.Test.YtcikopeddljgkaaGreatKHre2
import Derived.Laws.EntriesVeiled
import Derived.Test.YtcikopeddljgkaaGreatKHo
set_option linter.unusedSimpArgs false
set_option linter.unusedVariables false
namespace Go.Proofs.Hc
open Go.RowKit
set_option linter.unusedVariables false
attribute [local go_sem] wrap_u64 wrap_u8 bits_xor64 bits_and64 bits_or64 bits_not64 bits_xor8 bits_and8 bits_or8 signed64 signed8 ofInt_N BitVec.ofInt_add BitVec.ofInt_mul ofInt_sub' ofInt8_N64 ofInt64_N8 wide8 eqN neN shr_pow shr1 shr7 shr56
attribute [local go_sem high] bits_com64 shl_wrap
attribute [local go_sem] cell_heap ice_heap cellAt_cells iceAt_cells setAt_cells rowAt_cells canLay_cells laidAt_cells size_onObj size_setCell rowRes_some layRes_true
attribute [local go_sem] load26 load73 load23 store26 build73
attribute [local go_sem ↓] lrow26 lrow73 lrow23 srow26 zero26 brow73 heap_alloc heap_drew heap_drewN heap_setCell heap_onObj
attribute [local go_sem] tcells_size hcells_size tcells_get hcells_get tcells_one hcells_one hcells_table tcells_table hcells_all hcells_ctrl tcells_ctrl
attribute [local go_sem] nn2 nm2 nn3 nm3 nn4 nm4 nn5 nm5 nn6 nm6 nn7 nm7 nn8 nm8
attribute [local go_sem] nn2 nm2 nn3 nm3 nn4 nm4 nn5 nm5 nn6 nm6 nn7 nm7 nn8 nm8
attribute [local go_sem] seenC_size seenC_one seenC_all seenC_g0 loadSeen storeSeen buildSeen buildSeen0
attribute [local go_sem ↓] lrowSeen srowSeen browSeen zeroSeen_run
attribute [local go_sem high] laidAt_seen
attribute [local irreducible] seenC
attribute [local go_sem] ofInt_N ofInt_pow8
attribute [local go_sem] Oper.semAt_some make_func1
attribute [local go_sem] layC_idx lcell0 lcell1 lcell2 lcell3 lcell4 lcell5 lcell46
attribute [local go_sem] lay_g0 lay_g1 lay_g2 lay_g3 lay_g4 lay_g5 lay_g46 lay_s0 lay_s4 lay_s5 lay_s46 layC_size layC_one layC_all layC_ws boxLay loadLay storeLay build_lay box_lay buildLay0 buildLay2 buildLay3
attribute [local go_sem ↓] lrowLay srowLay browLay brow_lay zeroLay_run
attribute [local go_sem high] laidAt_lay
attribute [local irreducible] layC
attribute [local go_sem] boxSeen
attribute [local irreducible] waysV waysZ
theorem lay_results {fn : Func} {p q : Tmp} (h : fn.results = #[.cell p 72, .tmp q]) (tmps : Array Value) (b : Nat) (w : World) (d : LayT) (v : Value) (hp : tmps.getD p undef = .pointer (some ⟨b, 0, none⟩)) (hq : tmps.getD q undef = v)
    (hb : w.heap[b]? = some (.cells (layC d) 72 (0, 0))) : (results fn tmps).run Tryz.prog w = .ok (.tuple #[.agg (layC d), v]) w := by
  have hl := run_loadVar_row (P := Tryz.prog) w b 72 72 (layC d) (0, 0) _ hb Tryz.underlying72 rfl (by rw [layC_size]; kernel_rfl)
  have hp' : tmps[p]?.getD undef = .pointer (some ⟨b, 0, none⟩) := by simpa using hp
  have hq' : tmps[q]?.getD undef = v := by simpa using hq
  simp [results, h, hp', hq', asAddr, hl]
/-- The world in which Take goes on. -/
theorem take_world (p : LayT) (x : Int) (b : Bool) (w : World) : ∃ W, ((w.alloc (.cells (layC p) 72)).alloc (.cells (seenC x b) 93)).alloc (.cells (layC zeroLay) 72) = W ∧ Ch [] w W ∧ W.heap[w.heap.size]? = some (.cells (layC p) 72 (0, 0)) ∧ W.heap[w.heap.size + 1]? = some (.cells (seenC x b) 93 (0, 0)) ∧ W.heap[w.heap.size + 1 + 1]? = some (.cells (layC zeroLay) 72 (0, 0)) :=
  ⟨_, rfl, (((Ch.refl [] w).alloc _).alloc _).alloc _, by rw [heap_alloc, if_neg (by simp; omega), heap_alloc, if_neg (by simp), heap_alloc, if_pos rfl], by rw [heap_alloc, if_neg (by simp), heap_alloc, if_pos (by simp)], by rw [heap_alloc, if_pos (by simp)]⟩
set_option maxHeartbeats 4000000 in
set_option maxRecDepth 100000 in
theorem lTake_core (p p2 : LayT) (x : BitVec 64) (b : Bool) (n k : Nat) (hr : rightL p = true) (hpn : p.ph = (n : Int)) (hn : (n : Int) < 5) (fv : Value) (cap : Nat → Array Value) (hix : ∀ c w, (Instr.index 192 (.agg (waysV c)) (.int .i64 (n : Int))).run Tryz.prog w = .ok (.agg #[fv, .func (.func k) #[] (cap c)]) w)
    (hdf : ∀ args w, (callFunc k args).run Tryz.prog w = .ok (.enter k args) w)
    (X1 : ∀ (c g : Nat) (w : World), w.heap[g]? = some (.cells (layC p) 163 (0, 0)) → w.heap[c]? = some (.cells #[I 5] 3 (0, 0)) → Calls Tryz.prog k (#[.pointer (some ⟨g, 0, none⟩), .agg (seenC (N x) b)] ++ cap c) w fun e w' => e = .returned (.tuple #[]) ∧ w'.heap[g]? = some (.cells (layC p2) 163 (0, 0)) ∧ Ch [g] w w') (w : World) :
    Calls Tryz.prog 61 #[.agg (layC p), .agg (seenC (N x) b)] w fun e w' => e = .returned (.tuple #[.agg (layC p2), I 0]) ∧ Ch [] w w' := by
  have R1 := fun w => lCheck_any p w
  rw [checkL_yes hr] at R1
  have A1 := fun w => ways_any w
  have FF := fun a b w => field_way1 a b w
  obtain ⟨W0, hW0, C0, b0, y0, z0⟩ := take_world p (N x) b w
  clear hr
  go_enter Tryz.func61, Tryz.ntmps61
  go_wp2_with fail
  try rw [hW0]
  refine (R1 _).mono ?_
  rintro e w1 ⟨rfl, hc1⟩
  have b1 := hkeep hc1 b0
  have y1 := hkeep hc1 y0
  have z1 := hkeep hc1 z0
  have C1 := C0.trans hc1
  clear b0 y0 z0 C0 hc1 hW0 R1
  go_upto_region 7 with (fail)
  obtain ⟨B, hB⟩ : ∃ B, w.heap.size = B := ⟨_, rfl⟩
  have hBw : w.heap.size ≤ B := by omega
  rw [hB] at b1 y1 z1 ⊢
  clear hB
  have hc2 : Ch [] w1 (w1.alloc (.cells (layC p) 163)) := (Ch.refl [] w1).alloc _
  have g2 : (w1.alloc (.cells (layC p) 163)).heap[w1.heap.size]? = some (.cells (layC p) 163 (0, 0)) := by rw [heap_alloc, if_pos rfl]
  have b2 := hkeep hc2 b1
  have y2 := hkeep hc2 y1
  have z2 := hkeep hc2 z1
  have C2 := C1.trans hc2
  have k1 := (Array.getElem?_eq_some_iff.1 b1).1
  have k2 := (Array.getElem?_eq_some_iff.1 y1).1
  have k3 := (Array.getElem?_eq_some_iff.1 z1).1
  have hCw := C1.size
  clear b1 y1 z1 C1 hc2
  obtain ⟨w2, hw2⟩ : ∃ W, w1.alloc (.cells (layC p) 163) = W := ⟨_, rfl⟩
  rw [hw2] at g2 b2 y2 z2 C2 ⊢
  clear hw2
  obtain ⟨G, hG⟩ : ∃ G, w1.heap.size = G := ⟨_, rfl⟩
  rw [hG] at g2 k1 k2 k3 hCw ⊢
  clear hG
  have n1 : ¬ B = G := by omega
  have n2 : ¬ B + 1 = G := by omega
  have n3 : ¬ B + 1 + 1 = G := by omega
  clear k1 k2 k3
  have s3 : (fun W' : World => W'.heap[B]? = some (.cells (layC p) 72 (0, 0)) ∧ W'.heap[B + 1]? = some (.cells (seenC (N x) b) 93 (0, 0))) w2.drew := ⟨b2, y2⟩
  have g3 : w2.drew.heap[G]? = some (.cells (layC p) 163 (0, 0)) := g2
  have z3 : w2.drew.heap[B + 1 + 1]? = some (.cells (layC zeroLay) 72 (0, 0)) := z2
  have C3 : Ch [] w w2.drew := C2.drew
  refine wp_region_held_drew (S := fun W' => W'.heap[B]? = some (.cells (layC p) 72 (0, 0)) ∧ W'.heap[B + 1]? = some (.cells (seenC (N x) b) 93 (0, 0))) (by kernel_rfl) s3 ?_
  intro _
  simp only [List.size_toArray, List.length_cons, List.length_nil, Nat.reduceAdd]
  clear g2 b2 y2 z2 C2
  generalize w2.drew = w3 at *
  refine wpAnyH_take (i := 1) (oi := ⟨some 22, _, _, _, _, none⟩) (v := ?_) rfl (by kernel_rfl) (by kernel_rfl) (by kernel_rfl) (fun _ _ _ h => h) (Or.inl ⟨by rfl, ?_⟩) s3 ?_
  rotate_left
  · intro wq hSq
    obtain ⟨hSa, hSb⟩ := hSq
    first | (go_simp; done) | (go_simp; with_reducible rfl)
  try simp only [Act.put, List.setIfInBounds_toArray, List.set_cons_zero, List.set_cons_succ]
  refine wpAnyH_take (i := 2) (oi := ⟨some 23, _, _, _, _, none⟩) (v := ?_) rfl (by kernel_rfl) (by kernel_rfl) (by kernel_rfl) (fun _ _ _ h => h) (Or.inl ⟨by rfl, ?_⟩) s3 ?_
  rotate_left
  · intro wq hSq
    obtain ⟨hSa, hSb⟩ := hSq
    first | (go_simp; done) | (go_simp; with_reducible rfl)
  try simp only [Act.put, List.setIfInBounds_toArray, List.set_cons_zero, List.set_cons_succ]
  refine wpAnyH_take (i := 5) (oi := ⟨some 26, _, _, _, _, none⟩) (v := ?_) rfl (by kernel_rfl) (by kernel_rfl) (by kernel_rfl) (fun _ _ _ h => h) (Or.inl ⟨by rfl, ?_⟩) s3 ?_
  rotate_left
  · intro wq hSq
    obtain ⟨hSa, hSb⟩ := hSq
    first | (go_simp; done) | (go_simp; with_reducible rfl)
  try simp only [Act.put, List.setIfInBounds_toArray, List.set_cons_zero, List.set_cons_succ]
  refine wpAnyH_take (i := 6) (oi := ⟨some 27, _, _, _, _, none⟩) (v := ?_) rfl (by kernel_rfl) (by kernel_rfl) (by kernel_rfl) (fun _ _ _ h => h) (Or.inl ⟨by rfl, ?_⟩) s3 ?_
  rotate_left
  · intro wq hSq
    obtain ⟨hSa, hSb⟩ := hSq
    first | (go_simp; done) | (go_simp; with_reducible rfl)
  try simp only [Act.put, List.setIfInBounds_toArray, List.set_cons_zero, List.set_cons_succ]
  refine wpAnyH_ready (rs := [0]) (by kernel_rfl) (by simp) ?_
  refine AllReadyH.cons (o := ⟨some 21, _, _, _, _, none⟩) rfl (fun K hK => ?_) AllReadyH.nil
  go_simp
  refine (A1 _).mono ?_
  rintro e w4 ⟨c, rfl, hcw, hcc, hc4⟩
  have s4 : w4.heap[B]? = some (.cells (layC p) 72 (0, 0)) ∧ w4.heap[B + 1]? = some (.cells (seenC (N x) b) 93 (0, 0)) := ⟨hkeep hc4 s3.1, hkeep hc4 s3.2⟩
  have g4 := hkeep hc4 g3
  have z4 := hkeep hc4 z3
  have C4 := C3.trans hc4
  refine hK.out _ _ s4 (fun _ => ?_)
  clear hK K hc4 s3 g3 z3 C3 hcw
  refine wpAnyH_take (i := 3) (oi := ⟨some 24, _, _, _, _, none⟩) (v := ?_) rfl (by kernel_rfl) (by kernel_rfl) (by kernel_rfl) (fun _ _ _ h => h) (Or.inl ⟨by rfl, ?_⟩) s4 ?_
  rotate_left
  · intro wq hSq
    obtain ⟨hSa, hSb⟩ := hSq
    first | (go_simp; done) | (go_simp; with_reducible rfl)
  try simp only [Act.put, List.setIfInBounds_toArray, List.set_cons_zero, List.set_cons_succ]
  refine wpAnyH_take (i := 4) (oi := ⟨some 25, _, _, _, _, none⟩) (v := ?_) rfl (by kernel_rfl) (by kernel_rfl) (by kernel_rfl) (fun _ _ _ h => h) (Or.inl ⟨by rfl, ?_⟩) s4 ?_
  rotate_left
  · intro wq hSq
    obtain ⟨hSa, hSb⟩ := hSq
    first | (go_simp; done) | (go_simp; with_reducible rfl)
  try simp only [Act.put, List.setIfInBounds_toArray, List.set_cons_zero, List.set_cons_succ]
  refine wpAnyH_ready (rs := [7]) (by kernel_rfl) (by simp) ?_
  refine AllReadyH.cons (o := ⟨some 28, _, _, _, _, none⟩) rfl (fun K hK => ?_) AllReadyH.nil
  go_simp
  refine (X1 c _ _ g4 hcc).mono ?_
  rintro e w5 ⟨rfl, g5, hc5⟩
  have hk : ∀ k o, ¬ k = G → w4.heap[k]? = some o → w5.heap[k]? = some o := fun k o hne h => (hc5.block k (Array.getElem?_eq_some_iff.1 h).1 (by simpa using hne)).trans h
  have s5 : w5.heap[B]? = some (.cells (layC p) 72 (0, 0)) ∧ w5.heap[B + 1]? = some (.cells (seenC (N x) b) 93 (0, 0)) := ⟨hk _ _ n1 s4.1, hk _ _ n2 s4.2⟩
  have z5 := hk _ _ n3 z4
  have C5 : Ch [] w w5 := C4.trans2 hc5 (by intro t ht; right; simp at ht; omega)
  refine hK.out _ _ s5 (fun _ => ?_)
  clear hK K hc5 s4 g4 z4 C4 hk hcc
  refine wpAnyH_done (by kernel_rfl) ?_ _
  go_wp2
  refine bodyPost_ret (lay_results Tryz.results61 _ (B + 1 + 1) _ p2 _ rfl rfl ?_) rfl ⟨rfl, C5.onObj (p := B + 1 + 1) (.inr (by omega)) _⟩
  rw [heap_onObj, if_pos rfl, z5, Option.map_some, laidAt_lay]
theorem lTake_yes (p : LayT) (hr : rightL p = true) (h4 : p.ph ≤ 4) (x : BitVec 64) (b : Bool) (w : World) : Calls Tryz.prog 61 #[.agg (layC p), .agg (seenC (N x) b)] w fun e w' => e = .returned (.tuple #[.agg (layC (takeL p x)), I 0]) ∧ Ch [] w w' := by
  have R := (rightL_iff p).1 hr
  have h0 := R.ph0
  have hat := R.at_
  rcases (show p.ph = 0 ∨ p.ph = 1 ∨ p.ph = 2 ∨ p.ph = 3 ∨ p.ph = 4 by omega) with h | h | h | h | h
  · cases ho : oddB x with
    | false =>
      have e : takeL p x = { p with ph := 1, count := x } := by unfold takeL; rw [if_pos h, if_neg (by rw [ho]; decide)]
      rw [e]; exact lTake_core p _ x b 0 _ hr h (by omega) _ (fun _ => #[]) (fun c w => index_ways0 c w) Tryz.call191 (fun c g w hg _ => lThen0_yes p g x b ho w hg) w
    | true =>
      have e : takeL p x = { p with ph := 6 } := by unfold takeL; rw [if_pos h, if_pos ho]
      rw [e]; exact lTake_core p _ x b 0 _ hr h (by omega) _ (fun _ => #[]) (fun c w => index_ways0 c w) Tryz.call191 (fun c g w hg _ => lThen0_no p g x b ho w hg) w
  · have e : takeL p x = { p with ph := 2, at_ := 1 } := by unfold takeL; rw [if_neg (by omega), if_pos h]
    rw [e]; exact lTake_core p _ x b 1 _ hr h (by omega) _ (fun _ => #[]) (fun c w => index_ways1 c w) Tryz.call194 (fun c g w hg _ => lThen1_any p g x b w hg) w
  · by_cases h39 : p.at_ = 39
    · have e : takeL p x = laidL { p with ws := updW (updW p.ws 39 x) 0 p.count, at_ := 40 } := by unfold takeL; rw [if_neg (by omega), if_neg (by omega), if_pos h, if_pos h39]
      rw [e]; exact lTake_core p _ x b 2 _ hr h (by omega) _ (fun _ => #[]) (fun c w => index_ways2 c w) Tryz.call196 (fun c g w hg _ => lThen2_last p g x b h39 w hg) w
    · obtain ⟨j, hj⟩ := Int.eq_ofNat_of_zero_le (show 0 ≤ p.at_ by omega)
      have e : takeL p x = { p with ws := updW p.ws j x, at_ := (j : Int) + 1 } := by
        unfold takeL; rw [if_neg (by omega), if_neg (by omega), if_pos h, if_neg h39]
        rw [show p.at_.toNat = j by omega]
        conv => lhs; rw [hj]
      rw [e]; exact lTake_core p _ x b 2 _ hr h (by omega) _ (fun _ => #[]) (fun c w => index_ways2 c w) Tryz.call196 (fun c g w hg _ => lThen2_more p g j x b hj (by omega) (by omega) w hg) w
  · by_cases h39 : p.at_ = 39
    · have e : takeL p x = { p with at_ := 40, ph := 4 } := by unfold takeL; rw [if_neg (by omega), if_neg (by omega), if_neg (by omega), if_pos h, if_pos h39, h39]; rfl
      rw [e]; exact lTake_core p _ x b 3 _ hr h (by omega) _ (fun _ => #[]) (fun c w => index_ways3 c w) Tryz.call199 (fun c g w hg _ => lThen3_last p g x b h39 w hg) w
    · have e : takeL p x = { p with at_ := p.at_ + 1 } := by unfold takeL; rw [if_neg (by omega), if_neg (by omega), if_neg (by omega), if_pos h, if_neg h39]; rw [← h]
      rw [e]; exact lTake_core p _ x b 3 _ hr h (by omega) _ (fun _ => #[]) (fun c w => index_ways3 c w) Tryz.call199 (fun c g w hg _ => lThen3_more p g x b (by omega) (by omega) w hg) w
  · have e : takeL p x = { p with ph := 5 } := by unfold takeL; rw [if_neg (by omega), if_neg (by omega), if_neg (by omega), if_neg (by omega)]
    rw [e]; exact lTake_core p _ x b 4 _ hr h (by omega) _ (fun c => #[.pointer (some ⟨c, 0, none⟩)]) (fun c w => index_ways4 c w) Tryz.call188 (fun c g w hg hc => lThen4_any p g x b c w hg hc) w
end Go.Proofs.Hc
set_option linter.unusedSimpArgs false
set_option linter.unusedVariables false
namespace Go.Proofs.Hc
open Go.RowKit
set_option linter.unusedVariables false
attribute [local go_sem] wrap_u64 wrap_u8 bits_xor64 bits_and64 bits_or64 bits_not64 bits_xor8 bits_and8 bits_or8 signed64 signed8 ofInt_N BitVec.ofInt_add BitVec.ofInt_mul ofInt_sub' ofInt8_N64 ofInt64_N8 wide8 eqN neN shr_pow shr1 shr7 shr56
attribute [local go_sem high] bits_com64 shl_wrap
attribute [local go_sem] cell_heap ice_heap cellAt_cells iceAt_cells setAt_cells rowAt_cells canLay_cells laidAt_cells size_onObj size_setCell rowRes_some layRes_true
attribute [local go_sem] load26 load73 load23 store26 build73
attribute [local go_sem ↓] lrow26 lrow73 lrow23 srow26 zero26 brow73 heap_alloc heap_drew heap_drewN heap_setCell heap_onObj
attribute [local go_sem] tcells_size hcells_size tcells_get hcells_get tcells_one hcells_one hcells_table tcells_table hcells_all hcells_ctrl tcells_ctrl
attribute [local go_sem] nn2 nm2 nn3 nm3 nn4 nm4 nn5 nm5 nn6 nm6 nn7 nm7 nn8 nm8
attribute [local go_sem] nn2 nm2 nn3 nm3 nn4 nm4 nn5 nm5 nn6 nm6 nn7 nm7 nn8 nm8
attribute [local go_sem] acc_g0 acc_g1 acc_g2 acc_g4 acc_s0 acc_s1 acc_s2 acc_s4 accC_size accC_one accC_all loadAcc storeAcc bacc0 bacc2 bacc3 bacc3u bacc4
attribute [local go_sem ↓] lrowAcc srowAcc browAcc zeroAcc_run
attribute [local go_sem high] laidAt_acc
attribute [local go_sem] seenC_size seenC_one seenC_all seenC_g0 loadSeen storeSeen buildSeen buildSeen0
attribute [local go_sem ↓] lrowSeen srowSeen browSeen zeroSeen_run
attribute [local go_sem high] laidAt_seen
attribute [local irreducible] seenC
attribute [local go_sem] ofInt_N ofInt_pow8
attribute [local go_sem] Oper.semAt_some make_func1
attribute [local go_sem] layC_idx lcell0 lcell1 lcell2 lcell3 lcell4 lcell5 lcell46
attribute [local go_sem] lay_g0 lay_g1 lay_g2 lay_g3 lay_g4 lay_g5 lay_g46 lay_s0 lay_s4 lay_s5 lay_s46 layC_size layC_one layC_all layC_ws boxLay loadLay storeLay build_lay box_lay buildLay0 buildLay2 buildLay3
attribute [local go_sem ↓] lrowLay srowLay browLay brow_lay zeroLay_run
attribute [local go_sem high] laidAt_lay
attribute [local irreducible] layC
attribute [local irreducible] accC
attribute [local go_sem] boxSeen
theorem lMany_any (a : Option Addr) (n c : Nat) (w : World) : Calls Tryz.prog 101 #[.slice a n c] w fun e w' => e = .returned (.bool (decide (1 ≤ n) && decide (n ≤ 8192))) ∧ w = w' := by
  obtain ⟨r, hr⟩ : ∃ r, (decide (1 ≤ n) && decide (n ≤ 8192)) = r := ⟨_, rfl⟩
  rw [hr]
  have hcs : n < 1 ∧ r = false ∨ 1 ≤ n ∧ n ≤ 8192 ∧ r = true ∨ 1 ≤ n ∧ ¬ n ≤ 8192 ∧ r = false := by
    rw [← hr]
    by_cases h1 : 1 ≤ n
    · by_cases h2 : n ≤ 8192
      · right; left; exact ⟨h1, h2, by rw [decide_eq_true h1, decide_eq_true h2]; rfl⟩
      · right; right; exact ⟨h1, h2, by rw [decide_eq_false h2, Bool.and_false]⟩
    · left; exact ⟨by omega, by rw [decide_eq_false h1, Bool.false_and]⟩
  clear hr
  rcases hcs with ⟨h1, rfl⟩ | ⟨h1, h2, rfl⟩ | ⟨h1, h2, rfl⟩
  · have h1' : ¬ (1 : Int) ≤ n := by omega
    go_enter Tryz.func101, Tryz.ntmps101
    go_wp2
    go_ret
    exact ⟨rfl, rfl⟩
  · have h1' : (1 : Int) ≤ n := by omega
    have h2' : (n : Int) ≤ 8192 := by omega
    go_enter Tryz.func101, Tryz.ntmps101
    go_wp2
    go_ret
    exact ⟨rfl, rfl⟩
  · have h1' : (1 : Int) ≤ n := by omega
    have h2' : ¬ (n : Int) ≤ 8192 := by omega
    go_enter Tryz.func101, Tryz.ntmps101
    go_wp2
    go_ret
    exact ⟨rfl, rfl⟩
set_option maxHeartbeats 1000000 in
set_option maxRecDepth 100000 in
theorem lOwn_any (l : List (BitVec 64)) (g c : Nat) (cur : Array Value) (w : World) (hl : l.length ≤ 9000) (hb : w.heap[g]? = some (.cells cur 22 (0, 0))) (hw : WordsAt cur l) :
    Calls Tryz.prog 102 #[.slice (some ⟨g, 0, none⟩) l.length c] w fun e w' => e = .returned (.slice (some ⟨w.heap.size, 0, none⟩) l.length l.length) ∧ w'.heap[w.heap.size]? = some (.cells (wcells l) 22 (0, 0)) ∧ Ch [] w w' := by
  have hm := fun w => run_make_row' (P := Tryz.prog) 44 22 (.int .u64 0) 8 Tryz.underlying44 infoU rfl .i64 .i64 l.length (by omega) (by omega) w
  have hgn : ¬ g = w.heap.size := by have := (Array.getElem?_eq_some_iff.1 hb).1; omega
  have hn : (w.alloc (.cells (madeCells #[.int .u64 0] l.length) 22)).heap[w.heap.size]? = some (.cells (madeCells #[.int .u64 0] l.length) 22 (0, 0)) := by rw [heap_alloc, if_pos rfl]
  have hlen : (l.map fun x => U x).length = l.length := List.length_map ..
  have hcp := run_copy_row (P := Tryz.prog) (w.alloc (.cells (madeCells #[.int .u64 0] l.length) 22)) 44 44 3 22 w.heap.size 0 l.length l.length ⟨g, 0, none⟩ l.length c (madeCells #[.int .u64 0] l.length) 22 (l.map fun x => U x) Tryz.underlying44 (by kernel_rfl) hn (by rw [hlen]; exact (Nat.min_self _).symm) (by
    intro j v hj
    rw [List.getElem?_map] at hj
    obtain ⟨x, hx, rfl⟩ := Option.map_eq_some_iff.1 hj
    rw [Addr.add_lit, cell_heap, heap_alloc, if_neg hgn, hb, Option.bind_some, cellAt_cells, Nat.zero_add]
    exact hw j x hx) (by rw [hlen, size_madeCells]; omega) (words_one l)
  have hrow : ((madeCells #[.int .u64 0] l.length).toList.take 0 ++ (l.map fun x => U x) ++ (madeCells #[.int .u64 0] l.length).toList.drop (0 + (l.map fun x => U x).length)).toArray = wcells l := by
    rw [List.take_zero, List.nil_append, List.drop_eq_nil_of_le (by rw [hlen, Array.length_toList, size_madeCells]; omega), List.append_nil]; rfl
  rw [hrow, hlen] at hcp
  have hh := setRow_heap (w.alloc (.cells (madeCells #[.int .u64 0] l.length) 22)) w.heap.size _ (wcells l) 22 (0, 0) hn
  have hC : Ch [] w ((w.alloc (.cells (madeCells #[.int .u64 0] l.length) 22)).setRow w.heap.size (wcells l)) := by
    refine ((Ch.refl [] w).alloc (.cells (madeCells #[.int .u64 0] l.length) 22)).trans2 (T := [w.heap.size]) ⟨rfl, rfl, rfl, by simp [World.setRow], fun k _ hk => setRow_other _ _ _ _ (by simpa using hk)⟩ (by simp)
  generalize (w.alloc (.cells (madeCells #[.int .u64 0] l.length) 22)).setRow w.heap.size (wcells l) = W2 at *
  clear hrow hn hb hw hgn
  go_enter Tryz.func102, Tryz.ntmps102
  go_wp2
  go_ret
  exact ⟨rfl, hh, hC⟩
/-- Who lays anew, at first. -/
def beginE (who sl : Int) (seed : BitVec 64) : Except Int LayT := if rightL (firstL who sl seed) then .ok (firstL who sl seed) else .error 2
theorem lay_put (q : LayT) (w : World) : (World.onObj (w.alloc (.cells (layC zeroLay) 72)) w.heap.size (laidAt 0 (layC q))).heap[w.heap.size]? = some (.cells (layC q) 72 (0, 0)) := by
  rw [heap_onObj, if_pos rfl, heap_alloc, if_pos rfl, Option.map_some, laidAt_lay]
theorem lay_put_ch (q : LayT) (w : World) : Ch [] w (World.onObj (w.alloc (.cells (layC zeroLay) 72)) w.heap.size (laidAt 0 (layC q))) := ((Ch.refl [] w).alloc _).onObj (.inr (Nat.le_refl _)) _
set_option maxHeartbeats 1000000 in
set_option maxRecDepth 100000 in
theorem lBegin_any (who sl : Int) (seed : BitVec 64) (w : World) : Calls Tryz.prog 37 #[I who, I sl, U seed] w fun e w' => e = .returned (tupOr (fun v => .agg (layC v)) (.agg (layC zeroLay)) (beginE who sl seed)) ∧ Ch [] w w' := by
  have R1 := fun w => lCheck_any (firstL who sl seed) w
  have z0 : (w.alloc (.cells (layC zeroLay) 72)).heap[w.heap.size]? = some (.cells (layC zeroLay) 72 (0, 0)) := by rw [heap_alloc, if_pos rfl]
  have C0 : Ch [] w (w.alloc (.cells (layC zeroLay) 72)) := (Ch.refl [] w).alloc _
  obtain ⟨q, hq⟩ : ∃ q, firstL who sl seed = q := ⟨_, rfl⟩
  have BB := fun w => buildLay3 who sl seed w
  unfold beginE
  rw [hq] at R1 BB ⊢
  clear hq
  cases hr : rightL q with
  | true =>
    rw [checkL_yes hr] at R1
    simp only [if_true, tupOr]
    clear hr
    go_enter Tryz.func37, Tryz.ntmps37
    go_upto_region 1 with (fail)
    obtain ⟨w0, hw0⟩ : ∃ W, w.alloc (.cells (layC zeroLay) 72) = W := ⟨_, rfl⟩
    rw [hw0] at z0 C0 ⊢
    clear hw0
    obtain ⟨B, hB⟩ : ∃ B, w.heap.size = B := ⟨_, rfl⟩
    rw [hB] at z0 ⊢
    have hBw : w.heap.size ≤ B := by omega
    clear hB
    have hBn : ¬ B = w0.heap.size := by have := (Array.getElem?_eq_some_iff.1 z0).1; omega
    go_upto_region 2 with (fail)
    have q1 := lay_put q w0
    have hc1 := lay_put_ch q w0
    have z1 := hkeep hc1 z0
    have C1 := C0.trans hc1
    clear z0 C0 hc1
    obtain ⟨w1, hw1⟩ : ∃ W, World.onObj (w0.alloc (.cells (layC zeroLay) 72)) w0.heap.size (laidAt 0 (layC q)) = W := ⟨_, rfl⟩
    rw [hw1] at q1 z1 C1 ⊢
    clear hw1
    obtain ⟨D, hD⟩ : ∃ D, w0.heap.size = D := ⟨_, rfl⟩
    rw [hD] at q1 hBn ⊢
    clear hD
    go_wp2_with fail
    refine (R1 _).mono ?_
    rintro e w2 ⟨rfl, hc2⟩
    have q2 := hkeep hc2 q1
    have z2 := hkeep hc2 z1
    have C2 := C1.trans hc2
    clear q1 z1 C1 hc2
    go_wp2
    refine bodyPost_ret (lay_results Tryz.results37 _ B _ q _ rfl rfl ?_) rfl ⟨rfl, C2.onObj (p := B) (.inr hBw) _⟩
    rw [heap_onObj, if_pos rfl, z2, Option.map_some, laidAt_lay]
  | false =>
    rw [checkL_no hr] at R1
    simp only [Bool.false_eq_true, if_false, tupOr]
    clear hr
    go_enter Tryz.func37, Tryz.ntmps37
    go_upto_region 1 with (fail)
    obtain ⟨w0, hw0⟩ : ∃ W, w.alloc (.cells (layC zeroLay) 72) = W := ⟨_, rfl⟩
    rw [hw0] at z0 C0 ⊢
    clear hw0
    obtain ⟨B, hB⟩ : ∃ B, w.heap.size = B := ⟨_, rfl⟩
    rw [hB] at z0 ⊢
    have hBw : w.heap.size ≤ B := by omega
    clear hB
    have hBn : ¬ B = w0.heap.size := by have := (Array.getElem?_eq_some_iff.1 z0).1; omega
    go_upto_region 2 with (fail)
    have q1 := lay_put q w0
    have hc1 := lay_put_ch q w0
    have z1 := hkeep hc1 z0
    have C1 := C0.trans hc1
    clear z0 C0 hc1
    obtain ⟨w1, hw1⟩ : ∃ W, World.onObj (w0.alloc (.cells (layC zeroLay) 72)) w0.heap.size (laidAt 0 (layC q)) = W := ⟨_, rfl⟩
    rw [hw1] at q1 z1 C1 ⊢
    clear hw1
    go_wp2_with fail
    refine (R1 _).mono ?_
    rintro e w2 ⟨rfl, hc2⟩
    have z2 := hkeep hc2 z1
    have C2 := C1.trans hc2
    clear q1 z1 C1 hc2
    go_wp2
    refine bodyPost_ret (lay_results Tryz.results37 _ B _ zeroLay _ rfl rfl ?_) rfl ⟨rfl, C2.onObj (p := B) (.inr hBw) _⟩
    rw [heap_onObj, if_pos rfl, z2, Option.map_some, laidAt_lay]
/-- Is it inside its section? -/
def insideL (p : LayT) : Bool := rightL p && (decide (2 ≤ p.ph) && decide (p.ph ≤ 4))
set_option maxHeartbeats 1000000 in
set_option maxRecDepth 100000 in
theorem lInside_any (p : LayT) (w : World) : Calls Tryz.prog 60 #[.agg (layC p)] w fun e w' => e = .returned (.bool (insideL p)) ∧ Ch [] w w' := by
  have R1 := fun w => lCheck_any p w
  have hcs : checkL p = 300 ∧ insideL p = false ∨ checkL p = 0 ∧ (¬ 2 ≤ p.ph ∧ insideL p = false ∨ 2 ≤ p.ph ∧ ¬ p.ph ≤ 4 ∧ insideL p = false ∨ 2 ≤ p.ph ∧ p.ph ≤ 4 ∧ insideL p = true) := by
    unfold insideL
    cases hr : rightL p with
    | false => left; exact ⟨checkL_no hr, rfl⟩
    | true =>
      right
      refine ⟨checkL_yes hr, ?_⟩
      by_cases h1 : 2 ≤ p.ph
      · by_cases h2 : p.ph ≤ 4
        · right; right; exact ⟨h1, h2, by rw [decide_eq_true h1, decide_eq_true h2]; rfl⟩
        · right; left; exact ⟨h1, h2, by rw [decide_eq_false h2, Bool.and_false, Bool.and_false]⟩
      · left; exact ⟨h1, by rw [decide_eq_false h1, Bool.false_and, Bool.and_false]⟩
  generalize checkL p = r at *
  generalize insideL p = q at *
  have b0 : (w.alloc (.cells (layC p) 72)).heap[w.heap.size]? = some (.cells (layC p) 72 (0, 0)) := by rw [heap_alloc, if_pos rfl]
  have C0 : Ch [] w (w.alloc (.cells (layC p) 72)) := (Ch.refl [] w).alloc _
  rcases hcs with ⟨rfl, rfl⟩ | ⟨rfl, ⟨h1, rfl⟩ | ⟨h1, h2, rfl⟩ | ⟨h1, h2, rfl⟩⟩
  all_goals
    go_enter Tryz.func60, Tryz.ntmps60
    go_wp2_with fail
    generalize w.alloc (.cells (layC p) 72) = w0 at *
    refine (R1 _).mono ?_
    rintro e w1 ⟨rfl, hc1⟩
    have b1 := hkeep hc1 b0
    have C1 := C0.trans hc1
    clear b0 C0 hc1
    go_wp2
    go_ret
    exact ⟨by first | rfl | (simp; omega), C1⟩
theorem lstep_results {fn : Func} {p q u : Tmp} (h : fn.results = #[.tmp p, .cell q 72, .tmp u]) (tmps : Array Value) (b : Nat) (w : World) (d : LayT) (v y : Value) (hp : tmps.getD p undef = v) (hq : tmps.getD q undef = .pointer (some ⟨b, 0, none⟩)) (hu : tmps.getD u undef = y)
    (hb : w.heap[b]? = some (.cells (layC d) 72 (0, 0))) : (results fn tmps).run Tryz.prog w = .ok (.tuple #[v, .agg (layC d), y]) w := by
  have hl := run_loadVar_row (P := Tryz.prog) w b 72 72 (layC d) (0, 0) _ hb Tryz.underlying72 rfl (by rw [layC_size]; kernel_rfl)
  have hp' : tmps[p]?.getD undef = v := by simpa using hp
  have hq' : tmps[q]?.getD undef = .pointer (some ⟨b, 0, none⟩) := by simpa using hq
  have hu' : tmps[u]?.getD undef = y := by simpa using hu
  simp [results, h, hp', hq', hu', asAddr, hl]
theorem step_world (p : LayT) (w : World) : ∃ W, (w.alloc (.cells (layC p) 72)).alloc (.cells (layC zeroLay) 72) = W ∧ Ch [] w W ∧ W.heap[w.heap.size]? = some (.cells (layC p) 72 (0, 0)) ∧ W.heap[w.heap.size + 1]? = some (.cells (layC zeroLay) 72 (0, 0)) :=
  ⟨_, rfl, ((Ch.refl [] w).alloc _).alloc _, by rw [heap_alloc, if_neg (by simp), heap_alloc, if_pos rfl], by rw [heap_alloc, if_pos (by simp)]⟩
theorem accv_put (a b c d : Int) (w : World) : (World.onObj (w.alloc (.cells (accC 0 0 0 0) 87)) w.heap.size (laidAt 0 (accC a b c d))).heap[w.heap.size]? = some (.cells (accC a b c d) 87 (0, 0)) := by
  rw [heap_onObj, if_pos rfl, heap_alloc, if_pos rfl, Option.map_some, laidAt_acc]
theorem accv_put_ch (a b c d : Int) (w : World) : Ch [] w (World.onObj (w.alloc (.cells (accC 0 0 0 0) 87)) w.heap.size (laidAt 0 (accC a b c d))) := ((Ch.refl [] w).alloc _).onObj (.inr (Nat.le_refl _)) _
theorem seen_put (x : Int) (b : Bool) (w : World) : (World.onObj (w.alloc (.cells (seenC 0 false) 93)) w.heap.size (laidAt 0 (seenC x b))).heap[w.heap.size]? = some (.cells (seenC x b) 93 (0, 0)) := by
  rw [heap_onObj, if_pos rfl, heap_alloc, if_pos rfl, Option.map_some, laidAt_seen]
theorem seen_put_ch (x : Int) (b : Bool) (w : World) : Ch [] w (World.onObj (w.alloc (.cells (seenC 0 false) 93)) w.heap.size (laidAt 0 (seenC x b))) := ((Ch.refl [] w).alloc _).onObj (.inr (Nat.le_refl _)) _
set_option maxHeartbeats 2000000 in
set_option maxRecDepth 100000 in
theorem lStep_over (l : List (BitVec 64)) (g c : Nat) (cur : Array Value) (p : LayT) (hr : rightL p = true) (hn : needL p = none) (w : World) (h1 : 1 ≤ l.length) (hl : l.length ≤ 8192) (hb : w.heap[g]? = some (.cells cur 22 (0, 0))) (hw : WordsAt cur l) : Calls Tryz.prog 63 #[.slice (some ⟨g, 0, none⟩) l.length c, .agg (layC p)] w fun e w' => ∃ R, e = .returned (.tuple #[.slice (some ⟨R, 0, none⟩) l.length l.length, .agg (layC p), I 0]) ∧ w.heap.size ≤ R ∧ w'.heap[R]? = some (.cells (wcells l) 22 (0, 0)) ∧ Ch [] w w' := by
  have O1 := fun w h => lOwn_any l g c cur w (by omega) h hw
  obtain ⟨n, hnl⟩ : ∃ n, l.length = n := ⟨_, rfl⟩
  rw [hnl] at O1 h1 hl ⊢
  clear hw hnl
  have M1 := fun w => lMany_any (some ⟨g, 0, none⟩) n c w
  rw [decide_eq_true h1, decide_eq_true hl, Bool.and_true] at M1
  have R1 := fun w => lCheck_any p w
  rw [checkL_yes hr] at R1
  have N1 := fun w => lNeed_any p w
  rw [hn] at N1
  simp only [needLV] at N1
  clear hn
  clear hr
  obtain ⟨w0, hW0, C0, b0, z0⟩ := step_world p w
  have c0 := hkeep C0 hb
  clear hb h1 hl
  skip
  go_enter Tryz.func63, Tryz.ntmps63
  go_wp2_with fail
  try rw [hW0]
  clear hW0
  refine (M1 _).mono ?_
  rintro e w' ⟨rfl, rfl⟩
  obtain ⟨B, hB⟩ : ∃ B, w.heap.size = B := ⟨_, rfl⟩
  rw [hB] at b0 z0 ⊢
  have hBw : w.heap.size ≤ B := by omega
  clear hB M1
  go_wp2_with fail
  refine (R1 _).mono ?_
  rintro e w1 ⟨rfl, hc1⟩
  have b1 := hkeep (hc1) b0
  have z1 := hkeep (hc1) z0
  have c1 := hkeep (hc1) c0
  have C1 := C0.trans (hc1)
  clear b0 z0 c0 C0 hc1 
  clear R1
  go_wp2_with fail
  refine (N1 _).mono ?_
  rintro e w2 ⟨rfl, hc2⟩
  have b2 := hkeep (hc2) b1
  have z2 := hkeep (hc2) z1
  have c2 := hkeep (hc2) c1
  have C2 := C1.trans (hc2)
  clear b1 z1 c1 C1 hc2 
  clear N1
  have nb : ¬ B = w2.heap.size := by have := blk_lt19 b2; omega
  have nz : ¬ (B + 1) = w2.heap.size := by have := blk_lt19 z2; omega
  have nc : ¬ g = w2.heap.size := by have := blk_lt19 c2; omega
  go_upto_region 6 with (fail)
  clear nb nz nc
  have hcp2 := accv_put_ch 0 0 0 0 w2
  have b3 := hkeep (hcp2) b2
  have z3 := hkeep (hcp2) z2
  have c3 := hkeep (hcp2) c2
  have C3 := C2.trans (hcp2)
  have a3 := accv_put 0 0 0 0 w2
  have lbAA := blk_lt19 b2
  have lzAA := blk_lt19 z2
  have lcAA := blk_lt19 c2
  have hlAA := C2.size
  clear b2 z2 c2 C2 hcp2
  obtain ⟨w3, hw3⟩ : ∃ W, World.onObj (w2.alloc (.cells (accC 0 0 0 0) 87)) w2.heap.size (laidAt 0 (accC 0 0 0 0)) = W := ⟨_, rfl⟩
  rw [hw3] at b3 z3 c3 a3 C3  ⊢
  clear hw3
  obtain ⟨AA, hbAA⟩ : ∃ b, w2.heap.size = b := ⟨_, rfl⟩
  rw [hbAA] at a3 hlAA lbAA lzAA lcAA ⊢
  clear hbAA
  go_upto_region 7 with (fail)
  have s1 : (fun W' : World => W'.heap[B]? = some (.cells (layC p) 72 (0, 0))) w3.drew := b3
  have z1 : w3.drew.heap[B + 1]? = some (.cells (layC zeroLay) 72 (0, 0)) := z3
  have c1 : w3.drew.heap[g]? = _ := c3
  have C1 : Ch [] w w3.drew := C3.drew
  refine wp_region_held_drew (S := fun W' => W'.heap[B]? = some (.cells (layC p) 72 (0, 0))) (by kernel_rfl) s1 ?_
  intro _
  simp only [List.size_toArray, List.length_cons, List.length_nil, Nat.reduceAdd]
  clear b3 z3 c3 a3 C3
  generalize w3.drew = w1 at *
  refine wpAnyH_take (i := 0) (oi := ⟨some 30, _, _, _, _, none⟩) (v := ?_) rfl (by kernel_rfl) (by kernel_rfl) (by kernel_rfl) (fun _ _ _ h => h) (Or.inl ⟨by rfl, ?_⟩) s1 ?_
  rotate_left
  · intro wq hSq
    first | (go_simp; done) | (go_simp; with_reducible rfl)
  try simp only [Act.put, List.setIfInBounds_toArray, List.set_cons_zero, List.set_cons_succ]
  refine wpAnyH_take (i := 2) (oi := ⟨some 32, _, _, _, _, none⟩) (v := ?_) rfl (by kernel_rfl) (by kernel_rfl) (by kernel_rfl) (fun _ _ _ h => h) (Or.inl ⟨by rfl, ?_⟩) s1 ?_
  rotate_left
  · intro wq hSq
    first | (go_simp; done) | (go_simp; with_reducible rfl)
  try simp only [Act.put, List.setIfInBounds_toArray, List.set_cons_zero, List.set_cons_succ]
  refine wpAnyH_ready (rs := [1]) (by kernel_rfl) (by simp) ?_
  refine AllReadyH.cons (o := ⟨some 31, _, _, _, _, none⟩) rfl (fun K hK => ?_) AllReadyH.nil
  go_simp
  refine (O1 _ c1).mono ?_
  rintro e w2 ⟨rfl, hR, hc2⟩
  have s2 := hkeep hc2 s1
  have z2 := hkeep hc2 z1
  have C2 := C1.trans hc2
  have hRw : w.heap.size ≤ w1.heap.size := C1.size
  have hzl := (Array.getElem?_eq_some_iff.1 z1).1
  refine hK.out _ _ s2 (fun _ => ?_)
  clear hK K hc2 s1 z1 c1 C1
  obtain ⟨R, hRe⟩ : ∃ R, w1.heap.size = R := ⟨_, rfl⟩
  rw [hRe] at hR hRw hzl ⊢
  have hRz : ¬ R = B + 1 := by omega
  clear hRe hzl
  refine wpAnyH_take (i := 3) (oi := ⟨some 4, _, _, _, _, none⟩) (v := ?_) rfl (by kernel_rfl) (by kernel_rfl) (by kernel_rfl) (fun _ _ _ h => h) (Or.inl ⟨by rfl, ?_⟩) s2 ?_
  rotate_left
  · intro wq hSq
    first | (go_simp; done) | (go_simp; with_reducible rfl)
  try simp only [Act.put, List.setIfInBounds_toArray, List.set_cons_zero, List.set_cons_succ]
  refine wpAnyH_ready (rs := [4]) (by kernel_rfl) (by simp) ?_
  refine AllReadyH.cons rfl (fun K hK => ?_) AllReadyH.nil
  go_simp
  have s3 : (World.onObj w2 (B + 1) (laidAt 0 (layC p))).heap[B]? = some (.cells (layC p) 72 (0, 0)) := by rw [heap_onObj, if_neg (by omega)]; exact s2
  have z3 : (World.onObj w2 (B + 1) (laidAt 0 (layC p))).heap[B + 1]? = some (.cells (layC p) 72 (0, 0)) := by rw [heap_onObj, if_pos rfl, z2, Option.map_some, laidAt_lay]
  have r3 := (onObj_other (w := w2) (F := B + 1) (laidAt 0 (layC p)) hRz).trans hR
  have C3 : Ch [] w (World.onObj w2 (B + 1) (laidAt 0 (layC p))) := C2.onObj (.inr (by omega)) _
  refine hK.out _ _ s3 (fun _ => ?_)
  clear hK K s2 z2 hR C2
  generalize (World.onObj w2 (B + 1) (laidAt 0 (layC p))) = w3 at *
  refine wpAnyH_take (i := 5) (oi := ⟨some 6, _, _, _, _, none⟩) (v := ?_) rfl (by kernel_rfl) (by kernel_rfl) (by kernel_rfl) (fun _ _ _ h => h) (Or.inl ⟨by rfl, ?_⟩) s3 ?_
  rotate_left
  · intro wq hSq
    first | (go_simp; done) | (go_simp; with_reducible rfl)
  try simp only [Act.put, List.setIfInBounds_toArray, List.set_cons_zero, List.set_cons_succ]
  refine wpAnyH_done (by kernel_rfl) ?_ _
  go_wp2
  exact bodyPost_ret (lstep_results Tryz.results63 _ (B + 1) _ p _ _ rfl rfl rfl z3) rfl ⟨R, rfl, hRw, r3, C3⟩
set_option maxHeartbeats 2000000 in
set_option maxRecDepth 100000 in
theorem lStep_out (n g c : Nat) (cur : Array Value) (p : LayT) (kd at_ nw : Int) (hr : rightL p = true) (N1 : ∀ w, Calls Tryz.prog 58 #[.agg (layC p)] w fun e w' => e = .returned (.tuple #[.agg (accC p.who kd at_ nw), .bool true]) ∧ Ch [] w w') (D1 : ∀ w, w.heap[g]? = some (.cells cur 22 (0, 0)) → Calls Tryz.prog 118 #[.slice (some ⟨g, 0, none⟩) n c, .agg (accC p.who kd at_ nw)] w fun e w' => e = .returned (.tuple #[.slice none 0 0, .agg (seenC 0 false), I 2]) ∧ Ch [] w w') (w : World) (h1 : 1 ≤ n) (hl : n ≤ 8192) (hb : w.heap[g]? = some (.cells cur 22 (0, 0))) : Calls Tryz.prog 63 #[.slice (some ⟨g, 0, none⟩) n c, .agg (layC p)] w fun e w' => e = .returned (.tuple #[.slice none 0 0, .agg (layC zeroLay), I 2]) ∧ Ch [] w w' := by
  have M1 := fun w => lMany_any (some ⟨g, 0, none⟩) n c w
  rw [decide_eq_true h1, decide_eq_true hl, Bool.and_true] at M1
  have R1 := fun w => lCheck_any p w
  rw [checkL_yes hr] at R1
  clear hr
  obtain ⟨w0, hW0, C0, b0, z0⟩ := step_world p w
  have c0 := hkeep C0 hb
  clear hb h1 hl
  skip
  go_enter Tryz.func63, Tryz.ntmps63
  go_wp2_with fail
  try rw [hW0]
  clear hW0
  refine (M1 _).mono ?_
  rintro e w' ⟨rfl, rfl⟩
  obtain ⟨B, hB⟩ : ∃ B, w.heap.size = B := ⟨_, rfl⟩
  rw [hB] at b0 z0 ⊢
  have hBw : w.heap.size ≤ B := by omega
  clear hB M1
  go_wp2_with fail
  refine (R1 _).mono ?_
  rintro e w1 ⟨rfl, hc1⟩
  have b1 := hkeep (hc1) b0
  have z1 := hkeep (hc1) z0
  have c1 := hkeep (hc1) c0
  have C1 := C0.trans (hc1)
  clear b0 z0 c0 C0 hc1 
  clear R1
  go_wp2_with fail
  refine (N1 _).mono ?_
  rintro e w2 ⟨rfl, hc2⟩
  have b2 := hkeep (hc2) b1
  have z2 := hkeep (hc2) z1
  have c2 := hkeep (hc2) c1
  have C2 := C1.trans (hc2)
  clear b1 z1 c1 C1 hc2 
  clear N1
  have nb : ¬ B = w2.heap.size := by have := blk_lt19 b2; omega
  have nz : ¬ (B + 1) = w2.heap.size := by have := blk_lt19 z2; omega
  have nc : ¬ g = w2.heap.size := by have := blk_lt19 c2; omega
  go_upto_region 6 with (fail)
  clear nb nz nc
  have hcp2 := accv_put_ch p.who kd at_ nw w2
  have b3 := hkeep (hcp2) b2
  have z3 := hkeep (hcp2) z2
  have c3 := hkeep (hcp2) c2
  have C3 := C2.trans (hcp2)
  have a3 := accv_put p.who kd at_ nw w2
  have lbAA := blk_lt19 b2
  have lzAA := blk_lt19 z2
  have lcAA := blk_lt19 c2
  have hlAA := C2.size
  clear b2 z2 c2 C2 hcp2
  obtain ⟨w3, hw3⟩ : ∃ W, World.onObj (w2.alloc (.cells (accC 0 0 0 0) 87)) w2.heap.size (laidAt 0 (accC p.who kd at_ nw)) = W := ⟨_, rfl⟩
  rw [hw3] at b3 z3 c3 a3 C3  ⊢
  clear hw3
  obtain ⟨AA, hbAA⟩ : ∃ b, w2.heap.size = b := ⟨_, rfl⟩
  rw [hbAA] at a3 hlAA lbAA lzAA lcAA ⊢
  clear hbAA
  go_wp2_with fail
  refine (D1 _ c3).mono ?_
  rintro e w4 ⟨rfl, hc4⟩
  have b4 := hkeep (hc4) b3
  have z4 := hkeep (hc4) z3
  have c4 := hkeep (hc4) c3
  have a4 := hkeep (hc4) a3
  have C4 := C3.trans (hc4)
  clear b3 z3 c3 a3 C3 hc4 
  clear D1
  have nb : ¬ B = w4.heap.size := by have := blk_lt19 b4; omega
  have nz : ¬ (B + 1) = w4.heap.size := by have := blk_lt19 z4; omega
  have nc : ¬ g = w4.heap.size := by have := blk_lt19 c4; omega
  have na : ¬ AA = w4.heap.size := by have := blk_lt19 a4; omega
  go_upto_region 9 with (fail)
  clear nb nz nc na
  have hcp4 := seen_put_ch 0 false w4
  have b5 := hkeep (hcp4) b4
  have z5 := hkeep (hcp4) z4
  have c5 := hkeep (hcp4) c4
  have a5 := hkeep (hcp4) a4
  have C5 := C4.trans (hcp4)
  have y5 := seen_put 0 false w4
  have lbYY := blk_lt19 b4
  have lzYY := blk_lt19 z4
  have lcYY := blk_lt19 c4
  have laYY := blk_lt19 a4
  have hlYY := C4.size
  clear b4 z4 c4 a4 C4 hcp4
  obtain ⟨w5, hw5⟩ : ∃ W, World.onObj (w4.alloc (.cells (seenC 0 false) 93)) w4.heap.size (laidAt 0 (seenC 0 false)) = W := ⟨_, rfl⟩
  rw [hw5] at b5 z5 c5 a5 y5 C5  ⊢
  clear hw5
  obtain ⟨YY, hbYY⟩ : ∃ b, w4.heap.size = b := ⟨_, rfl⟩
  rw [hbYY] at y5 hlYY lbYY lzYY lcYY laYY ⊢
  clear hbYY
  go_wp2
  refine bodyPost_ret (lstep_results Tryz.results63 _ (B + 1) _ zeroLay _ _ rfl rfl rfl ?_) rfl ⟨rfl, C5.onObj (p := B + 1) (.inr (by omega)) _⟩
  rw [heap_onObj, if_pos rfl, z5, Option.map_some, laidAt_lay]
set_option maxHeartbeats 2000000 in
set_option maxRecDepth 100000 in
theorem lStep_go (n g c : Nat) (cur : Array Value) (p : LayT) (cu2 : Array Value) (p2 : LayT) (kd at_ nw : Int) (x : BitVec 64) (hr : rightL p = true) (N1 : ∀ w, Calls Tryz.prog 58 #[.agg (layC p)] w fun e w' => e = .returned (.tuple #[.agg (accC p.who kd at_ nw), .bool true]) ∧ Ch [] w w') (D1 : ∀ w, w.heap[g]? = some (.cells cur 22 (0, 0)) → Calls Tryz.prog 118 #[.slice (some ⟨g, 0, none⟩) n c, .agg (accC p.who kd at_ nw)] w fun e w' => ∃ R, e = .returned (.tuple #[.slice (some ⟨R, 0, none⟩) n n, .agg (seenC (N x) true), I 0]) ∧ w.heap.size ≤ R ∧ w'.heap[R]? = some (.cells cu2 22 (0, 0)) ∧ Ch [] w w') (T1 : ∀ w, Calls Tryz.prog 61 #[.agg (layC p), .agg (seenC (N x) true)] w fun e w' => e = .returned (.tuple #[.agg (layC p2), I 0]) ∧ Ch [] w w') (w : World) (h1 : 1 ≤ n) (hl : n ≤ 8192) (hb : w.heap[g]? = some (.cells cur 22 (0, 0))) : Calls Tryz.prog 63 #[.slice (some ⟨g, 0, none⟩) n c, .agg (layC p)] w fun e w' => ∃ R, e = .returned (.tuple #[.slice (some ⟨R, 0, none⟩) n n, .agg (layC p2), I 0]) ∧ w.heap.size ≤ R ∧ w'.heap[R]? = some (.cells cu2 22 (0, 0)) ∧ Ch [] w w' := by
  have M1 := fun w => lMany_any (some ⟨g, 0, none⟩) n c w
  rw [decide_eq_true h1, decide_eq_true hl, Bool.and_true] at M1
  have R1 := fun w => lCheck_any p w
  rw [checkL_yes hr] at R1
  clear hr
  obtain ⟨w0, hW0, C0, b0, z0⟩ := step_world p w
  have c0 := hkeep C0 hb
  clear hb h1 hl
  skip
  go_enter Tryz.func63, Tryz.ntmps63
  go_wp2_with fail
  try rw [hW0]
  clear hW0
  refine (M1 _).mono ?_
  rintro e w' ⟨rfl, rfl⟩
  obtain ⟨B, hB⟩ : ∃ B, w.heap.size = B := ⟨_, rfl⟩
  rw [hB] at b0 z0 ⊢
  have hBw : w.heap.size ≤ B := by omega
  clear hB M1
  go_wp2_with fail
  refine (R1 _).mono ?_
  rintro e w1 ⟨rfl, hc1⟩
  have b1 := hkeep (hc1) b0
  have z1 := hkeep (hc1) z0
  have c1 := hkeep (hc1) c0
  have C1 := C0.trans (hc1)
  clear b0 z0 c0 C0 hc1 
  clear R1
  go_wp2_with fail
  refine (N1 _).mono ?_
  rintro e w2 ⟨rfl, hc2⟩
  have b2 := hkeep (hc2) b1
  have z2 := hkeep (hc2) z1
  have c2 := hkeep (hc2) c1
  have C2 := C1.trans (hc2)
  clear b1 z1 c1 C1 hc2 
  clear N1
  have nb : ¬ B = w2.heap.size := by have := blk_lt19 b2; omega
  have nz : ¬ (B + 1) = w2.heap.size := by have := blk_lt19 z2; omega
  have nc : ¬ g = w2.heap.size := by have := blk_lt19 c2; omega
  go_upto_region 6 with (fail)
  clear nb nz nc
  have hcp2 := accv_put_ch p.who kd at_ nw w2
  have b3 := hkeep (hcp2) b2
  have z3 := hkeep (hcp2) z2
  have c3 := hkeep (hcp2) c2
  have C3 := C2.trans (hcp2)
  have a3 := accv_put p.who kd at_ nw w2
  have lbAA := blk_lt19 b2
  have lzAA := blk_lt19 z2
  have lcAA := blk_lt19 c2
  have hlAA := C2.size
  clear b2 z2 c2 C2 hcp2
  obtain ⟨w3, hw3⟩ : ∃ W, World.onObj (w2.alloc (.cells (accC 0 0 0 0) 87)) w2.heap.size (laidAt 0 (accC p.who kd at_ nw)) = W := ⟨_, rfl⟩
  rw [hw3] at b3 z3 c3 a3 C3  ⊢
  clear hw3
  obtain ⟨AA, hbAA⟩ : ∃ b, w2.heap.size = b := ⟨_, rfl⟩
  rw [hbAA] at a3 hlAA lbAA lzAA lcAA ⊢
  clear hbAA
  go_wp2_with fail
  have hSn := C3.size
  refine (D1 _ c3).mono ?_
  rintro e w4 ⟨R, rfl, hRw0, r4, hc4⟩
  have b4 := hkeep (hc4) b3
  have z4 := hkeep (hc4) z3
  have c4 := hkeep (hc4) c3
  have a4 := hkeep (hc4) a3
  have C4 := C3.trans (hc4)
  clear b3 z3 c3 a3 C3 hc4 
  have hRw := Nat.le_trans hSn hRw0
  clear D1
  skip
  have nb : ¬ B = w4.heap.size := by have := blk_lt19 b4; omega
  have nz : ¬ (B + 1) = w4.heap.size := by have := blk_lt19 z4; omega
  have nc : ¬ g = w4.heap.size := by have := blk_lt19 c4; omega
  have na : ¬ AA = w4.heap.size := by have := blk_lt19 a4; omega
  have nr : ¬ R = w4.heap.size := by have := blk_lt19 r4; omega
  go_upto_region 9 with (fail)
  clear nb nz nc na nr
  have hcp4 := seen_put_ch (N x) true w4
  have b5 := hkeep (hcp4) b4
  have z5 := hkeep (hcp4) z4
  have c5 := hkeep (hcp4) c4
  have a5 := hkeep (hcp4) a4
  have r5 := hkeep (hcp4) r4
  have C5 := C4.trans (hcp4)
  have y5 := seen_put (N x) true w4
  have lbYY := blk_lt19 b4
  have lzYY := blk_lt19 z4
  have lcYY := blk_lt19 c4
  have laYY := blk_lt19 a4
  have lrYY := blk_lt19 r4
  have hlYY := C4.size
  clear b4 z4 c4 a4 r4 C4 hcp4
  obtain ⟨w5, hw5⟩ : ∃ W, World.onObj (w4.alloc (.cells (seenC 0 false) 93)) w4.heap.size (laidAt 0 (seenC (N x) true)) = W := ⟨_, rfl⟩
  rw [hw5] at b5 z5 c5 a5 r5 y5 C5  ⊢
  clear hw5
  obtain ⟨YY, hbYY⟩ : ∃ b, w4.heap.size = b := ⟨_, rfl⟩
  rw [hbYY] at y5 hlYY lbYY lzYY lcYY laYY lrYY ⊢
  clear hbYY
  go_wp2_with fail
  refine (T1 _).mono ?_
  rintro e w6 ⟨rfl, hc6⟩
  have b6 := hkeep (hc6) b5
  have z6 := hkeep (hc6) z5
  have c6 := hkeep (hc6) c5
  have a6 := hkeep (hc6) a5
  have r6 := hkeep (hc6) r5
  have y6 := hkeep (hc6) y5
  have C6 := C5.trans (hc6)
  clear b5 z5 c5 a5 r5 y5 C5 hc6 
  clear T1
  have nb : ¬ B = w6.heap.size := by have := blk_lt19 b6; omega
  have nz : ¬ (B + 1) = w6.heap.size := by have := blk_lt19 z6; omega
  have nc : ¬ g = w6.heap.size := by have := blk_lt19 c6; omega
  have na : ¬ AA = w6.heap.size := by have := blk_lt19 a6; omega
  have nr : ¬ R = w6.heap.size := by have := blk_lt19 r6; omega
  have ny : ¬ YY = w6.heap.size := by have := blk_lt19 y6; omega
  go_upto_region 12 with (fail)
  clear nb nz nc na nr ny
  have hcp6 := lay_put_ch p2 w6
  have b7 := hkeep (hcp6) b6
  have z7 := hkeep (hcp6) z6
  have c7 := hkeep (hcp6) c6
  have a7 := hkeep (hcp6) a6
  have r7 := hkeep (hcp6) r6
  have y7 := hkeep (hcp6) y6
  have C7 := C6.trans (hcp6)
  have t7 := lay_put p2 w6
  have lbTT := blk_lt19 b6
  have lzTT := blk_lt19 z6
  have lcTT := blk_lt19 c6
  have laTT := blk_lt19 a6
  have lrTT := blk_lt19 r6
  have lyTT := blk_lt19 y6
  have hlTT := C6.size
  clear b6 z6 c6 a6 r6 y6 C6 hcp6
  obtain ⟨w7, hw7⟩ : ∃ W, World.onObj (w6.alloc (.cells (layC zeroLay) 72)) w6.heap.size (laidAt 0 (layC p2)) = W := ⟨_, rfl⟩
  rw [hw7] at b7 z7 c7 a7 r7 y7 t7 C7  ⊢
  clear hw7
  obtain ⟨TT, hbTT⟩ : ∃ b, w6.heap.size = b := ⟨_, rfl⟩
  rw [hbTT] at t7 hlTT lbTT lzTT lcTT laTT lrTT lyTT ⊢
  clear hbTT
  have s1 : (fun W' : World => W'.heap[TT]? = some (.cells (layC p2) 72 (0, 0))) w7.drew := t7
  have z1 : w7.drew.heap[B + 1]? = some (.cells (layC zeroLay) 72 (0, 0)) := z7
  have r1 : w7.drew.heap[R]? = _ := r7
  have C1 : Ch [] w w7.drew := C7.drew
  refine wp_region_held_drew (S := fun W' => W'.heap[TT]? = some (.cells (layC p2) 72 (0, 0))) (by kernel_rfl) s1 ?_
  intro _
  simp only [List.size_toArray, List.length_cons, List.length_nil, Nat.reduceAdd]
  clear b7 z7 c7 a7 r7 y7 t7 C7
  generalize w7.drew = w1 at *
  have hRz : ¬ R = B + 1 := block_ne r1 z1 (by decide)
  have hTz : ¬ TT = B + 1 := by omega
  refine wpAnyH_take (i := 0) (oi := ⟨some 49, _, _, _, _, none⟩) (v := ?_) rfl (by kernel_rfl) (by kernel_rfl) (by kernel_rfl) (fun _ _ _ h => h) (Or.inl ⟨by rfl, ?_⟩) s1 ?_
  rotate_left
  · intro wq hSq
    first | (go_simp; done) | (go_simp; with_reducible rfl)
  try simp only [Act.put, List.setIfInBounds_toArray, List.set_cons_zero, List.set_cons_succ]
  refine wpAnyH_take (i := 1) (oi := ⟨some 50, _, _, _, _, none⟩) (v := ?_) rfl (by kernel_rfl) (by kernel_rfl) (by kernel_rfl) (fun _ _ _ h => h) (Or.inl ⟨by rfl, ?_⟩) s1 ?_
  rotate_left
  · intro wq hSq
    first | (go_simp; done) | (go_simp; with_reducible rfl)
  try simp only [Act.put, List.setIfInBounds_toArray, List.set_cons_zero, List.set_cons_succ]
  refine wpAnyH_take (i := 2) (oi := ⟨some 51, _, _, _, _, none⟩) (v := ?_) rfl (by kernel_rfl) (by kernel_rfl) (by kernel_rfl) (fun _ _ _ h => h) (Or.inl ⟨by rfl, ?_⟩) s1 ?_
  rotate_left
  · intro wq hSq
    first | (go_simp; done) | (go_simp; with_reducible rfl)
  try simp only [Act.put, List.setIfInBounds_toArray, List.set_cons_zero, List.set_cons_succ]
  refine wpAnyH_take (i := 3) (oi := ⟨some 4, _, _, _, _, none⟩) (v := ?_) rfl (by kernel_rfl) (by kernel_rfl) (by kernel_rfl) (fun _ _ _ h => h) (Or.inl ⟨by rfl, ?_⟩) s1 ?_
  rotate_left
  · intro wq hSq
    first | (go_simp; done) | (go_simp; with_reducible rfl)
  try simp only [Act.put, List.setIfInBounds_toArray, List.set_cons_zero, List.set_cons_succ]
  refine wpAnyH_ready (rs := [4]) (by kernel_rfl) (by simp) ?_
  refine AllReadyH.cons rfl (fun K hK => ?_) AllReadyH.nil
  go_simp
  have s3 : (World.onObj w1 (B + 1) (laidAt 0 (layC p2))).heap[TT]? = some (.cells (layC p2) 72 (0, 0)) := by rw [heap_onObj, if_neg hTz]; exact s1
  have z3 : (World.onObj w1 (B + 1) (laidAt 0 (layC p2))).heap[B + 1]? = some (.cells (layC p2) 72 (0, 0)) := by rw [heap_onObj, if_pos rfl, z1, Option.map_some, laidAt_lay]
  have r3 := (onObj_other (w := w1) (F := B + 1) (laidAt 0 (layC p2)) hRz).trans r1
  have C3 : Ch [] w (World.onObj w1 (B + 1) (laidAt 0 (layC p2))) := C1.onObj (.inr (by omega)) _
  refine hK.out _ _ s3 (fun _ => ?_)
  clear hK K s1 z1 r1 C1
  generalize (World.onObj w1 (B + 1) (laidAt 0 (layC p2))) = w3 at *
  refine wpAnyH_take (i := 5) (oi := ⟨some 6, _, _, _, _, none⟩) (v := ?_) rfl (by kernel_rfl) (by kernel_rfl) (by kernel_rfl) (fun _ _ _ h => h) (Or.inl ⟨by rfl, ?_⟩) s3 ?_
  rotate_left
  · intro wq hSq
    first | (go_simp; done) | (go_simp; with_reducible rfl)
  try simp only [Act.put, List.setIfInBounds_toArray, List.set_cons_zero, List.set_cons_succ]
  refine wpAnyH_done (by kernel_rfl) ?_ _
  go_wp2
  exact bodyPost_ret (lstep_results Tryz.results63 _ (B + 1) _ p2 _ _ rfl rfl rfl z3) rfl ⟨R, rfl, hRw, r3, C3⟩
end Go.Proofs.Hc
set_option linter.unusedSimpArgs false
set_option linter.unusedVariables false
namespace Go.Proofs.Hc
open Go.RowKit
variable {me : Int}
attribute [local go_sem] wrap_u64 wrap_u8 bits_xor64 bits_and64 bits_or64 bits_not64 bits_xor8 bits_and8 bits_or8 signed64 signed8 ofInt_N BitVec.ofInt_add BitVec.ofInt_mul ofInt_sub' ofInt8_N64 ofInt64_N8 wide8 eqN neN shr_pow shr1 shr7 shr56
attribute [local go_sem high] bits_com64 shl_wrap
attribute [local go_sem] cell_heap ice_heap cellAt_cells iceAt_cells setAt_cells rowAt_cells canLay_cells laidAt_cells size_onObj size_setCell rowRes_some layRes_true
attribute [local go_sem] load26 load73 load23 store26 build73
attribute [local go_sem ↓] lrow26 lrow73 lrow23 srow26 zero26 brow73 heap_alloc heap_drew heap_drewN heap_setCell heap_onObj
attribute [local go_sem] tcells_size hcells_size tcells_get hcells_get tcells_one hcells_one hcells_table tcells_table hcells_all hcells_ctrl tcells_ctrl
attribute [local go_sem] nn2 nm2 nn3 nm3 nn4 nm4 nn5 nm5 nn6 nm6 nn7 nm7 nn8 nm8
attribute [local go_sem] nn2 nm2 nn3 nm3 nn4 nm4 nn5 nm5 nn6 nm6 nn7 nm7 nn8 nm8
attribute [local go_sem] acc_g0 acc_g1 acc_g2 acc_g4 acc_s0 acc_s1 acc_s2 acc_s4 accC_size accC_one accC_all loadAcc storeAcc bacc0 bacc2 bacc3 bacc3u bacc4
attribute [local go_sem ↓] lrowAcc srowAcc browAcc zeroAcc_run
attribute [local go_sem high] laidAt_acc
attribute [local go_sem] loadAcs storeAcs buildAcs boxAcs boxAcc meth_load meth_swap
attribute [local go_sem ↓] lrowAcs srowAcs browAcs zeroAcs_run
attribute [local go_sem] seenC_size seenC_one seenC_all seenC_g0 loadSeen storeSeen buildSeen buildSeen0
attribute [local go_sem ↓] lrowSeen srowSeen browSeen zeroSeen_run
attribute [local go_sem high] laidAt_seen
attribute [local irreducible] seenC
attribute [local go_sem] Oper.semAt_some make_func1 ofInt_N
attribute [local irreducible] accC
set_option maxHeartbeats 2000000 in
set_option maxRecDepth 100000 in
theorem Do_bad (hm0 : 0 ≤ me) (hm7 : me < 8) (k : Int) (a d : Int) (n g c : Nat) (w : World) (hk : 1 ≤ k) (hk4 : k ≤ 4) (ha : (n : Int) ≤ a) (hn1 : 1 ≤ n) (hl : n ≤ 8192) :
    Calls Tryz.prog 118 #[.slice (some ⟨g, 0, none⟩) n c, .agg (accC me k a d)] w fun e w' => e = .returned (.tuple #[.slice none 0 0, .agg (seenC 0 false), I 2]) ∧ Ch [] w w' := by
  have K1 := fun w => cCheck_at hm0 hm7 k a n d hk hk4 (by omega) ha (by omega) (by omega) w
  have C0 : Ch [] w (World.onObj (((w.alloc (.cells (accC me k a d) 87)).alloc (.cells (seenC 0 false) 93)).alloc (.cells (accC 0 0 0 0) 264)) (w.heap.size + 1 + 1) (laidAt 0 (accC me k a d))) := ((((Ch.refl [] w).alloc _).alloc _).alloc _).onObj (p := w.heap.size + 1 + 1) (.inr (by omega)) _
  have z0 : (World.onObj (((w.alloc (.cells (accC me k a d) 87)).alloc (.cells (seenC 0 false) 93)).alloc (.cells (accC 0 0 0 0) 264)) (w.heap.size + 1 + 1) (laidAt 0 (accC me k a d))).heap[w.heap.size + 1]? = some (.cells (seenC 0 false) 93 (0, 0)) := by
    rw [heap_onObj, if_neg (by omega), heap_alloc, if_neg (by simp), heap_alloc, if_pos (by simp)]
  clear hk hk4 ha hn1 hl
  go_enter Tryz.func118, Tryz.ntmps118
  go_wp2_with fail
  generalize World.onObj (((w.alloc (.cells (accC me k a d) 87)).alloc (.cells (seenC 0 false) 93)).alloc (.cells (accC 0 0 0 0) 264)) (w.heap.size + 1 + 1) (laidAt 0 (accC me k a d)) = W0 at *
  refine (K1 _).mono ?_
  rintro e w1 ⟨rfl, hc1⟩
  have z1 := hkeep hc1 z0
  have C1 := C0.trans hc1
  go_wp2
  refine bodyPost_ret (do_results Tryz.results118 _ (w.heap.size + 1) _ 0 false _ _ rfl rfl rfl ?_) rfl ⟨rfl, C1.onObj (p := w.heap.size + 1) (.inr (by omega)) _⟩
  simp [go_sem, z1]
/-- A row that the call made, at a block of its own. -/
def RowAt_ (w0 w : World) (R : Nat) (l : List (BitVec 64)) : Prop := w0.heap.size ≤ R ∧ w.heap[R]? = some (.cells (wcells l) 22 (0, 0))
/-- The answer of Do. -/
def DoPost (w : World) (l : List (BitVec 64)) (a : AccT) (e : Ending) (w' : World) : Prop :=
  match doP l a with
  | none => e = .returned (.tuple #[.slice none 0 0, .agg (seenC 0 false), I 2]) ∧ Ch [] w w'
  | some y => ∃ R, e = .returned (.tuple #[.slice (some ⟨R, 0, none⟩) l.length l.length, .agg (seenC (N y.2) true), I 0]) ∧ RowAt_ w w' R y.1 ∧ y.1.length = l.length ∧ Ch [] w w'
theorem Do_who (hm0 : 0 ≤ me) (hm7 : me < 8) (l : List (BitVec 64)) (a : AccT) (g c : Nat) (cur : Array Value) (w : World) (hk : a.kind = 1 ∨ a.kind = 2 ∨ a.kind = 4) (ha : 0 ≤ a.at_) (h1 : 1 ≤ l.length) (hl : l.length ≤ 8192)
    (hb : w.heap[g]? = some (.cells cur 22 (0, 0))) (hw : WordsAt cur l) :
    Calls Tryz.prog 118 #[.slice (some ⟨g, 0, none⟩) l.length c, .agg (accC me a.kind a.at_ (N a.new))] w (DoPost w l a) := by
  obtain ⟨kd, at_, new⟩ := a
  simp only at hk ha ⊢
  obtain ⟨j, rfl⟩ := Int.eq_ofNat_of_zero_le ha
  rcases Nat.lt_or_ge j l.length with hj | hj
  · obtain ⟨x, hx⟩ : ∃ x, l[j]? = some x := ⟨l[j]'hj, List.getElem?_eq_getElem hj⟩
    have key : ∀ (k : Nat) (z : BitVec 64), kd = (k : Int) → 1 ≤ k → k ≤ 4 → (doP l ⟨kd, (j : Int), new⟩ = some (l.set j z, x)) →
        (∀ (r : Nat) (w : World), w.heap[r]? = some (.cells (wcells l) 22 (0, 0)) → Calls Tryz.prog 185 #[.agg (accC me k j (N new)), .iface 268 (.agg #[.slice (some ⟨r, j, none⟩) 1 1])] w (DoesPost w r j (wcells l) x z)) →
        Calls Tryz.prog 118 #[.slice (some ⟨g, 0, none⟩) l.length c, .agg (accC me kd j (N new))] w (DoPost w l ⟨kd, (j : Int), new⟩) := by
      intro k z hkd h1k h4k hd hX
      subst hkd
      refine (Do_core hm0 hm7 k j (N new) x z l g c cur w h1k h4k hj hl hx hb hw hX).mono ?_
      rintro e w' ⟨R, rfl, hR, hRow, hC⟩
      unfold DoPost
      rw [hd]
      exact ⟨R, rfl, ⟨hR, hRow⟩, by simp, hC⟩
    have hset : l.set j x = l := by
      apply List.ext_getElem?
      intro i
      rw [List.getElem?_set]
      by_cases h : j = i
      · subst h; rw [if_pos rfl, if_pos hj, hx]
      · rw [if_neg h]
    rcases hk with rfl | rfl | rfl
    · refine key 1 x rfl (by omega) (by omega) ?_ (fun r w h => does_1 j (N new) x r j (wcells l) w h (wcells_at l j x hx))
      simp [doP, hx, hset]
    · refine key 2 new rfl (by omega) (by omega) ?_ (fun r w h => does_2 j new x r j (wcells l) w h (wcells_at l j x hx))
      simp [doP, hx]
    · refine key 4 (x + new) rfl (by omega) (by omega) ?_ (fun r w h => does_4 j new x r j (wcells l) w h (wcells_at l j x hx))
      simp [doP, hx]
  · refine (Do_bad hm0 hm7 kd j (N new) l.length g c w (by omega) (by omega) (by omega) h1 hl).mono ?_
    rintro e w' ⟨rfl, hC⟩
    unfold DoPost
    have hd : doP l ⟨kd, (j : Int), new⟩ = none := by
      simp [doP, List.getElem?_eq_none hj]
    rw [hd]
    exact ⟨rfl, hC⟩
end Go.Proofs.Hc
/- Package rehash: Step, as a model; a run with its accesses. -/
namespace Go.Proofs.Hc
open Go.RowKit
set_option linter.unusedVariables false
/-- What Step answers at a row of words. -/
def StepLPost (w : World) (l : List (BitVec 64)) (p : LayT) (e : Ending) (w' : World) : Prop :=
  match stepL l p with
  | none => e = .returned (.tuple #[.slice none 0 0, .agg (layC zeroLay), I 2]) ∧ Ch [] w w'
  | some y => ∃ R, e = .returned (.tuple #[.slice (some ⟨R, 0, none⟩) y.1.length y.1.length, .agg (layC y.2), I 0]) ∧ RowAt_ w w' R y.1 ∧ y.1.length = l.length ∧ Ch [] w w'
theorem doP_lenL {l : List (BitVec 64)} {a : AccT} {y : List (BitVec 64) × BitVec 64} (hd : doP l a = some y) : y.1.length = l.length := by
  unfold doP at hd
  split at hd
  · cases hd
  · have hd := Option.some.inj hd
    subst hd
    dsimp only
    split
    · rfl
    · split <;> simp
theorem lStep_any (l : List (BitVec 64)) (g c : Nat) (cur : Array Value) (p : LayT) (w : World) (h1 : 1 ≤ l.length) (hl : l.length ≤ 8192) (hb : w.heap[g]? = some (.cells cur 22 (0, 0))) (hw : WordsAt cur l) (hr : rightL p = true) :
    Calls Tryz.prog 63 #[.slice (some ⟨g, 0, none⟩) l.length c, .agg (layC p)] w (StepLPost w l p) := by
  cases hn : needL p with
  | none =>
    refine (lStep_over l g c cur p hr hn w h1 hl hb hw).mono ?_
    rintro e w' ⟨R, rfl, hR, hrow, hC⟩
    unfold StepLPost stepL
    rw [hn]
    exact ⟨R, rfl, ⟨hR, hrow⟩, rfl, hC⟩
  | some a =>
    have hac := needL_acc hn
    have R := (rightL_iff p).1 hr
    have N1 : ∀ w, Calls Tryz.prog 58 #[.agg (layC p)] w fun e w' => e = .returned (.tuple #[.agg (accC p.who a.kind a.at_ (N a.new)), .bool true]) ∧ Ch [] w w' := fun w => by
      have := lNeed_any p w
      rw [hn, needLV] at this
      exact this
    have D1 : ∀ w, w.heap[g]? = some (.cells cur 22 (0, 0)) → Calls Tryz.prog 118 #[.slice (some ⟨g, 0, none⟩) l.length c, .agg (accC p.who a.kind a.at_ (N a.new))] w (DoPost w l a) := fun w h => Do_who R.who0 R.who7 l a g c cur w hac.1 hac.2.1 h1 hl h hw
    cases hd : doP l a with
    | none =>
      have D2 : ∀ w, w.heap[g]? = some (.cells cur 22 (0, 0)) → Calls Tryz.prog 118 #[.slice (some ⟨g, 0, none⟩) l.length c, .agg (accC p.who a.kind a.at_ (N a.new))] w fun e w' => e = .returned (.tuple #[.slice none 0 0, .agg (seenC 0 false), I 2]) ∧ Ch [] w w' := fun w h => (D1 w h).mono fun e w' hh => by unfold DoPost at hh; rw [hd] at hh; exact hh
      refine (lStep_out l.length g c cur p a.kind a.at_ (N a.new) hr N1 D2 w h1 hl hb).mono ?_
      rintro e w' ⟨rfl, hC⟩
      unfold StepLPost stepL
      rw [hn]
      dsimp only
      rw [hd]
      exact ⟨rfl, hC⟩
    | some y =>
      have hyl := doP_lenL hd
      have D2 : ∀ w, w.heap[g]? = some (.cells cur 22 (0, 0)) → Calls Tryz.prog 118 #[.slice (some ⟨g, 0, none⟩) l.length c, .agg (accC p.who a.kind a.at_ (N a.new))] w fun e w' => ∃ Rr, e = .returned (.tuple #[.slice (some ⟨Rr, 0, none⟩) l.length l.length, .agg (seenC (N y.2) true), I 0]) ∧ w.heap.size ≤ Rr ∧ w'.heap[Rr]? = some (.cells (wcells y.1) 22 (0, 0)) ∧ Ch [] w w' := fun w h => (D1 w h).mono fun e w' hh => by
        unfold DoPost at hh
        rw [hd] at hh
        obtain ⟨Rr, he, hrow, _, hC⟩ := hh
        exact ⟨Rr, he, hrow.1, hrow.2, hC⟩
      have hp := needL_some hn
      refine (lStep_go l.length g c cur p (wcells y.1) (takeL p y.2) a.kind a.at_ (N a.new) y.2 hr N1 D2 (fun w => lTake_yes p hr hp.2 y.2 true w) w h1 hl hb).mono ?_
      rintro e w' ⟨R, rfl, hR, hrow, hC⟩
      unfold StepLPost stepL
      rw [hn]
      dsimp only
      rw [hd]
      exact ⟨R, by rw [hyl], ⟨hR, hrow⟩, hyl, hC⟩
/-- A whole run, with its accesses. -/
inductive RunsX : List (BitVec 64) → LayT → List AccT → List (BitVec 64) → LayT → Prop
  | done {l p} : 4 < p.ph → RunsX l p [] l p
  | step {l p a y xs l' p'} : p.ph ≤ 4 → rightL p = true → needL p = some a → doP l a = some y → RunsX y.1 (takeL p y.2) xs l' p' → RunsX l p (a :: xs) l' p'
theorem RunsX.inv {l l' : List (BitVec 64)} {p p' : LayT} {xs : List AccT} (h : RunsX l p xs l' p') :
    (4 < p.ph ∧ xs = [] ∧ l' = l ∧ p' = p) ∨ ∃ a y xs', xs = a :: xs' ∧ p.ph ≤ 4 ∧ rightL p = true ∧ needL p = some a ∧ doP l a = some y ∧ RunsX y.1 (takeL p y.2) xs' l' p' := by
  cases h with
  | done h => exact .inl ⟨h, rfl, rfl, rfl⟩
  | step h4 hr ha hy hx => exact .inr ⟨_, _, _, rfl, h4, hr, ha, hy, hx⟩
/-- What an access of one who lays does to a row, and where. -/
theorem needL_row {l : List (BitVec 64)} {p : LayT} {a : AccT} {y : List (BitVec 64) × BitVec 64} (ha : needL p = some a) (hy : doP l a = some y) :
    ∃ j : Nat, a.at_ = (j : Int) ∧ j < l.length ∧ l[j]? = some y.2 ∧ (a.kind = 1 ∧ y.1 = l ∨ a.kind = 2 ∧ y.1 = l.set j a.new) := by
  obtain ⟨j, hj⟩ := Int.eq_ofNat_of_zero_le (needL_acc ha).2.1
  have hk : a.kind = 1 ∨ a.kind = 2 := by
    have h := ha
    obtain ⟨hr, h4⟩ := needL_some ha
    unfold needL at h
    rw [if_pos (by simp [hr, h4])] at h
    have h := Option.some.inj h
    rw [← h]
    by_cases h : p.ph = 0 ∨ p.ph = 2
    · left; exact if_pos h
    · right; exact if_neg h
  unfold doP at hy
  have e : a.at_.toNat = j := by omega
  rw [e] at hy
  split at hy
  · cases hy
  · rename_i w hw
    have hy := Option.some.inj hy
    subst hy
    refine ⟨j, hj, (List.getElem?_eq_some_iff.1 hw).1, hw, ?_⟩
    rcases hk with h | h
    · exact .inl ⟨h, if_pos h⟩
    · refine .inr ⟨h, ?_⟩
      show (if a.kind = 1 then _ else _) = _
      rw [if_neg (by omega), if_pos h]
theorem runsX_of {l l' : List (BitVec 64)} {p p' : LayT} {k : Nat} (h : RunsL l p k l' p') : ∃ xs, xs.length = k ∧ RunsX l p xs l' p' := by
  induction h with
  | done h => exact ⟨[], rfl, .done h⟩
  | step h4 hr ha hy _ ih =>
    obtain ⟨xs, hl, hx⟩ := ih
    exact ⟨_ :: xs, by rw [List.length_cons, hl], .step h4 hr ha hy hx⟩
theorem RunsX.who {l l' : List (BitVec 64)} {p p' : LayT} {xs : List AccT} (h : RunsX l p xs l' p') : p'.who = p.who := by
  induction h with
  | done h => rfl
  | step h4 hr ha hy _ ih => rw [ih, takeL_who]
theorem RunsX.len {l l' : List (BitVec 64)} {p p' : LayT} {xs : List AccT} (h : RunsX l p xs l' p') : l'.length = l.length := by
  induction h with
  | done h => rfl
  | step h4 hr ha hy _ ih => rw [ih, doP_lenL hy]
end Go.Proofs.Hc
set_option linter.unusedSimpArgs false
set_option linter.unusedVariables false
namespace Go.Proofs.Hc
open Go.RowKit
set_option linter.unusedVariables false
attribute [local go_sem] wrap_u64 wrap_u8 bits_xor64 bits_and64 bits_or64 bits_not64 bits_xor8 bits_and8 bits_or8 signed64 signed8 ofInt_N BitVec.ofInt_add BitVec.ofInt_mul ofInt_sub' ofInt8_N64 ofInt64_N8 wide8 eqN neN shr_pow shr1 shr7 shr56
attribute [local go_sem high] bits_com64 shl_wrap
attribute [local go_sem] cell_heap ice_heap cellAt_cells iceAt_cells setAt_cells rowAt_cells canLay_cells laidAt_cells size_onObj size_setCell rowRes_some layRes_true
attribute [local go_sem] load26 load73 load23 store26 build73
attribute [local go_sem ↓] lrow26 lrow73 lrow23 srow26 zero26 brow73 heap_alloc heap_drew heap_drewN heap_setCell heap_onObj
attribute [local go_sem] tcells_size hcells_size tcells_get hcells_get tcells_one hcells_one hcells_table tcells_table hcells_all hcells_ctrl tcells_ctrl
attribute [local go_sem] nn2 nm2 nn3 nm3 nn4 nm4 nn5 nm5 nn6 nm6 nn7 nm7 nn8 nm8
attribute [local go_sem] nn2 nm2 nn3 nm3 nn4 nm4 nn5 nm5 nn6 nm6 nn7 nm7 nn8 nm8
attribute [local go_sem] acc_g0 acc_g1 acc_g2 acc_g4 acc_s0 acc_s1 acc_s2 acc_s4 accC_size accC_one accC_all loadAcc storeAcc bacc0 bacc2 bacc3 bacc3u bacc4
attribute [local go_sem ↓] lrowAcc srowAcc browAcc zeroAcc_run
attribute [local go_sem high] laidAt_acc
attribute [local go_sem] seenC_size seenC_one seenC_all seenC_g0 loadSeen storeSeen buildSeen buildSeen0
attribute [local go_sem ↓] lrowSeen srowSeen browSeen zeroSeen_run
attribute [local go_sem high] laidAt_seen
attribute [local irreducible] seenC
attribute [local go_sem] ofInt_N ofInt_pow8
attribute [local go_sem] Oper.semAt_some make_func1
attribute [local go_sem] layC_idx lcell0 lcell1 lcell2 lcell3 lcell4 lcell5 lcell46
attribute [local go_sem] lay_g0 lay_g1 lay_g2 lay_g3 lay_g4 lay_g5 lay_g46 lay_s0 lay_s4 lay_s5 lay_s46 layC_size layC_one layC_all layC_ws boxLay loadLay storeLay build_lay box_lay buildLay0 buildLay2 buildLay3
attribute [local go_sem ↓] lrowLay srowLay browLay brow_lay zeroLay_run
attribute [local go_sem high] laidAt_lay
attribute [local irreducible] layC
attribute [local irreducible] accC
attribute [local go_sem] boxSeen
set_option maxHeartbeats 1000000 in
set_option maxRecDepth 100000 in
theorem lAccesses_any (S : Nat) (v : Value) (hv : v.oneCell' = true) (w : World) (hS : S < w.heap.size) : Calls Tryz.prog 103 #[.pointer (some ⟨S, 0, none⟩), v] w fun e w' =>
    ∃ q1 q2 q3, e = .returned (.func (.func 161) #[] #[.pointer (some ⟨q1, 0, none⟩), .pointer (some ⟨q2, 0, none⟩), .pointer (some ⟨q3, 0, none⟩)]) ∧
      w'.heap[q1]? = some (.cells #[.pointer (some ⟨S, 0, none⟩)] 161 (0, 0)) ∧ w'.heap[q2]? = some (.cells #[v] 44 (0, 0)) ∧ w'.heap[q3]? = some (.cells #[.func (.func 160) #[] #[.pointer (some ⟨q1, 0, none⟩)]] 241 (0, 0)) ∧ w.heap.size ≤ q1 ∧ w.heap.size ≤ q2 ∧ w.heap.size ≤ q3 ∧ Ch [] w w' := by
  go_enter Tryz.func103, Tryz.ntmps103
  go_wp2
  go_ret
  refine ⟨w.heap.size, w.heap.size + 1, w.heap.size + 1 + 1, rfl, ?_, ?_, ?_, by omega, by omega, by omega, ?_⟩
  · simp [go_sem]
  · simp [go_sem]
  · simp [go_sem]
  · exact (((Ch.refl [] w).alloc _).alloc _).alloc _
set_option maxHeartbeats 1000000 in
set_option maxRecDepth 100000 in
theorem lTakes_any (p : LayT) (S q : Nat) (x : BitVec 64) (b : Bool) (hr : rightL p = true) (h4 : p.ph ≤ 4) (w : World) (hS : w.heap[S]? = some (.cells (layC p) 163 (0, 0))) (hq : w.heap[q]? = some (.cells #[.pointer (some ⟨S, 0, none⟩)] 161 (0, 0))) :
    Calls Tryz.prog 160 #[.agg (seenC (N x) b), .pointer (some ⟨q, 0, none⟩)] w fun e w' => e = .returned (.tuple #[]) ∧ w'.heap[S]? = some (.cells (layC (takeL p x)) 163 (0, 0)) ∧ Ch [S] w w' := by
  have T1 := fun w => lTake_yes p hr h4 x b w
  obtain ⟨r, hrr⟩ : ∃ r, takeL p x = r := ⟨_, rfl⟩
  rw [hrr] at T1 ⊢
  clear hrr hr h4
  have C0 : Ch [S] w (w.alloc (.cells (seenC (N x) b) 93)) := (Ch.refl [S] w).alloc _
  have hc0 : Ch [] w (w.alloc (.cells (seenC (N x) b) 93)) := (Ch.refl [] w).alloc _
  have y0 : (w.alloc (.cells (seenC (N x) b) 93)).heap[w.heap.size]? = some (.cells (seenC (N x) b) 93 (0, 0)) := by rw [heap_alloc, if_pos rfl]
  have s0 := hkeep hc0 hS
  have q0 := hkeep hc0 hq
  have hSn : ¬ S = w.heap.size := by have := (Array.getElem?_eq_some_iff.1 hS).1; omega
  have hqS : ¬ q = S := block_ne hq hS (by decide)
  clear hS hq hc0
  go_enter Tryz.func160, Tryz.ntmps160
  go_upto_region 1 with (fail)
  generalize w.alloc (.cells (seenC (N x) b) 93) = W0 at *
  generalize w.heap.size = B at *
  have hBS : ¬ B = S := fun e => hSn e.symm
  have s2 : (fun W' : World => W'.heap[q]? = some (.cells #[.pointer (some ⟨S, 0, none⟩)] 161 (0, 0)) ∧ W'.heap[B]? = some (.cells (seenC (N x) b) 93 (0, 0))) W0.drew := ⟨q0, y0⟩
  have g2 : W0.drew.heap[S]? = some (.cells (layC p) 163 (0, 0)) := s0
  have C2 : Ch [S] w W0.drew := C0.drew
  refine wp_region_held_drew (S := fun W' => W'.heap[q]? = some (.cells #[.pointer (some ⟨S, 0, none⟩)] 161 (0, 0)) ∧ W'.heap[B]? = some (.cells (seenC (N x) b) 93 (0, 0))) (by kernel_rfl) s2 ?_
  intro _
  simp only [List.size_toArray, List.length_cons, List.length_nil, Nat.reduceAdd]
  clear s0 q0 y0 C0
  generalize W0.drew = w2 at *
  refine wpAnyH_take (i := 0) (oi := ⟨some 4, _, _, _, _, none⟩) (v := ?_) rfl (by kernel_rfl) (by kernel_rfl) (by kernel_rfl) (fun _ _ _ h => h) (Or.inl ⟨by rfl, ?_⟩) s2 ?_
  rotate_left
  · intro wq hSq
    obtain ⟨hSa, hSb⟩ := hSq
    first | (go_simp; done) | (go_simp; with_reducible rfl)
  try simp only [Act.put, List.setIfInBounds_toArray, List.set_cons_zero, List.set_cons_succ]
  refine wpAnyH_take (i := 1) (oi := ⟨some 5, _, _, _, _, none⟩) (v := ?_) rfl (by kernel_rfl) (by kernel_rfl) (by kernel_rfl) (fun _ _ _ h => h) (Or.inl ⟨by rfl, ?_⟩) s2 ?_
  rotate_left
  · intro wq hSq
    obtain ⟨hSa, hSb⟩ := hSq
    first | (go_simp; done) | (go_simp; with_reducible rfl)
  try simp only [Act.put, List.setIfInBounds_toArray, List.set_cons_zero, List.set_cons_succ]
  refine wpAnyH_take (i := 2) (oi := ⟨some 6, _, _, _, _, none⟩) (v := ?_) rfl (by kernel_rfl) (by kernel_rfl) (by kernel_rfl) (fun _ _ _ h => h) (Or.inl ⟨by rfl, ?_⟩) s2 ?_
  rotate_left
  · intro wq hSq
    obtain ⟨hSa, hSb⟩ := hSq
    first | (go_simp; done) | (go_simp; with_reducible rfl)
  try simp only [Act.put, List.setIfInBounds_toArray, List.set_cons_zero, List.set_cons_succ]
  refine wpAnyH_take (i := 3) (oi := ⟨some 7, _, _, _, _, none⟩) (v := ?_) rfl (by kernel_rfl) (by kernel_rfl) (by kernel_rfl) (fun _ _ _ h => h) (Or.inl ⟨by rfl, ?_⟩) s2 ?_
  rotate_left
  · intro wq hSq
    obtain ⟨hSa, hSb⟩ := hSq
    first | (go_simp; done) | (go_simp; with_reducible rfl)
  try simp only [Act.put, List.setIfInBounds_toArray, List.set_cons_zero, List.set_cons_succ]
  refine wpAnyH_take (i := 5) (oi := ⟨some 9, _, _, _, _, none⟩) (v := ?_) rfl (by kernel_rfl) (by kernel_rfl) (by kernel_rfl) (fun _ _ _ h => h) (Or.inl ⟨by rfl, ?_⟩) s2 ?_
  rotate_left
  · intro wq hSq
    obtain ⟨hSa, hSb⟩ := hSq
    first | (go_simp; done) | (go_simp; with_reducible rfl)
  try simp only [Act.put, List.setIfInBounds_toArray, List.set_cons_zero, List.set_cons_succ]
  refine wpAnyH_ready (rs := [4]) (by kernel_rfl) (by simp) ?_
  refine AllReadyH.cons (o := ⟨some 8, _, _, _, _, none⟩) rfl (fun K hK => ?_) AllReadyH.nil
  go_simp
  refine hK.out _ _ s2 (fun _ => ?_)
  clear hK K
  refine wpAnyH_ready (rs := [6]) (by kernel_rfl) (by simp) ?_
  refine AllReadyH.cons (o := ⟨some 10, _, _, _, _, none⟩) rfl (fun K hK => ?_) AllReadyH.nil
  go_simp
  refine (T1 _).mono ?_
  rintro e w3 ⟨rfl, hc3⟩
  have s3 : w3.heap[q]? = some (.cells #[.pointer (some ⟨S, 0, none⟩)] 161 (0, 0)) ∧ w3.heap[B]? = some (.cells (seenC (N x) b) 93 (0, 0)) := ⟨hkeep hc3 s2.1, hkeep hc3 s2.2⟩
  have g3 := hkeep hc3 g2
  have C3 := C2.trans hc3.of_nil
  refine hK.out _ _ s3 (fun _ => ?_)
  clear hK K hc3 s2 g2 C2 T1
  refine wpAnyH_take (i := 7) (oi := ⟨some 3, _, _, _, _, none⟩) (v := ?_) rfl (by kernel_rfl) (by kernel_rfl) (by kernel_rfl) (fun _ _ _ h => h) (Or.inl ⟨by rfl, ?_⟩) s3 ?_
  rotate_left
  · intro wq hSq
    first | (go_simp; done) | (go_simp; with_reducible rfl)
  try simp only [Act.put, List.setIfInBounds_toArray, List.set_cons_zero, List.set_cons_succ]
  refine wpAnyH_take (i := 8) (oi := ⟨some 11, _, _, _, _, none⟩) (v := ?_) rfl (by kernel_rfl) (by kernel_rfl) (by kernel_rfl) (fun _ _ _ h => h) (Or.inl ⟨by rfl, ?_⟩) s3 ?_
  rotate_left
  · intro wq hSq
    first | (go_simp; done) | (go_simp; with_reducible rfl)
  try simp only [Act.put, List.setIfInBounds_toArray, List.set_cons_zero, List.set_cons_succ]
  refine wpAnyH_take (i := 9) (oi := ⟨some 12, _, _, _, _, none⟩) (v := ?_) rfl (by kernel_rfl) (by kernel_rfl) (by kernel_rfl) (fun _ _ _ h => h) (Or.inl ⟨by rfl, ?_⟩) s3 ?_
  rotate_left
  · intro wq hSq
    first | (go_simp; done) | (go_simp; with_reducible rfl)
  try simp only [Act.put, List.setIfInBounds_toArray, List.set_cons_zero, List.set_cons_succ]
  refine wpAnyH_take (i := 10) (oi := ⟨some 13, _, _, _, _, none⟩) (v := ?_) rfl (by kernel_rfl) (by kernel_rfl) (by kernel_rfl) (fun _ _ _ h => h) (Or.inl ⟨by rfl, ?_⟩) s3 ?_
  rotate_left
  · intro wq hSq
    first | (go_simp; done) | (go_simp; with_reducible rfl)
  try simp only [Act.put, List.setIfInBounds_toArray, List.set_cons_zero, List.set_cons_succ]
  refine wpAnyH_take (i := 11) (oi := ⟨some 14, _, _, _, _, none⟩) (v := ?_) rfl (by kernel_rfl) (by kernel_rfl) (by kernel_rfl) (fun _ _ _ h => h) (Or.inl ⟨by rfl, ?_⟩) s3 ?_
  rotate_left
  · intro wq hSq
    first | (go_simp; done) | (go_simp; with_reducible rfl)
  try simp only [Act.put, List.setIfInBounds_toArray, List.set_cons_zero, List.set_cons_succ]
  refine wpAnyH_ready (rs := [12]) (by kernel_rfl) (by simp) ?_
  refine AllReadyH.cons rfl (fun K hK => ?_) AllReadyH.nil
  go_simp
  have g4 : (World.onObj w3 S (laidAt 0 (layC r))).heap[S]? = some (.cells (layC r) 163 (0, 0)) := by rw [heap_onObj, if_pos rfl, g3, Option.map_some, laidAt_lay]
  have C4 : Ch [S] w (World.onObj w3 S (laidAt 0 (layC r))) := C3.onObj (p := S) (.inl (by simp)) _
  refine hK.out _ _ ⟨?_, ?_⟩ (fun _ => ?_)
  · rw [heap_onObj, if_neg hqS]; exact s3.1
  · rw [heap_onObj, if_neg hBS]; exact s3.2
  clear hK K
  refine wpAnyH_done (by kernel_rfl) ?_ _
  go_wp2
  go_end0
  exact ⟨rfl, g4, C4⟩
/-- How far a run is, as memory says. -/
def runLeft (S : Nat) (w : World) : Nat :=
  match w.heap[S]? with
  | some (.cells cs _ _) => match cs[0]?, cs[5]? with
    | some (Value.int _ a), some (Value.int _ b) => measL { zeroLay with ph := a, at_ := b }
    | _, _ => 0
  | _ => 0
theorem runLeft_eq {S : Nat} {w : World} {p : LayT} {T : TypeId} (h : w.heap[S]? = some (.cells (layC p) T (0, 0))) : runLeft S w = measL p := by
  unfold runLeft
  rw [h]
  dsimp only
  rw [lay_g0, lay_g5]
  rfl
theorem enters_acc2 (args : Array Value) (w : World) : (callFunc 161 args).run Tryz.prog w = .ok (.enter 161 args) w := by kernel_rfl
set_option maxHeartbeats 4000000 in
set_option maxRecDepth 100000 in
theorem acc_yields (l0 l' : List (BitVec 64)) (p0 p' : LayT) (xs : List AccT) (hrun : RunsX l0 p0 xs l' p') (hlen : l0.length ≤ 8192) (hsl : 0 ≤ p0.sl) (Q S q1 q2 q3 : Nat) (w : World)
    (hQ : w.heap[Q]? = some (.cells (wcells l0) 22 (0, 0))) (hS : w.heap[S]? = some (.cells (layC p0) 163 (0, 0))) (h1 : w.heap[q1]? = some (.cells #[.pointer (some ⟨S, 0, none⟩)] 161 (0, 0)))
    (h2 : w.heap[q2]? = some (.cells #[.slice (some ⟨Q, 0, none⟩) l0.length l0.length] 44 (0, 0))) (h3 : w.heap[q3]? = some (.cells #[.func (.func 160) #[] #[.pointer (some ⟨q1, 0, none⟩)]] 241 (0, 0))) :
    YieldsE Tryz.prog 161 #[.pointer (some ⟨q1, 0, none⟩), .pointer (some ⟨q2, 0, none⟩), .pointer (some ⟨q3, 0, none⟩)] (fun a : AccT => #[.agg (accC p0.who a.kind a.at_ (N a.new))]) xs [Q, S] [Q, S, q1, q2, q3] (fun W => W.heap[Q]? = some (.cells (wcells l') 22 (0, 0))) w := by
  intro n l J Jx W O0 hW hk hO hJ hJx hY h0
  have Q0 := (hk Q (by simp)).trans hQ
  have S0 := (hk S (by simp)).trans hS
  have a0 := (hk q1 (by simp)).trans h1
  have b0 := (hk q2 (by simp)).trans h2
  have c0 := (hk q3 (by simp)).trans h3
  clear hQ hS h1 h2 h3 hk hW
  obtain ⟨wh, hwh⟩ : ∃ x, p0.who = x := ⟨_, rfl⟩
  obtain ⟨m, hm⟩ : ∃ m, l0.length = m := ⟨_, rfl⟩
  rw [hwh] at hY
  rw [hm] at b0 hlen
  refine callsIn_of_wp Tryz.func161 rfl trivial ?_
  simp only [Tryz.ntmps161, List.size_toArray, List.length_cons, List.length_nil, Nat.reduceAdd, Nat.reduceSub, Array.replicate_succ, Array.replicate_zero, List.push_toArray, List.append_toArray, List.nil_append, List.cons_append]
  refine wpIn_wide.2 ?_
  apply wp_scope_straight
  refine (wpIn_wide (n := n + 1)).1 ?_
  gi_wp2
  apply wpIn_label
  gi_wp2
  gi_loopw [] (fun wr => ∃ pre post l1 p1 O, xs = pre ++ post ∧ RunsX l1 p1 post l' p' ∧ l1.length = m ∧ p1.who = wh ∧ wr.heap[Q]? = some (.cells (wcells l1) 22 (0, 0)) ∧ wr.heap[S]? = some (.cells (layC p1) 163 (0, 0)) ∧ wr.heap[q1]? = some (.cells #[.pointer (some ⟨S, 0, none⟩)] 161 (0, 0)) ∧ wr.heap[q2]? = some (.cells #[.slice (some ⟨Q, 0, none⟩) m m] 44 (0, 0)) ∧ wr.heap[q3]? = some (.cells #[.func (.func 160) #[] #[.pointer (some ⟨q1, 0, none⟩)]] 241 (0, 0)) ∧ J pre O wr) (fun wr => runLeft S wr)
  case atStart => exact ⟨[], xs, l0, p0, O0, rfl, hrun, hm, hwh, Q0, S0, a0, b0, c0, h0⟩
  case round =>
    obtain ⟨pre, post, l1, p1, O, hx, hr, hl1, hw1, Qr, Sr, ar, br, cr, hj⟩ := hrel
    clear Q0 S0 a0 b0 c0 h0 hrun hm hwh
    have N1 := fun w => lNeed_any p1 w
    have hjN := fun b hb => (hO _ _ _ hj b hb).1
    have hjK := fun b hb => (hO _ _ _ hj b hb).2
    rcases hr.inv with ⟨h4, hpost, hl', hp'⟩ | ⟨⟨kd, at_, nw⟩, ⟨l2, u⟩, xs', hpost, h4, hR, ha, hy, hrest⟩
    · have hnone : needL p1 = none := by
        unfold needL
        rw [if_neg]
        rw [decide_eq_false (by omega), Bool.and_false]; decide
      rw [hnone] at N1
      simp only [needLV] at N1
      have HX := Lib.hid hx
      have HP := Lib.hid hpost
      have HL := Lib.hid hl'
      clear hx hpost hl' hp' hr h4 hnone
      gi_wp2_with (refine ⟨trivial, ?_⟩; gi_at_call 58; refine (inW (N1 _)).mono ?_; rintro e w2 ⟨rfl, hc2⟩)
      refine ⟨(fun f h => by cases h), ?_⟩
      gi_wp2
      rw [Exit.noGoto_normal]
      refine bodyPost_end (results_none rfl _ _ _) rfl ?_
      have hcz := accv_put_ch 0 0 0 0 w2
      have hch := hc2.trans hcz
      refine ⟨⟨_, rfl⟩, .inl ⟨O, ?_, ?_⟩⟩
      · rw [HX.out, HP.out, List.append_nil]; exact hJ _ _ _ _ hj (hch.mono (by simp))
      · rw [HL.out]; exact hkeep hch Qr
    · obtain ⟨j, hje, hjl, hju, hkk⟩ := needL_row ha hy
      dsimp only at hje hjl hju hkk hrest
      subst hje
      rw [ha] at N1
      simp only [needLV, hw1] at N1
      have hjm : j < m := by omega
      have hjmI : (j : Int) < m := by omega
      have hu : (wcells l1)[j]? = some (U u) := wcells_at l1 j u hju
      rcases hkk with ⟨rfl, rfl⟩ | ⟨rfl, rfl⟩
      · gi_wp2_with fail
        refine ⟨trivial, ?_⟩
        gi_at_call 58
        refine (inW (N1 _)).mono ?_
        rintro e w2 ⟨rfl, hc2⟩
        clear N1
        have hcz := accv_put_ch wh 1 (j : Int) (N nw) w2
        have t3 := accv_put wh 1 (j : Int) (N nw) w2
        have hch := hc2.trans hcz
        have hT : wr.heap.size ≤ w2.heap.size := hc2.size
        have Q3 := hkeep hch Qr
        have S3 := hkeep hch Sr
        have a3 := hkeep hch ar
        have b3 := hkeep hch br
        have c3 := hkeep hch cr
        have hj3 := hJ _ _ _ _ hj (hch.mono (by simp))
        obtain ⟨T, hTe⟩ : ∃ T, w2.heap.size = T := ⟨_, rfl⟩
        rw [hTe] at t3 Q3 S3 a3 b3 c3 hj3 hT
        obtain ⟨w3, hw3⟩ : ∃ W, World.onObj (w2.alloc (.cells (accC 0 0 0 0) 87)) T (laidAt 0 (accC wh 1 (j : Int) (N nw))) = W := ⟨_, rfl⟩
        rw [hw3] at t3 Q3 S3 a3 b3 c3 hj3
        clear hcz hch hc2 Qr ar br cr
        obtain ⟨fn, tmps, assign, body, hyl, hRd⟩ := hY pre O ⟨1, (j : Int), nw⟩ xs' w3 (by rw [hx, hpost]) hj3
        have hyl : Sem.run Tryz.prog (Instr.yield l #[.agg (accC wh 1 (j : Int) (N nw))]) w3 = .ok (.round l fn tmps assign body) w3 := hyl
        have hOT : ¬ O T := fun h => by have := hjN T h; omega
        have hl3T := Lib.hid (Array.getElem?_eq_some_iff.1 t3).1
        have hOQ : ¬ O Q := fun h => hjK Q h (by simp)
        have hOS : ¬ O S := fun h => hjK S h (by simp)
        have hO1 : ¬ O q1 := fun h => hjK q1 h (by simp)
        have hO2 : ¬ O q2 := fun h => hjK q2 h (by simp)
        have hO3 : ¬ O q3 := fun h => hjK q3 h (by simp)
        have HX := Lib.hid hx
        have HP := Lib.hid hpost
        have HR := Lib.hid hrest
        have HY2 := Lib.hid hR
        clear hx hpost hrest hR hj hj3 hjN hjK
        gi_wp2
        refine hRd.mono ?_
        clear hyl hRd hw3
        rintro e w4 (⟨rfl, ⟨O', hj4, hO'⟩, hz4, hk4⟩ | ⟨rfl, hJx4⟩)
        · have Q4 := (hk4 Q (blk_lt19 Q3) hOQ).trans Q3
          have S4 := (hk4 S (blk_lt19 S3) hOS).trans S3
          have a4 := (hk4 q1 (blk_lt19 a3) hO1).trans a3
          have b4 := (hk4 q2 (blk_lt19 b3) hO2).trans b3
          have c4 := (hk4 q3 (blk_lt19 c3) hO3).trans c3
          have t4 := (hk4 T (blk_lt19 t3) hOT).trans t3
          clear hk4 hz4 Q3 S3 a3 b3 c3 t3 hl3T hOQ hOS hO1 hO2 hO3 hOT hT hTe
          have hcs := seen_put_ch (N u) true w4
          have y5 := seen_put (N u) true w4
          have Q5 := hkeep hcs Q4
          have S5 := hkeep hcs S4
          have a5 := hkeep hcs a4
          have b5 := hkeep hcs b4
          have c5 := hkeep hcs c4
          have t5 := hkeep hcs t4
          have hj5 := hJ _ _ _ _ hj4 (hcs.mono (by simp))
          have nT : ¬ T = w4.heap.size := by have := blk_lt19 t4; omega
          have nQ : ¬ Q = w4.heap.size := by have := blk_lt19 Q4; omega
          have nS : ¬ S = w4.heap.size := by have := blk_lt19 S4; omega
          have n1 : ¬ q1 = w4.heap.size := by have := blk_lt19 a4; omega
          have n2 : ¬ q2 = w4.heap.size := by have := blk_lt19 b4; omega
          have n3 : ¬ q3 = w4.heap.size := by have := blk_lt19 c4; omega
          obtain ⟨w5, hw5⟩ : ∃ W, World.onObj (w4.alloc (.cells (seenC 0 false) 93)) w4.heap.size (laidAt 0 (seenC (N u) true)) = W := ⟨_, rfl⟩
          rw [hw5] at y5 Q5 S5 a5 b5 c5 t5 hj5
          clear hcs hj4 S4 a4 c4
          have K1 := fun W h1 h2 => lTakes_any p1 S q1 u true HY2.out h4 W h1 h2
          gi_wp2_with fail
          refine ⟨trivial, ?_⟩
          gi_at_call 160
          try rw [hw5]
          refine (inW (K1 _ S5 a5)).mono ?_
          rintro e w7 ⟨rfl, S7, hc7⟩
          have Q7 := (hc7.block Q (blk_lt19 Q5) (by simpa using block_ne Q5 S5 (by decide))).trans Q5
          have a7 := (hc7.block q1 (blk_lt19 a5) (by simpa using block_ne a5 S5 (by decide))).trans a5
          have b7 := (hc7.block q2 (blk_lt19 b5) (by simpa using block_ne b5 S5 (by decide))).trans b5
          have c7 := (hc7.block q3 (blk_lt19 c5) (by simpa using block_ne c5 S5 (by decide))).trans c5
          have hj7 := hJ _ _ _ _ hj5 (hc7.mono (by simp))
          gi_wp2
          go_roundw
          case rel => exact ⟨pre ++ [⟨1, (j : Int), nw⟩], xs', _, takeL p1 u, O', by rw [HX.out, HP.out]; simp, HR.out, hl1, (takeL_who p1 u).trans hw1, Q7, S7, a7, b7, c7, hj7⟩
          case measure =>
            rw [runLeft_eq S7, runLeft_eq Sr]
            exact measL_take ((rightL_iff p1).1 HY2.out) h4 u
        · gi_wp2
          rw [Exit.noGoto_normal]
          refine bodyPost_end (results_none rfl _ _ _) rfl ?_
          exact ⟨⟨_, rfl⟩, .inr hJx4⟩
      · gi_wp2_with fail
        refine ⟨trivial, ?_⟩
        gi_at_call 58
        refine (inW (N1 _)).mono ?_
        rintro e w2 ⟨rfl, hc2⟩
        clear N1
        have hcz := accv_put_ch wh 2 (j : Int) (N nw) w2
        have t3 := accv_put wh 2 (j : Int) (N nw) w2
        have hch := hc2.trans hcz
        have hT : wr.heap.size ≤ w2.heap.size := hc2.size
        have Q3 := hkeep hch Qr
        have S3 := hkeep hch Sr
        have a3 := hkeep hch ar
        have b3 := hkeep hch br
        have c3 := hkeep hch cr
        have hj3 := hJ _ _ _ _ hj (hch.mono (by simp))
        obtain ⟨T, hTe⟩ : ∃ T, w2.heap.size = T := ⟨_, rfl⟩
        rw [hTe] at t3 Q3 S3 a3 b3 c3 hj3 hT
        obtain ⟨w3, hw3⟩ : ∃ W, World.onObj (w2.alloc (.cells (accC 0 0 0 0) 87)) T (laidAt 0 (accC wh 2 (j : Int) (N nw))) = W := ⟨_, rfl⟩
        rw [hw3] at t3 Q3 S3 a3 b3 c3 hj3
        clear hcz hch hc2 Qr ar br cr
        obtain ⟨fn, tmps, assign, body, hyl, hRd⟩ := hY pre O ⟨2, (j : Int), nw⟩ xs' w3 (by rw [hx, hpost]) hj3
        have hyl : Sem.run Tryz.prog (Instr.yield l #[.agg (accC wh 2 (j : Int) (N nw))]) w3 = .ok (.round l fn tmps assign body) w3 := hyl
        have hOT : ¬ O T := fun h => by have := hjN T h; omega
        have hl3T := Lib.hid (Array.getElem?_eq_some_iff.1 t3).1
        have hOQ : ¬ O Q := fun h => hjK Q h (by simp)
        have hOS : ¬ O S := fun h => hjK S h (by simp)
        have hO1 : ¬ O q1 := fun h => hjK q1 h (by simp)
        have hO2 : ¬ O q2 := fun h => hjK q2 h (by simp)
        have hO3 : ¬ O q3 := fun h => hjK q3 h (by simp)
        have HX := Lib.hid hx
        have HP := Lib.hid hpost
        have HR := Lib.hid hrest
        have HY2 := Lib.hid hR
        clear hx hpost hrest hR hj hj3 hjN hjK
        gi_wp2
        refine hRd.mono ?_
        clear hyl hRd hw3
        rintro e w4 (⟨rfl, ⟨O', hj4, hO'⟩, hz4, hk4⟩ | ⟨rfl, hJx4⟩)
        · have Q4 := (hk4 Q (blk_lt19 Q3) hOQ).trans Q3
          have S4 := (hk4 S (blk_lt19 S3) hOS).trans S3
          have a4 := (hk4 q1 (blk_lt19 a3) hO1).trans a3
          have b4 := (hk4 q2 (blk_lt19 b3) hO2).trans b3
          have c4 := (hk4 q3 (blk_lt19 c3) hO3).trans c3
          have t4 := (hk4 T (blk_lt19 t3) hOT).trans t3
          clear hk4 hz4 Q3 S3 a3 b3 c3 t3 hl3T hOQ hOS hO1 hO2 hO3 hOT hT hTe
          have hcs := seen_put_ch (N u) true w4
          have y5 := seen_put (N u) true w4
          have Q5 := hkeep hcs Q4
          have S5 := hkeep hcs S4
          have a5 := hkeep hcs a4
          have b5 := hkeep hcs b4
          have c5 := hkeep hcs c4
          have t5 := hkeep hcs t4
          have hj5 := hJ _ _ _ _ hj4 (hcs.mono (by simp))
          have nT : ¬ T = w4.heap.size := by have := blk_lt19 t4; omega
          have nQ : ¬ Q = w4.heap.size := by have := blk_lt19 Q4; omega
          have nS : ¬ S = w4.heap.size := by have := blk_lt19 S4; omega
          have n1 : ¬ q1 = w4.heap.size := by have := blk_lt19 a4; omega
          have n2 : ¬ q2 = w4.heap.size := by have := blk_lt19 b4; omega
          have n3 : ¬ q3 = w4.heap.size := by have := blk_lt19 c4; omega
          obtain ⟨w5, hw5⟩ : ∃ W, World.onObj (w4.alloc (.cells (seenC 0 false) 93)) w4.heap.size (laidAt 0 (seenC (N u) true)) = W := ⟨_, rfl⟩
          rw [hw5] at y5 Q5 S5 a5 b5 c5 t5 hj5
          clear hcs hj4 S4 a4 c4
          have hSQ : ¬ S = Q := block_ne S5 Q5 (by decide)
          have haQ : ¬ q1 = Q := block_ne a5 Q5 (by decide)
          have hbQ : ¬ q2 = Q := block_ne b5 Q5 (by decide)
          have hcQ : ¬ q3 = Q := block_ne c5 Q5 (by decide)
          have htQ : ¬ T = Q := block_ne t5 Q5 (by decide)
          have hyQ : ¬ w4.heap.size = Q := fun e => nQ e.symm
          have Q6 : (w5.setCell ⟨Q, j, none⟩ (U nw)).heap[Q]? = some (.cells (wcells (l1.set j nw)) 22 (0, 0)) := by rw [heap_setCell, if_pos rfl, Q5, Option.map_some, setAt_cells, wcells_set]
          have S6 := (show (w5.setCell ⟨Q, j, none⟩ (U nw)).heap[S]? = w5.heap[S]? by rw [heap_setCell, if_neg hSQ]).trans S5
          have a6 := (show (w5.setCell ⟨Q, j, none⟩ (U nw)).heap[q1]? = w5.heap[q1]? by rw [heap_setCell, if_neg haQ]).trans a5
          have b6 := (show (w5.setCell ⟨Q, j, none⟩ (U nw)).heap[q2]? = w5.heap[q2]? by rw [heap_setCell, if_neg hbQ]).trans b5
          have c6 := (show (w5.setCell ⟨Q, j, none⟩ (U nw)).heap[q3]? = w5.heap[q3]? by rw [heap_setCell, if_neg hcQ]).trans c5
          have y6 := (show (w5.setCell ⟨Q, j, none⟩ (U nw)).heap[w4.heap.size]? = w5.heap[w4.heap.size]? by rw [heap_setCell, if_neg hyQ]).trans y5
          have hj6 := hJ _ _ _ _ hj5 ((Ch.refl [Q, S] w5).setCell (p := ⟨Q, j, none⟩) (.inl (by simp)) (U nw))
          obtain ⟨w6, hw6⟩ : ∃ W, w5.setCell ⟨Q, j, none⟩ (U nw) = W := ⟨_, rfl⟩
          rw [hw6] at Q6 S6 a6 b6 c6 y6 hj6
          have K1 := fun W h1 h2 => lTakes_any p1 S q1 u true HY2.out h4 W h1 h2
          gi_wp2_with fail
          refine ⟨trivial, ?_⟩
          gi_at_call 160
          try rw [hw5]
          try rw [hw6]
          refine (inW (K1 _ S6 a6)).mono ?_
          rintro e w7 ⟨rfl, S7, hc7⟩
          have Q7 := (hc7.block Q (blk_lt19 Q6) (by simpa using block_ne Q6 S6 (by decide))).trans Q6
          have a7 := (hc7.block q1 (blk_lt19 a6) (by simpa using block_ne a6 S6 (by decide))).trans a6
          have b7 := (hc7.block q2 (blk_lt19 b6) (by simpa using block_ne b6 S6 (by decide))).trans b6
          have c7 := (hc7.block q3 (blk_lt19 c6) (by simpa using block_ne c6 S6 (by decide))).trans c6
          have hj7 := hJ _ _ _ _ hj6 (hc7.mono (by simp))
          gi_wp2
          go_roundw
          case rel => exact ⟨pre ++ [⟨2, (j : Int), nw⟩], xs', _, takeL p1 u, O', by rw [HX.out, HP.out]; simp, HR.out, by rw [List.length_set]; exact hl1, (takeL_who p1 u).trans hw1, Q7, S7, a7, b7, c7, hj7⟩
          case measure =>
            rw [runLeft_eq S7, runLeft_eq Sr]
            exact measL_take ((rightL_iff p1).1 HY2.out) h4 u
        · gi_wp2
          rw [Exit.noGoto_normal]
          refine bodyPost_end (results_none rfl _ _ _) rfl ?_
          exact ⟨⟨_, rfl⟩, .inr hJx4⟩
end Go.Proofs.Hc
set_option linter.unusedSimpArgs false
set_option linter.unusedVariables false
namespace Go.Proofs.Hc
open Go.RowKit
set_option linter.unusedVariables false
attribute [local go_sem] wrap_u64 wrap_u8 bits_xor64 bits_and64 bits_or64 bits_not64 bits_xor8 bits_and8 bits_or8 signed64 signed8 ofInt_N BitVec.ofInt_add BitVec.ofInt_mul ofInt_sub' ofInt8_N64 ofInt64_N8 wide8 eqN neN shr_pow shr1 shr7 shr56
attribute [local go_sem high] bits_com64 shl_wrap
attribute [local go_sem] cell_heap ice_heap cellAt_cells iceAt_cells setAt_cells rowAt_cells canLay_cells laidAt_cells size_onObj size_setCell rowRes_some layRes_true
attribute [local go_sem] load26 load73 load23 store26 build73
attribute [local go_sem ↓] lrow26 lrow73 lrow23 srow26 zero26 brow73 heap_alloc heap_drew heap_drewN heap_setCell heap_onObj
attribute [local go_sem] tcells_size hcells_size tcells_get hcells_get tcells_one hcells_one hcells_table tcells_table hcells_all hcells_ctrl tcells_ctrl
attribute [local go_sem] nn2 nm2 nn3 nm3 nn4 nm4 nn5 nm5 nn6 nm6 nn7 nm7 nn8 nm8
attribute [local go_sem] nn2 nm2 nn3 nm3 nn4 nm4 nn5 nm5 nn6 nm6 nn7 nm7 nn8 nm8
attribute [local go_sem] acc_g0 acc_g1 acc_g2 acc_g4 acc_s0 acc_s1 acc_s2 acc_s4 accC_size accC_one accC_all loadAcc storeAcc bacc0 bacc2 bacc3 bacc3u bacc4
attribute [local go_sem ↓] lrowAcc srowAcc browAcc zeroAcc_run
attribute [local go_sem high] laidAt_acc
attribute [local go_sem] ofInt_N ofInt_pow8
attribute [local go_sem] Oper.semAt_some make_func1
attribute [local go_sem] layC_idx lcell0 lcell1 lcell2 lcell3 lcell4 lcell5 lcell46
attribute [local go_sem] lay_g0 lay_g1 lay_g2 lay_g3 lay_g4 lay_g5 lay_g46 lay_s0 lay_s4 lay_s5 lay_s46 layC_size layC_one layC_all layC_ws boxLay loadLay storeLay build_lay box_lay buildLay0 buildLay2 buildLay3
attribute [local go_sem ↓] lrowLay srowLay browLay brow_lay zeroLay_run
attribute [local go_sem high] laidAt_lay
attribute [local irreducible] layC
attribute [local irreducible] accC
theorem lrun_results {fn : Func} {p q u : Tmp} (h : fn.results = #[.tmp p, .tmp q, .tmp u]) (tmps : Array Value) (w : World) (x v y : Value) (hp : tmps.getD p undef = x) (hq : tmps.getD q undef = v) (hu : tmps.getD u undef = y) : (results fn tmps).run Tryz.prog w = .ok (.tuple #[x, v, y]) w := by
  have hp' : tmps[p]?.getD undef = x := by simpa using hp
  have hq' : tmps[q]?.getD undef = v := by simpa using hq
  have hu' : tmps[u]?.getD undef = y := by simpa using hu
  simp [results, h, hp', hq', hu']
set_option maxHeartbeats 4000000 in
set_option maxRecDepth 100000 in
theorem lRun_go (l l' : List (BitVec 64)) (g c : Nat) (cur : Array Value) (sl : Int) (seed : BitVec 64) (p' : LayT) (k : Nat) (w : World) (h1 : 1 ≤ l.length) (hl : l.length ≤ 8192) (hb : w.heap[g]? = some (.cells cur 22 (0, 0))) (hw : WordsAt cur l) (s0 : 0 ≤ sl) (s1 : sl < 128) (hfit : 56 + 40 * sl ≤ (l.length : Int))
    (hrun : RunsL l (firstL 0 sl seed) k l' p') (hk : k ≤ 100000) :
    Calls Tryz.prog 34 #[.slice (some ⟨g, 0, none⟩) l.length c, I sl, U seed] w fun e w' => ∃ Q, e = .returned (.tuple #[.slice (some ⟨Q, 0, none⟩) l.length l.length, I (k : Nat), I 0]) ∧ w.heap.size ≤ Q ∧ w'.heap[Q]? = some (.cells (wcells l') 22 (0, 0)) ∧ Ch [] w w' := by
  obtain ⟨xs, hxs, hx⟩ := runsX_of hrun
  have M1 := fun w => lMany_any (some ⟨g, 0, none⟩) l.length c w
  rw [decide_eq_true h1, decide_eq_true hl, Bool.and_true] at M1
  have K1 := fun w => cell_ok sl 39 s0 s1 (by omega) (by omega) w
  have O1 := fun w h => lOwn_any l g c cur w (by omega) h hw
  have Y1 := fun Q S q1 q2 q3 w a b c d e => acc_yields l l' (firstL 0 sl seed) p' xs hx hl s0 Q S q1 q2 q3 w a b c d e
  obtain ⟨z, hz⟩ : ∃ z, 16 + 40 * sl + 39 = z := ⟨_, rfl⟩
  rw [hz] at K1
  obtain ⟨n, hn⟩ : ∃ n, l.length = n := ⟨_, rfl⟩
  rw [hn] at M1 O1 Y1 hfit ⊢
  have hzn : z < (n : Int) := by omega
  obtain ⟨f0, hf0⟩ : ∃ f, firstL 0 sl seed = f := ⟨_, rfl⟩
  have BB := fun w => buildLay2 sl seed w
  rw [hf0] at Y1 BB
  have hgn : ¬ g = w.heap.size := by have := (Array.getElem?_eq_some_iff.1 hb).1; omega
  clear h1 hl hw s0 s1 hfit hrun hx hz hn hf0
  have C0 : Ch [] w (w.alloc (.cells (layC f0) 163)) := (Ch.refl [] w).alloc _
  have S0 : (w.alloc (.cells (layC f0) 163)).heap[w.heap.size]? = some (.cells (layC f0) 163 (0, 0)) := by rw [heap_alloc, if_pos rfl]
  have g0 := hkeep C0 hb
  obtain ⟨w0, hw0⟩ : ∃ W, w.alloc (.cells (layC f0) 163) = W := ⟨_, rfl⟩
  rw [hw0] at C0 S0 g0
  obtain ⟨S, hS⟩ : ∃ S, w.heap.size = S := ⟨_, rfl⟩
  rw [hS] at S0
  have hSw : w.heap.size ≤ S := by omega
  clear hb hgn
  refine (callsIn_wide (n := 3)).1 ?_
  refine callsIn_of_wp_marks Tryz.func34 rfl trivial ?_
  simp only [Tryz.ntmps34, List.size_toArray, List.length_cons, List.length_nil, Nat.reduceAdd, Nat.reduceSub, Array.replicate_succ, Array.replicate_zero, List.push_toArray, List.append_toArray, List.nil_append, List.cons_append]
  gi_wp2_with (first
    | (refine ⟨trivial, ?_⟩; gi_at_call 101; refine (inW (M1 _)).mono ?_; rintro e w' ⟨rfl, rfl⟩)
    | (refine ⟨trivial, ?_⟩; gi_at_call 44; refine (inW (K1 _)).mono ?_; rintro e w' ⟨rfl, rfl⟩))
  refine ⟨trivial, ?_⟩
  gi_at_call 102
  try rw [hw0]
  try rw [hS]
  refine (inW (O1 _ g0)).mono ?_
  rintro e w1 ⟨rfl, Q1, hc1⟩
  have hQw : w.heap.size ≤ w0.heap.size := C0.size
  have S1 := hkeep hc1 S0
  have C1 := C0.trans hc1
  clear O1 g0 hc1 C0 hw0
  obtain ⟨Q, hQ⟩ : ∃ Q, w0.heap.size = Q := ⟨_, rfl⟩
  have hSQ : S < Q := by have := blk_lt19 S0; omega
  rw [hQ] at Q1 hQw ⊢
  clear hQ S0
  have hc2 : Ch [] w1 (w1.alloc (.cells #[I 0] 3)) := (Ch.refl [] w1).alloc _
  have m2 : (w1.alloc (.cells #[I 0] 3)).heap[w1.heap.size]? = some (.cells #[I 0] 3 (0, 0)) := by rw [heap_alloc, if_pos rfl]
  have S2 := hkeep hc2 S1
  have Q2 := hkeep hc2 Q1
  have C2 := C1.trans hc2
  have hQl := blk_lt19 Q1
  obtain ⟨M, hM⟩ : ∃ M, w1.heap.size = M := ⟨_, rfl⟩
  have hMQ : Q < M := by omega
  rw [hM] at m2
  obtain ⟨w2, hw2⟩ : ∃ W, w1.alloc (.cells #[I 0] 3) = W := ⟨_, rfl⟩
  rw [hw2] at m2 S2 Q2 C2
  clear hc2 S1 Q1 C1 hQl
  have m9 : (w2.setCell ⟨M, 0, none⟩ (.int .i64 0)).heap[M]? = some (.cells #[I 0] 3 (0, 0)) := by rw [heap_setCell, if_pos rfl, m2]; rfl
  have S9 : (w2.setCell ⟨M, 0, none⟩ (.int .i64 0)).heap[S]? = some (.cells (layC f0) 163 (0, 0)) := by rw [heap_setCell, if_neg (by omega)]; exact S2
  have Q9 : (w2.setCell ⟨M, 0, none⟩ (.int .i64 0)).heap[Q]? = some (.cells (wcells l) 22 (0, 0)) := by rw [heap_setCell, if_neg (by omega)]; exact Q2
  have C9 : Ch [] w (w2.setCell ⟨M, 0, none⟩ (.int .i64 0)) := C2.setCell (p := ⟨M, 0, none⟩) (.inr (by show w.heap.size ≤ M; omega)) _
  obtain ⟨w9, hw9⟩ : ∃ W, w2.setCell ⟨M, 0, none⟩ (.int .i64 0) = W := ⟨_, rfl⟩
  rw [hw9] at m9 S9 Q9 C9
  have A1 := fun w h => lAccesses_any S (.slice (some ⟨Q, 0, none⟩) n n) rfl w h
  gi_wp2_with fail
  refine ⟨trivial, ?_⟩
  gi_at_call 103
  try rw [hw2]
  try rw [hM]
  try rw [hw9]
  refine (inW (A1 _ (blk_lt19 S9))).mono ?_
  rintro e w3 ⟨q1, q2, q3, rfl, h1, h2, h3, k1, k2, k3, hc3⟩
  have m3 := hkeep hc3 m9
  have S3 := hkeep hc3 S9
  have Q3 := hkeep hc3 Q9
  have C3 := C9.trans hc3
  have hMl := blk_lt19 m9
  have e1 : M ≠ q1 := by omega
  have e2 : M ≠ q2 := by omega
  have e3 : M ≠ q3 := by omega
  have l1 := blk_lt19 h1
  have l2 := blk_lt19 h2
  have l3 := blk_lt19 h3
  have lM := blk_lt19 m3
  have Y2 := Y1 Q S q1 q2 q3 w3 Q3 S3 h1 h2 h3
  clear A1 m2 S2 Q2 C2 m9 S9 Q9 C9 hw9 hc3 Y1 h1 h2 h3 hMl hw2 k1 k2 k3 hS hM
  gi_wp2
  refine range_lawE (n := 1) (xs := xs) rfl enters_acc2 Y2 ?hE (fun _ => rfl) (by simp; omega) (by simp; omega)
    (fun pre O W => (∀ x, O x ↔ x = M) ∧ Ch [] w W ∧ W.heap[M]? = some (.cells #[I (pre.length : Nat)] 3 (0, 0)))
    (fun c W => False)
    (fun x => x = M) ?hIO ?hI ?hIx ⟨fun _ => Iff.rfl, C3, m3⟩ ?a₁ ?assign ?body ?done ?stop
  case assign =>
    intro x W K hK
    gi_wp2
    exact hK
  case hE =>
    intro A B hA hAB
    exact (hAB.block Q (blk_lt19 hA) (by simp; omega)).trans hA
  case hIO =>
    rintro pre O A ⟨h, hc, hm⟩ x hx
    rw [(h x).1 hx]
    refine ⟨.inl lM, blk_lt19 hm, by simp; omega⟩
  case hI =>
    rintro pre O A B ⟨h, hc, hm⟩ hAB
    exact ⟨h, hc.trans2 hAB (by simp; omega), (hAB.block M (blk_lt19 hm) (by simp; omega)).trans hm⟩
  case hIx =>
    rintro c A B h _
    exact h
  case body =>
    rintro pre O x post W hxx ⟨h, hc, hm⟩ hsz
    go_light
    have hle : (pre.length : Int) ≤ 100000 := by
      have := congrArg List.length hxx
      rw [List.length_append, List.length_cons, hxs] at this
      omega
    clear Y2 hxx
    gi_wp2
    refine ⟨⟨O, ⟨h, hc.setCell (p := ⟨M, 0, none⟩) (.inr (by show w.heap.size ≤ M; omega)) _, ?_⟩, fun _ h => .inl h⟩, by simp [World.setCell], fun b hb hn => ?_⟩
    · rw [heap_setCell, if_pos rfl, hm, List.length_append]; rfl
    · rw [heap_setCell, if_neg (fun e => hn ((h b).2 e))]
  case stop =>
    intro c W h _
    exact h.elim
  case done =>
    rintro O W ⟨h, hc, hm⟩ hE hd
    rw [hxs] at hm
    gi_wp2
    have hgM : ∀ g : Gar W, (g.1).heap[M]? = some (.cells #[I (k : Nat)] 3 (0, 0)) := fun g => hkeep g.2 hm
    refine wpIn_wide.2 (wp_region_gar (by kernel_rfl) (by kernel_rfl) ?_)
    repeat (go_big_quiet_step (fail))
    refine wpQuiet_nil ?_
    rintro W4 ⟨g1, hw1⟩
    have hc4 : Ch [] W W4 := by rw [hw1]; exact g1.2
    have EW : W4.heap[Q]? = some (.cells (wcells l') 22 (0, 0)) := hkeep hc4 hE
    have hd' : W4.heap[w3.heap.size]? = some (.deferred (some [])) := hkeep hc4 hd
    have CW : Ch [] w W4 := hc.trans hc4
    clear hw1 g1 hgM
    gi_wp2
    refine marks_ret hd' (lrun_results Tryz.results34 _ _ _ _ _ rfl rfl rfl) ⟨Q, rfl, by omega, ?_, CW.trans2 (ch_putObj _ _ _) (by simp; omega)⟩
    rw [heap_putObj, if_neg (by omega)]; exact EW
end Go.Proofs.Hc
