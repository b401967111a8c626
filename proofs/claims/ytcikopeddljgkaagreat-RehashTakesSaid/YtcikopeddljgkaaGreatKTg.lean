/- Package rehash: Take. -/
import Derived.Test.YtcikopeddljgkaaGreatKRl
import Derived.Test.YtcikopeddljgkaaGreatKRs
import Derived.Test.YtcikopeddljgkaaGreatKTf
import Derived.Test.YtcikopeddljgkaaGreatK0
set_option linter.unusedSimpArgs false
set_option linter.unusedVariables false
set_option maxHeartbeats 4000000
set_option maxRecDepth 100000
namespace Go.Proofs.Hc
open Go.RowKit
attribute [local go_sem] zbs zca zax zbc zbn zba zbm zbo zbu signed64 signed8 zar BitVec.ofInt_add BitVec.ofInt_mul ofInt_sub' zay zaz wide8 eqN neN zbz shr1 shr7 shr56
attribute [local go_sem high] zbb zbt
attribute [local go_sem] zag zbw zah zas zad zbe zaq zal zbl zan zbd zbf
attribute [local go_sem] load26 load73 load23 store26 build73
attribute [local go_sem ↓] lrow26 lrow73 lrow23 srow26 zero26 brow73 zac zaw zbg zaa zab
attribute [local go_sem] zai zav zat zbj zbk zbp zao zau zbq zbi zbh
attribute [local go_sem] nn2 nm2 nn3 nm3 nn4 nm4 nn5 nm5 nn6 nm6 nn7 nm7 nn8 nm8
section
attribute [local go_sem] zcq seenC_one seenC_all seenC_g0 loadSeen storeSeen buildSeen buildSeen0
attribute [local go_sem ↓] lrowSeen srowSeen browSeen zcr
attribute [local go_sem high] zam
attribute [local irreducible] seenC
attribute [local go_sem] zar zby
attribute [local go_sem] Oper.semAt_some zap
attribute [local go_sem] layC_idx lcell0 lcell1 lcell2 lcell3 lcell4 lcell5 lcell46
attribute [local go_sem] lay_g0 lay_g1 lay_g2 lay_g3 lay_g4 lay_g5 lay_g46 lay_s0 lay_s4 lay_s5 lay_s46 zck layC_one layC_all layC_ws boxLay loadLay storeLay build_lay box_lay buildLay0 buildLay2 buildLay3
attribute [local go_sem ↓] lrowLay srowLay browLay brow_lay zcs
attribute [local go_sem high] zaj
attribute [local irreducible] layC
attribute [local go_sem] boxSeen
attribute [local irreducible] waysV waysZ
theorem lay_results {fn : Func} {p q : Tmp} (h : fn.results = #[.cell p 72, .tmp q]) (tmps : Array Value) (b : Nat) (w : World) (d : LayT) (v : Value) (hp : tmps.getD p undef = .pointer (some ⟨b, 0, none⟩)) (hq : tmps.getD q undef = v)
    (hb : w.heap[b]? = some (.cells (layC d) 72 (0, 0))) : (results fn tmps).run Tryz.prog w = .ok (.tuple #[.agg (layC d), v]) w := by
  have hl := run_loadVar_row (P := Tryz.prog) w b 72 72 (layC d) (0, 0) _ hb Tryz.underlying72 rfl (by rw [zck]; kernel_rfl)
  have hp' : tmps[p]?.getD undef = .pointer (some ⟨b, 0, none⟩) := by simpa using hp
  have hq' : tmps[q]?.getD undef = v := by simpa using hq
  simp [results, h, hp', hq', asAddr, hl]
theorem take_world (p : LayT) (x : Int) (b : Bool) (w : World) : ∃ W, ((w.alloc (.cells (layC p) 72)).alloc (.cells (seenC x b) 93)).alloc (.cells (layC zeroLay) 72) = W ∧ Ch [] w W ∧ W.heap[w.heap.size]? = some (.cells (layC p) 72 (0, 0)) ∧ W.heap[w.heap.size + 1]? = some (.cells (seenC x b) 93 (0, 0)) ∧ W.heap[w.heap.size + 1 + 1]? = some (.cells (layC zeroLay) 72 (0, 0)) :=
  ⟨_, rfl, (((Ch.refl [] w).alloc _).alloc _).alloc _, by rw [zac, if_neg (by simp; omega), zac, if_neg (by simp), zac, if_pos rfl], by rw [zac, if_neg (by simp), zac, if_pos (by simp)], by rw [zac, if_pos (by simp)]⟩
theorem lTake_bad (p : LayT) (x : Int) (b : Bool) (h : rightL p = false) (w : World) : Calls Tryz.prog 61 #[.agg (layC p), .agg (seenC x b)] w fun e w' => e = .returned (.tuple #[.agg (layC zeroLay), I 300]) ∧ Ch [] w w' := by
  have R1 := fun w => lCheck_any p w
  rw [checkL_no h] at R1
  obtain ⟨W0, hW0, C0, b0, y0, z0⟩ := take_world p x b w
  clear h
  go_enter Tryz.func61, Tryz.ntmps61
  go_wp2_with fail
  try rw [hW0]
  refine (R1 _).mono ?_
  rintro e w1 ⟨rfl, hc1⟩
  have z1 := hkeep hc1 z0
  have C1 := C0.trans hc1
  clear b0 y0 z0 C0 hc1 hW0
  go_wp2
  refine bodyPost_ret (lay_results Tryz.results61 _ _ _ zeroLay _ rfl rfl ?_) rfl ⟨rfl, ?_⟩
  · simp [go_sem, z1]
  · exact C1.onObj (p := w.heap.size + 1 + 1) (.inr (by omega)) _
theorem lTake_over (p : LayT) (x : Int) (b : Bool) (h : rightL p = true) (h5 : 5 ≤ p.ph) (w : World) : Calls Tryz.prog 61 #[.agg (layC p), .agg (seenC x b)] w fun e w' => e = .returned (.tuple #[.agg (layC zeroLay), I 4]) ∧ Ch [] w w' := by
  have R1 := fun w => lCheck_any p w
  rw [checkL_yes h] at R1
  obtain ⟨W0, hW0, C0, b0, y0, z0⟩ := take_world p x b w
  clear h
  go_enter Tryz.func61, Tryz.ntmps61
  go_wp2_with fail
  try rw [hW0]
  refine (R1 _).mono ?_
  rintro e w1 ⟨rfl, hc1⟩
  have z1 := hkeep hc1 z0
  have b1 := hkeep hc1 b0
  have C1 := C0.trans hc1
  clear b0 y0 z0 C0 hc1 hW0
  go_wp2
  refine bodyPost_ret (lay_results Tryz.results61 _ _ _ zeroLay _ rfl rfl ?_) rfl ⟨rfl, ?_⟩
  · simp [go_sem, z1]
  · exact C1.onObj (p := w.heap.size + 1 + 1) (.inr (by omega)) _
theorem lTake_core (p p2 : LayT) (x : BitVec 64) (b : Bool) (n k : Nat) (hr : rightL p = true) (hpn : p.ph = (n : Int)) (hn : (n : Int) < 5) (fv : Value) (cap : Nat → Array Value) (hix : ∀ c w, (Instr.index 192 (.agg (waysV c)) (.int .i64 (n : Int))).run Tryz.prog w = .ok (.agg #[fv, .func (.func k) #[] (cap c)]) w)
    (hdf : ∀ args w, (callFunc k args).run Tryz.prog w = .ok (.enter k args) w)
    (X1 : ∀ (c g : Nat) (w : World), w.heap[g]? = some (.cells (layC p) 163 (0, 0)) → w.heap[c]? = some (.cells #[I 5] 3 (0, 0)) → Calls Tryz.prog k (#[.pointer (some ⟨g, 0, none⟩), .agg (seenC (N x) b)] ++ cap c) w fun e w' => e = .returned (.tuple #[]) ∧ w'.heap[g]? = some (.cells (layC p2) 163 (0, 0)) ∧ Ch [g] w w') (w : World) :
    Calls Tryz.prog 61 #[.agg (layC p), .agg (seenC (N x) b)] w fun e w' => e = .returned (.tuple #[.agg (layC p2), I 0]) ∧ Ch [] w w' := by
  have R1 := fun w => lCheck_any p w
  rw [checkL_yes hr] at R1
  have A1 := fun w => ways_any w
  have FF := fun a b w => field_way1 a b w
  obtain ⟨W0, hW0, C0, b0, y0, z0⟩ := take_world p (N x) b w
  clear hr
  go_enter Tryz.func61, Tryz.ntmps61
  go_wp2_with fail
  try rw [hW0]
  refine (R1 _).mono ?_
  rintro e w1 ⟨rfl, hc1⟩
  have b1 := hkeep hc1 b0
  have y1 := hkeep hc1 y0
  have z1 := hkeep hc1 z0
  have C1 := C0.trans hc1
  clear b0 y0 z0 C0 hc1 hW0 R1
  go_upto_region 7 with (fail)
  obtain ⟨B, hB⟩ : ∃ B, w.heap.size = B := ⟨_, rfl⟩
  have hBw : w.heap.size ≤ B := by omega
  rw [hB] at b1 y1 z1 ⊢
  clear hB
  have hc2 : Ch [] w1 (w1.alloc (.cells (layC p) 163)) := (Ch.refl [] w1).alloc _
  have g2 : (w1.alloc (.cells (layC p) 163)).heap[w1.heap.size]? = some (.cells (layC p) 163 (0, 0)) := by rw [zac, if_pos rfl]
  have b2 := hkeep hc2 b1
  have y2 := hkeep hc2 y1
  have z2 := hkeep hc2 z1
  have C2 := C1.trans hc2
  have k1 := (Array.getElem?_eq_some_iff.1 b1).1
  have k2 := (Array.getElem?_eq_some_iff.1 y1).1
  have k3 := (Array.getElem?_eq_some_iff.1 z1).1
  have hCw := C1.size
  clear b1 y1 z1 C1 hc2
  obtain ⟨w2, hw2⟩ : ∃ W, w1.alloc (.cells (layC p) 163) = W := ⟨_, rfl⟩
  rw [hw2] at g2 b2 y2 z2 C2 ⊢
  clear hw2
  obtain ⟨G, hG⟩ : ∃ G, w1.heap.size = G := ⟨_, rfl⟩
  rw [hG] at g2 k1 k2 k3 hCw ⊢
  clear hG
  have n1 : ¬ B = G := by omega
  have n2 : ¬ B + 1 = G := by omega
  have n3 : ¬ B + 1 + 1 = G := by omega
  clear k1 k2 k3
  have s3 : (fun W' : World => W'.heap[B]? = some (.cells (layC p) 72 (0, 0)) ∧ W'.heap[B + 1]? = some (.cells (seenC (N x) b) 93 (0, 0))) w2.drew := ⟨b2, y2⟩
  have g3 : w2.drew.heap[G]? = some (.cells (layC p) 163 (0, 0)) := g2
  have z3 : w2.drew.heap[B + 1 + 1]? = some (.cells (layC zeroLay) 72 (0, 0)) := z2
  have C3 : Ch [] w w2.drew := C2.drew
  refine wp_region_held_drew (S := fun W' => W'.heap[B]? = some (.cells (layC p) 72 (0, 0)) ∧ W'.heap[B + 1]? = some (.cells (seenC (N x) b) 93 (0, 0))) (by kernel_rfl) s3 ?_
  intro _
  simp only [List.size_toArray, List.length_cons, List.length_nil, Nat.reduceAdd]
  clear g2 b2 y2 z2 C2
  generalize w2.drew = w3 at *
  refine tk 1 22 ?_ rfl s3 ?_ ?_; rotate_left
  · intro wq hSq; obtain ⟨hSa, hSb⟩ := hSq; go_simp; try with_reducible rfl
  try go_frame
  refine tk 2 23 ?_ rfl s3 ?_ ?_; rotate_left
  · intro wq hSq; obtain ⟨hSa, hSb⟩ := hSq; go_simp; try with_reducible rfl
  try go_frame
  refine tk 5 26 ?_ rfl s3 ?_ ?_; rotate_left
  · intro wq hSq; obtain ⟨hSa, hSb⟩ := hSq; go_simp; try with_reducible rfl
  try go_frame
  refine tk 6 27 ?_ rfl s3 ?_ ?_; rotate_left
  · intro wq hSq; obtain ⟨hSa, hSb⟩ := hSq; go_simp; try with_reducible rfl
  try go_frame
  refine rd (o := ⟨some 21, _, _, _, _, none⟩) 0 rfl (fun K hK => ?_); go_simp
  refine (A1 _).mono ?_
  rintro e w4 ⟨c, rfl, hcw, hcc, hc4⟩
  have s4 : w4.heap[B]? = some (.cells (layC p) 72 (0, 0)) ∧ w4.heap[B + 1]? = some (.cells (seenC (N x) b) 93 (0, 0)) := ⟨hkeep hc4 s3.1, hkeep hc4 s3.2⟩
  have g4 := hkeep hc4 g3
  have z4 := hkeep hc4 z3
  have C4 := C3.trans hc4
  refine hK.out _ _ s4 (fun _ => ?_)
  clear hK K hc4 s3 g3 z3 C3 hcw
  refine tk 3 24 ?_ rfl s4 ?_ ?_; rotate_left
  · intro wq hSq; obtain ⟨hSa, hSb⟩ := hSq; go_simp; try with_reducible rfl
  try go_frame
  refine tk 4 25 ?_ rfl s4 ?_ ?_; rotate_left
  · intro wq hSq; obtain ⟨hSa, hSb⟩ := hSq; go_simp; try with_reducible rfl
  try go_frame
  refine rd (o := ⟨some 28, _, _, _, _, none⟩) 7 rfl (fun K hK => ?_); go_simp
  refine (X1 c _ _ g4 hcc).mono ?_
  rintro e w5 ⟨rfl, g5, hc5⟩
  have hk : ∀ k o, ¬ k = G → w4.heap[k]? = some o → w5.heap[k]? = some o := fun k o hne h => (hc5.block k (Array.getElem?_eq_some_iff.1 h).1 (by simpa using hne)).trans h
  have s5 : w5.heap[B]? = some (.cells (layC p) 72 (0, 0)) ∧ w5.heap[B + 1]? = some (.cells (seenC (N x) b) 93 (0, 0)) := ⟨hk _ _ n1 s4.1, hk _ _ n2 s4.2⟩
  have z5 := hk _ _ n3 z4
  have C5 : Ch [] w w5 := C4.trans2 hc5 (by intro t ht; right; simp at ht; omega)
  refine hK.out _ _ s5 (fun _ => ?_)
  clear hK K hc5 s4 g4 z4 C4 hk hcc
  refine wpAnyH_done (by kernel_rfl) ?_ _
  go_wp2
  refine bodyPost_ret (lay_results Tryz.results61 _ (B + 1 + 1) _ p2 _ rfl rfl ?_) rfl ⟨rfl, C5.onObj (p := B + 1 + 1) (.inr (by omega)) _⟩
  rw [zab, if_pos rfl, z5, Option.map_some, zaj]
theorem lTake_yes (p : LayT) (hr : rightL p = true) (h4 : p.ph ≤ 4) (x : BitVec 64) (b : Bool) (w : World) : Calls Tryz.prog 61 #[.agg (layC p), .agg (seenC (N x) b)] w fun e w' => e = .returned (.tuple #[.agg (layC (takeL p x)), I 0]) ∧ Ch [] w w' := by
  have R := (zdc p).1 hr
  have h0 := R.ph0
  have hat := R.at_
  rcases (show p.ph = 0 ∨ p.ph = 1 ∨ p.ph = 2 ∨ p.ph = 3 ∨ p.ph = 4 by omega) with h | h | h | h | h
  · cases ho : oddB x with
    | false =>
      have e : takeL p x = { p with ph := 1, count := x } := by unfold takeL; rw [if_pos h, if_neg (by rw [ho]; decide)]
      rw [e]; exact lTake_core p _ x b 0 _ hr h (by omega) _ (fun _ => #[]) (fun c w => index_ways0 c w) Tryz.call191 (fun c g w hg _ => lThen0_yes p g x b ho w hg) w
    | true =>
      have e : takeL p x = { p with ph := 6 } := by unfold takeL; rw [if_pos h, if_pos ho]
      rw [e]; exact lTake_core p _ x b 0 _ hr h (by omega) _ (fun _ => #[]) (fun c w => index_ways0 c w) Tryz.call191 (fun c g w hg _ => lThen0_no p g x b ho w hg) w
  · have e : takeL p x = { p with ph := 2, at_ := 1 } := by unfold takeL; rw [if_neg (by omega), if_pos h]
    rw [e]; exact lTake_core p _ x b 1 _ hr h (by omega) _ (fun _ => #[]) (fun c w => index_ways1 c w) Tryz.call194 (fun c g w hg _ => lThen1_any p g x b w hg) w
  · by_cases h39 : p.at_ = 39
    · have e : takeL p x = laidL { p with ws := updW (updW p.ws 39 x) 0 p.count, at_ := 40 } := by unfold takeL; rw [if_neg (by omega), if_neg (by omega), if_pos h, if_pos h39]
      rw [e]; exact lTake_core p _ x b 2 _ hr h (by omega) _ (fun _ => #[]) (fun c w => index_ways2 c w) Tryz.call196 (fun c g w hg _ => lThen2_last p g x b h39 w hg) w
    · obtain ⟨j, hj⟩ := Int.eq_ofNat_of_zero_le (show 0 ≤ p.at_ by omega)
      have e : takeL p x = { p with ws := updW p.ws j x, at_ := (j : Int) + 1 } := by
        unfold takeL; rw [if_neg (by omega), if_neg (by omega), if_pos h, if_neg h39]
        rw [show p.at_.toNat = j by omega]
        conv => lhs; rw [hj]
      rw [e]; exact lTake_core p _ x b 2 _ hr h (by omega) _ (fun _ => #[]) (fun c w => index_ways2 c w) Tryz.call196 (fun c g w hg _ => lThen2_more p g j x b hj (by omega) (by omega) w hg) w
  · by_cases h39 : p.at_ = 39
    · have e : takeL p x = { p with at_ := 40, ph := 4 } := by unfold takeL; rw [if_neg (by omega), if_neg (by omega), if_neg (by omega), if_pos h, if_pos h39, h39]; rfl
      rw [e]; exact lTake_core p _ x b 3 _ hr h (by omega) _ (fun _ => #[]) (fun c w => index_ways3 c w) Tryz.call199 (fun c g w hg _ => lThen3_last p g x b h39 w hg) w
    · have e : takeL p x = { p with at_ := p.at_ + 1 } := by unfold takeL; rw [if_neg (by omega), if_neg (by omega), if_neg (by omega), if_pos h, if_neg h39]; rw [← h]
      rw [e]; exact lTake_core p _ x b 3 _ hr h (by omega) _ (fun _ => #[]) (fun c w => index_ways3 c w) Tryz.call199 (fun c g w hg _ => lThen3_more p g x b (by omega) (by omega) w hg) w
  · have e : takeL p x = { p with ph := 5 } := by unfold takeL; rw [if_neg (by omega), if_neg (by omega), if_neg (by omega), if_neg (by omega)]
    rw [e]; exact lTake_core p _ x b 4 _ hr h (by omega) _ (fun c => #[.pointer (some ⟨c, 0, none⟩)]) (fun c w => index_ways4 c w) Tryz.call188 (fun c g w hg hc => lThen4_any p g x b c w hg hc) w
end
section
attribute [local go_sem] zcq seenC_one seenC_all seenC_g0 loadSeen storeSeen buildSeen buildSeen0
attribute [local go_sem ↓] lrowSeen srowSeen browSeen zcr
attribute [local go_sem high] zam
attribute [local irreducible] seenC
attribute [local go_sem] zar zby
attribute [local go_sem] Oper.semAt_some zap
attribute [local go_sem] layC_idx lcell0 lcell1 lcell2 lcell3 lcell4 lcell5 lcell46
attribute [local go_sem] lay_g0 lay_g1 lay_g2 lay_g3 lay_g4 lay_g5 lay_g46 lay_s0 lay_s4 lay_s5 lay_s46 zck layC_one layC_all layC_ws boxLay loadLay storeLay build_lay box_lay buildLay0 buildLay2 buildLay3
attribute [local go_sem ↓] lrowLay srowLay browLay brow_lay zcs
attribute [local go_sem high] zaj
attribute [local irreducible] layC
attribute [local go_sem] boxSeen
attribute [local go_sem high] tmod2_64w bit64w bit64zw
theorem takeL_0y {p : LayT} {x : BitVec 64} (h : p.ph = 0) (ho : oddB x = true) : takeL p x = { p with ph := 6 } := by
  unfold takeL; rw [if_pos h, if_pos ho]
theorem takeL_0n {p : LayT} {x : BitVec 64} (h : p.ph = 0) (ho : oddB x = false) : takeL p x = { p with ph := 1, count := x } := by
  unfold takeL; rw [if_pos h, if_neg (by rw [ho]; decide)]
theorem takeL_1 {p : LayT} {x : BitVec 64} (h : p.ph = 1) : takeL p x = { p with ph := 2, at_ := 1 } := by
  unfold takeL; rw [if_neg (by omega), if_pos h]
theorem takeL_2n {p : LayT} {x : BitVec 64} (h : p.ph = 2) (ha : ¬ p.at_ = 39) : takeL p x = { p with ws := updW p.ws p.at_.toNat x, at_ := p.at_ + 1 } := by
  unfold takeL; rw [if_neg (by omega), if_neg (by omega), if_pos h, if_neg ha]
theorem takeL_2y {p : LayT} {x : BitVec 64} (h : p.ph = 2) (ha : p.at_ = 39) : takeL p x = laidL { p with ws := updW (updW p.ws 39 x) 0 p.count, at_ := 40 } := by
  unfold takeL; rw [if_neg (by omega), if_neg (by omega), if_pos h, if_pos ha]
theorem takeL_3y {p : LayT} {x : BitVec 64} (h : p.ph = 3) (ha : p.at_ = 39) : takeL p x = { p with at_ := p.at_ + 1, ph := 4 } := by
  unfold takeL; rw [if_neg (by omega), if_neg (by omega), if_neg (by omega), if_pos h, if_pos ha]
theorem takeL_3n {p : LayT} {x : BitVec 64} (h : p.ph = 3) (ha : ¬ p.at_ = 39) : takeL p x = { p with at_ := p.at_ + 1, ph := 3 } := by
  unfold takeL; rw [if_neg (by omega), if_neg (by omega), if_neg (by omega), if_pos h, if_neg ha]
theorem takeL_4 {p : LayT} {x : BitVec 64} (h : p.ph = 4) : takeL p x = { p with ph := 5 } := by
  unfold takeL; rw [if_neg (by omega), if_neg (by omega), if_neg (by omega), if_neg (by omega)]
theorem r20Take_0y (p : LayT) (hp : p.ph = 0) (x : BitVec 64) (ho : oddB x = true) (b : Bool) (w : World) : Calls Tryz.prog 62 #[.agg (layC p), .agg (seenC (N x) b)] w fun e w' => e = .returned (.agg (layC (takeL p x))) ∧ Ch [] w w' := by
  rw [takeL_0y hp ho]
  obtain ⟨W0, hW0, C0, b0, y0, z0⟩ := take_world p (N x) b w
  go_enter Tryz.func62, Tryz.ntmps62
  go_upto_region 1 with (fail)
  try rw [hW0]
  clear hW0
  obtain ⟨B, hB⟩ : ∃ B, w.heap.size = B := ⟨_, rfl⟩
  rw [hB] at b0 y0 z0 ⊢
  have hBw : w.heap.size ≤ B := by omega
  clear hB
  go_wp2
  refine bodyPost_ret (lay_result Tryz.results62 _ (B + 1 + 1) _ _ rfl ?_) rfl ⟨rfl, (C0.setCell (p := ⟨B, 0, none⟩) (.inr hBw) _).onObj (p := B + 1 + 1) (.inr (by omega)) _⟩
  simp [go_sem, b0, z0]
theorem r20Take_0n (p : LayT) (hp : p.ph = 0) (x : BitVec 64) (ho : oddB x = false) (b : Bool) (w : World) : Calls Tryz.prog 62 #[.agg (layC p), .agg (seenC (N x) b)] w fun e w' => e = .returned (.agg (layC (takeL p x))) ∧ Ch [] w w' := by
  rw [takeL_0n hp ho]
  obtain ⟨W0, hW0, C0, b0, y0, z0⟩ := take_world p (N x) b w
  go_enter Tryz.func62, Tryz.ntmps62
  go_upto_region 1 with (fail)
  try rw [hW0]
  clear hW0
  obtain ⟨B, hB⟩ : ∃ B, w.heap.size = B := ⟨_, rfl⟩
  rw [hB] at b0 y0 z0 ⊢
  have hBw : w.heap.size ≤ B := by omega
  clear hB
  go_upto_region 6 with (fail)
  have s1 : (fun W' : World => W'.heap[B + 1]? = some (.cells (seenC (N x) b) 93 (0, 0))) W0.drew := y0
  have b1 : W0.drew.heap[B]? = some (.cells (layC p) 72 (0, 0)) := b0
  have z1 : W0.drew.heap[B + 1 + 1]? = some (.cells (layC zeroLay) 72 (0, 0)) := z0
  have C1 : Ch [] w W0.drew := C0.drew
  refine wp_region_held_drew (S := fun W' => W'.heap[B + 1]? = some (.cells (seenC (N x) b) 93 (0, 0))) (by kernel_rfl) s1 ?_
  intro _
  simp only [List.size_toArray, List.length_cons, List.length_nil, Nat.reduceAdd]
  clear b0 y0 z0 C0
  generalize W0.drew = w1 at *
  refine tk 0 15 ?_ rfl s1 ?_ ?_; rotate_left
  · intro _ _; go_simp; try with_reducible rfl
  try go_frame
  refine tk 1 16 ?_ rfl s1 ?_ ?_; rotate_left
  · intro _ _; go_simp; try with_reducible rfl
  try go_frame
  refine tk 2 17 ?_ rfl s1 ?_ ?_; rotate_left
  · intro _ _; go_simp; try with_reducible rfl
  try go_frame
  refine rd 3 rfl (fun K hK => ?_); go_simp
  have b2 : (w1.setCell ⟨B, 0, none⟩ (I 1)).heap[B]? = some (.cells (layC { p with ph := 1 }) 72 (0, 0)) := by rw [zaa, if_pos rfl, b1, Option.map_some, zad, lay_s0]
  have s2 : (w1.setCell ⟨B, 0, none⟩ (I 1)).heap[B + 1]? = some (.cells (seenC (N x) b) 93 (0, 0)) := by rw [zaa, if_neg (by omega)]; exact s1
  have z2 : (w1.setCell ⟨B, 0, none⟩ (I 1)).heap[B + 1 + 1]? = some (.cells (layC zeroLay) 72 (0, 0)) := by rw [zaa, if_neg (by omega)]; exact z1
  have C2 : Ch [] w (w1.setCell ⟨B, 0, none⟩ (I 1)) := C1.setCell (p := ⟨B, 0, none⟩) (.inr hBw) _
  refine hK.out _ _ s2 (fun _ => ?_)
  clear hK K s1 b1 z1 C1
  generalize w1.setCell ⟨B, 0, none⟩ (I 1) = w2 at *
  refine tk 4 18 ?_ rfl s2 ?_ ?_; rotate_left
  · intro _ _; go_simp; try with_reducible rfl
  try go_frame
  refine rd 5 rfl (fun K hK => ?_); go_simp
  have b3 : (w2.setCell ⟨B, 4, none⟩ (U x)).heap[B]? = some (.cells (layC { p with ph := 1, count := x }) 72 (0, 0)) := by rw [zaa, if_pos rfl, b2, Option.map_some, zad, lay_s4]
  have s3 : (w2.setCell ⟨B, 4, none⟩ (U x)).heap[B + 1]? = some (.cells (seenC (N x) b) 93 (0, 0)) := by rw [zaa, if_neg (by omega)]; exact s2
  have z3 : (w2.setCell ⟨B, 4, none⟩ (U x)).heap[B + 1 + 1]? = some (.cells (layC zeroLay) 72 (0, 0)) := by rw [zaa, if_neg (by omega)]; exact z2
  have C3 : Ch [] w (w2.setCell ⟨B, 4, none⟩ (U x)) := C2.setCell (p := ⟨B, 4, none⟩) (.inr hBw) _
  refine hK.out _ _ s3 (fun _ => ?_)
  clear hK K s2 b2 z2 C2
  generalize w2.setCell ⟨B, 4, none⟩ (U x) = w3 at *
  refine wpAnyH_done (by kernel_rfl) ?_ _
  go_wp2
  refine bodyPost_ret (lay_result Tryz.results62 _ (B + 1 + 1) _ _ rfl ?_) rfl ⟨rfl, C3.onObj (p := B + 1 + 1) (.inr (by omega)) _⟩
  rw [zab, if_pos rfl, z3, Option.map_some, zaj]
theorem r20Take_1 (p : LayT) (hp : p.ph = 1) (x : BitVec 64) (b : Bool) (w : World) : Calls Tryz.prog 62 #[.agg (layC p), .agg (seenC (N x) b)] w fun e w' => e = .returned (.agg (layC (takeL p x))) ∧ Ch [] w w' := by
  rw [takeL_1 hp]
  obtain ⟨W0, hW0, C0, b0, y0, z0⟩ := take_world p (N x) b w
  go_enter Tryz.func62, Tryz.ntmps62
  go_upto_region 1 with (fail)
  try rw [hW0]
  clear hW0
  obtain ⟨B, hB⟩ : ∃ B, w.heap.size = B := ⟨_, rfl⟩
  rw [hB] at b0 y0 z0 ⊢
  have hBw : w.heap.size ≤ B := by omega
  clear hB
  go_wp2
  refine bodyPost_ret (lay_result Tryz.results62 _ (B + 1 + 1) _ _ rfl ?_) rfl ⟨rfl, ((C0.setCell (p := ⟨B, 0, none⟩) (.inr hBw) _).setCell (p := ⟨B, 5, none⟩) (.inr hBw) _).onObj (p := B + 1 + 1) (.inr (by omega)) _⟩
  simp [go_sem, b0, z0]
theorem r20Take_4 (p : LayT) (hp : p.ph = 4) (x : BitVec 64) (b : Bool) (w : World) : Calls Tryz.prog 62 #[.agg (layC p), .agg (seenC (N x) b)] w fun e w' => e = .returned (.agg (layC (takeL p x))) ∧ Ch [] w w' := by
  rw [takeL_4 hp]
  obtain ⟨W0, hW0, C0, b0, y0, z0⟩ := take_world p (N x) b w
  go_enter Tryz.func62, Tryz.ntmps62
  go_upto_region 1 with (fail)
  try rw [hW0]
  clear hW0
  obtain ⟨B, hB⟩ : ∃ B, w.heap.size = B := ⟨_, rfl⟩
  rw [hB] at b0 y0 z0 ⊢
  have hBw : w.heap.size ≤ B := by omega
  clear hB
  go_wp2
  refine bodyPost_ret (lay_result Tryz.results62 _ (B + 1 + 1) _ _ rfl ?_) rfl ⟨rfl, (C0.setCell (p := ⟨B, 0, none⟩) (.inr hBw) _).onObj (p := B + 1 + 1) (.inr (by omega)) _⟩
  simp [go_sem, b0, z0]
theorem r20Take_3y (p : LayT) (hp : p.ph = 3) (ha : p.at_ = 39) (x : BitVec 64) (b : Bool) (w : World) : Calls Tryz.prog 62 #[.agg (layC p), .agg (seenC (N x) b)] w fun e w' => e = .returned (.agg (layC (takeL p x))) ∧ Ch [] w w' := by
  rw [takeL_3y hp ha]
  obtain ⟨ph, who, sl, seed, cn, at_, ws, bad⟩ := p
  dsimp only at hp ha ⊢
  subst hp ha
  obtain ⟨W0, hW0, C0, b0, y0, z0⟩ := take_world ⟨3, who, sl, seed, cn, 39, ws, bad⟩ (N x) b w
  go_enter Tryz.func62, Tryz.ntmps62
  go_upto_region 1 with (fail)
  try rw [hW0]
  clear hW0
  obtain ⟨B, hB⟩ : ∃ B, w.heap.size = B := ⟨_, rfl⟩
  rw [hB] at b0 y0 z0 ⊢
  have hBw : w.heap.size ≤ B := by omega
  clear hB
  go_wp2
  refine bodyPost_ret (lay_result Tryz.results62 _ (B + 1 + 1) _ _ rfl ?_) rfl ⟨rfl, ((C0.setCell (p := ⟨B, 5, none⟩) (.inr hBw) _).setCell (p := ⟨B, 0, none⟩) (.inr hBw) _).onObj (p := B + 1 + 1) (.inr (by omega)) _⟩
  simp [go_sem, b0, z0]
theorem r20Take_3n (p : LayT) (hp : p.ph = 3) (j : Nat) (ha : p.at_ = (j : Int)) (hj : j < 39) (x : BitVec 64) (b : Bool) (w : World) : Calls Tryz.prog 62 #[.agg (layC p), .agg (seenC (N x) b)] w fun e w' => e = .returned (.agg (layC (takeL p x))) ∧ Ch [] w w' := by
  rw [takeL_3n hp (by omega)]
  obtain ⟨ph, who, sl, seed, cn, at_, ws, bad⟩ := p
  dsimp only at hp ha ⊢
  subst hp ha
  have hjI : (j : Int) < 39 := by omega
  have hj0 : (0 : Int) ≤ j := by omega
  have hw1 : IntKind.i64.wrap ((j : Int) + 1) = (j : Int) + 1 := by rw [IntKind.wrap_i64]; omega
  have hn : ((j : Int) + 1 == 40) = false := by simp; omega
  obtain ⟨W0, hW0, C0, b0, y0, z0⟩ := take_world ⟨3, who, sl, seed, cn, (j : Int), ws, bad⟩ (N x) b w
  go_enter Tryz.func62, Tryz.ntmps62
  go_upto_region 1 with (fail)
  try rw [hW0]
  clear hW0
  obtain ⟨B, hB⟩ : ∃ B, w.heap.size = B := ⟨_, rfl⟩
  rw [hB] at b0 y0 z0 ⊢
  have hBw : w.heap.size ≤ B := by omega
  clear hB
  go_wp2
  refine bodyPost_ret (lay_result Tryz.results62 _ (B + 1 + 1) _ _ rfl ?_) rfl ⟨rfl, (C0.setCell (p := ⟨B, 5, none⟩) (.inr hBw) _).onObj (p := B + 1 + 1) (.inr (by omega)) _⟩
  simp [go_sem, b0, z0]
theorem r20Take_2n (p : LayT) (hp : p.ph = 2) (j : Nat) (ha : p.at_ = (j : Int)) (hj : j < 39) (x : BitVec 64) (b : Bool) (w : World) : Calls Tryz.prog 62 #[.agg (layC p), .agg (seenC (N x) b)] w fun e w' => e = .returned (.agg (layC (takeL p x))) ∧ Ch [] w w' := by
  rw [takeL_2n hp (by omega)]
  obtain ⟨ph, who, sl, seed, cn, at_, ws, bad⟩ := p
  dsimp only at hp ha ⊢
  subst hp ha
  have hjI : (j : Int) < 39 := by omega
  have hj0 : (0 : Int) ≤ j := by omega
  have hw1 : IntKind.i64.wrap ((j : Int) + 1) = (j : Int) + 1 := by rw [IntKind.wrap_i64]; omega
  have hn : ((j : Int) + 1 == 40) = false := by simp; omega
  have HN : (layC ⟨2, who, sl, seed, cn, (j : Int), ws, bad⟩).setIfInBounds (6 + j) (U x) = layC ⟨2, who, sl, seed, cn, (j : Int), updW ws j x, bad⟩ := lay_sw _ j (by omega) x
  have hts : ((j : Int)).toNat = j := by omega
  rw [hts]
  obtain ⟨o1, ho1⟩ : ∃ v, (layC ⟨2, who, sl, seed, cn, (j : Int), ws, bad⟩)[6 + j]? = some v := ⟨_, lay_gw _ j (by omega)⟩
  have hjI4 : (j : Int) < 40 := by omega
  obtain ⟨W0, hW0, C0, b0, y0, z0⟩ := take_world ⟨2, who, sl, seed, cn, (j : Int), ws, bad⟩ (N x) b w
  go_enter Tryz.func62, Tryz.ntmps62
  go_upto_region 1 with (fail)
  try rw [hW0]
  clear hW0
  obtain ⟨B, hB⟩ : ∃ B, w.heap.size = B := ⟨_, rfl⟩
  rw [hB] at b0 y0 z0 ⊢
  have hBw : w.heap.size ≤ B := by omega
  clear hB
  go_upto_region 11 with (fail)
  have b1 : (W0.setCell ⟨B, 6 + j, none⟩ (U x)).heap[B]? = some (.cells (layC ⟨2, who, sl, seed, cn, (j : Int), updW ws j x, bad⟩) 72 (0, 0)) := by rw [zaa, if_pos rfl, b0, Option.map_some, zad, HN]
  have z1 : (W0.setCell ⟨B, 6 + j, none⟩ (U x)).heap[B + 1 + 1]? = some (.cells (layC zeroLay) 72 (0, 0)) := by rw [zaa, if_neg (by omega)]; exact z0
  have C1 : Ch [] w (W0.setCell ⟨B, 6 + j, none⟩ (U x)) := C0.setCell (p := ⟨B, 6 + j, none⟩) (.inr hBw) _
  obtain ⟨w1, hw1'⟩ : ∃ W, W0.setCell ⟨B, 6 + j, none⟩ (U x) = W := ⟨_, rfl⟩
  rw [hw1'] at b1 z1 C1 ⊢
  clear hw1' b0 y0 z0 C0 HN ho1
  go_wp2
  refine bodyPost_ret (lay_result Tryz.results62 _ (B + 1 + 1) _ _ rfl ?_) rfl ⟨rfl, (C1.setCell (p := ⟨B, 5, none⟩) (.inr hBw) _).onObj (p := B + 1 + 1) (.inr (by omega)) _⟩
  simp [go_sem, b1, z1]
theorem r20Take_2y (p : LayT) (hp : p.ph = 2) (ha : p.at_ = 39) (x : BitVec 64) (b : Bool) (w : World) : Calls Tryz.prog 62 #[.agg (layC p), .agg (seenC (N x) b)] w fun e w' => e = .returned (.agg (layC (takeL p x))) ∧ Ch [] w w' := by
  rw [takeL_2y hp ha]
  obtain ⟨ph, who, sl, seed, cn, at_, ws, bad⟩ := p
  dsimp only at hp ha ⊢
  subst hp ha
  have L1 := fun w => r20Laid_any ⟨2, who, sl, seed, cn, 40, updW (updW ws 39 x) 0 cn, bad⟩ (by show updW (updW ws 39 x) 0 cn 0 = cn; unfold updW; rw [if_pos rfl]) w
  have HN1 : (layC ⟨2, who, sl, seed, cn, 39, ws, bad⟩).setIfInBounds 45 (U x) = layC ⟨2, who, sl, seed, cn, 39, updW ws 39 x, bad⟩ := lay_sw _ 39 (by omega) x
  have HN2 : (layC ⟨2, who, sl, seed, cn, 40, updW ws 39 x, bad⟩).setIfInBounds 6 (U cn) = layC ⟨2, who, sl, seed, cn, 40, updW (updW ws 39 x) 0 cn, bad⟩ := lay_sw _ 0 (by omega) cn
  obtain ⟨o1, ho1⟩ : ∃ v, (layC ⟨2, who, sl, seed, cn, 39, ws, bad⟩)[45]? = some v := ⟨_, lay_gw _ 39 (by omega)⟩
  obtain ⟨o2, ho2⟩ : ∃ v, (layC ⟨2, who, sl, seed, cn, 40, updW ws 39 x, bad⟩)[6]? = some v := ⟨_, lay_gw _ 0 (by omega)⟩
  obtain ⟨dd, hdd⟩ : ∃ d, laidL ⟨2, who, sl, seed, cn, 40, updW (updW ws 39 x) 0 cn, bad⟩ = d := ⟨_, rfl⟩
  rw [hdd] at L1 ⊢
  clear hdd
  obtain ⟨W0, hW0, C0, b0, y0, z0⟩ := take_world ⟨2, who, sl, seed, cn, 39, ws, bad⟩ (N x) b w
  go_enter Tryz.func62, Tryz.ntmps62
  go_upto_region 1 with (fail)
  try rw [hW0]
  clear hW0
  obtain ⟨B, hB⟩ : ∃ B, w.heap.size = B := ⟨_, rfl⟩
  rw [hB] at b0 y0 z0 ⊢
  have hBw : w.heap.size ≤ B := by omega
  clear hB
  go_upto_region 11 with (fail)
  have b1 : (W0.setCell ⟨B, 45, none⟩ (U x)).heap[B]? = some (.cells (layC ⟨2, who, sl, seed, cn, 39, updW ws 39 x, bad⟩) 72 (0, 0)) := by rw [zaa, if_pos rfl, b0, Option.map_some, zad, HN1]
  have z1 : (W0.setCell ⟨B, 45, none⟩ (U x)).heap[B + 1 + 1]? = some (.cells (layC zeroLay) 72 (0, 0)) := by rw [zaa, if_neg (by omega)]; exact z0
  have C1 : Ch [] w (W0.setCell ⟨B, 45, none⟩ (U x)) := C0.setCell (p := ⟨B, 45, none⟩) (.inr hBw) _
  obtain ⟨w1, hw1'⟩ : ∃ W, W0.setCell ⟨B, 45, none⟩ (U x) = W := ⟨_, rfl⟩
  rw [hw1'] at b1 z1 C1 ⊢
  clear hw1' b0 y0 z0 C0 HN1 ho1
  go_upto_region 13 with (fail)
  have b2 : (w1.setCell ⟨B, 5, none⟩ (I 40)).heap[B]? = some (.cells (layC ⟨2, who, sl, seed, cn, 40, updW ws 39 x, bad⟩) 72 (0, 0)) := by rw [zaa, if_pos rfl, b1, Option.map_some, zad, lay_s5]
  have z2 : (w1.setCell ⟨B, 5, none⟩ (I 40)).heap[B + 1 + 1]? = some (.cells (layC zeroLay) 72 (0, 0)) := by rw [zaa, if_neg (by omega)]; exact z1
  have C2 : Ch [] w (w1.setCell ⟨B, 5, none⟩ (I 40)) := C1.setCell (p := ⟨B, 5, none⟩) (.inr hBw) _
  obtain ⟨w2, hw2'⟩ : ∃ W, w1.setCell ⟨B, 5, none⟩ (I 40) = W := ⟨_, rfl⟩
  first | rw [hw2'] at b2 z2 C2 ⊢ | (trace_state; fail)
  clear hw2' b1 z1 C1
  go_upto_region 14 with (fail)
  have b3 : (w2.setCell ⟨B, 6, none⟩ (U cn)).heap[B]? = some (.cells (layC ⟨2, who, sl, seed, cn, 40, updW (updW ws 39 x) 0 cn, bad⟩) 72 (0, 0)) := by rw [zaa, if_pos rfl, b2, Option.map_some, zad, HN2]
  have z3 : (w2.setCell ⟨B, 6, none⟩ (U cn)).heap[B + 1 + 1]? = some (.cells (layC zeroLay) 72 (0, 0)) := by rw [zaa, if_neg (by omega)]; exact z2
  have C3 : Ch [] w (w2.setCell ⟨B, 6, none⟩ (U cn)) := C2.setCell (p := ⟨B, 6, none⟩) (.inr hBw) _
  obtain ⟨w3, hw3'⟩ : ∃ W, w2.setCell ⟨B, 6, none⟩ (U cn) = W := ⟨_, rfl⟩
  rw [hw3'] at b3 z3 C3 ⊢
  clear hw3' b2 z2 C2 HN2 ho2
  go_wp2_with fail
  refine (L1 _).mono ?_
  rintro e w4 ⟨rfl, hc4⟩
  have z4 := hkeep hc4 z3
  have C4 := C3.trans hc4
  clear b3 z3 C3 hc4 L1
  go_wp2
  refine bodyPost_ret (lay_result Tryz.results62 _ (B + 1 + 1) _ _ rfl ?_) rfl ⟨rfl, C4.onObj (p := B + 1 + 1) (.inr (by omega)) _⟩
  rw [zab, if_pos rfl, z4, Option.map_some, zaj]
theorem r20Take_any (p : LayT) (hr : rightL p = true) (h4 : p.ph ≤ 4) (x : BitVec 64) (b : Bool) (w : World) : Calls Tryz.prog 62 #[.agg (layC p), .agg (seenC (N x) b)] w fun e w' => e = .returned (.agg (layC (takeL p x))) ∧ Ch [] w w' := by
  have R := (zdc p).1 hr
  have h0 := R.ph0
  have hat := R.at_
  rcases (show p.ph = 0 ∨ p.ph = 1 ∨ p.ph = 2 ∨ p.ph = 3 ∨ p.ph = 4 by omega) with h | h | h | h | h
  · cases ho : oddB x with
    | true => exact r20Take_0y p h x ho b w
    | false => exact r20Take_0n p h x ho b w
  · exact r20Take_1 p h x b w
  · by_cases ha : p.at_ = 39
    · exact r20Take_2y p h ha x b w
    · exact r20Take_2n p h p.at_.toNat (by omega) (by omega) x b w
  · by_cases ha : p.at_ = 39
    · exact r20Take_3y p h ha x b w
    · exact r20Take_3n p h p.at_.toNat (by omega) (by omega) x b w
  · exact r20Take_4 p h x b w
end
end Go.Proofs.Hc
