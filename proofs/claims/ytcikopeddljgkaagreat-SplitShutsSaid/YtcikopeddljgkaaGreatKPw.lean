/- Package split: Need, Begin. -/
import Derived.Test.YtcikopeddljgkaaGreatKPg
import Derived.Test.YtcikopeddljgkaaGreatKPv
import Derived.Test.YtcikopeddljgkaaGreatK0
set_option linter.unusedSimpArgs false
set_option linter.unusedVariables false
set_option maxHeartbeats 2000000
set_option maxRecDepth 100000
namespace Go.Proofs.Hc
open Go.RowKit
attribute [local go_sem] zbr zby zau zba zbl zay zbk zbm zbu signed64 signed8 zas BitVec.ofInt_add BitVec.ofInt_mul ofInt_sub' zaw zax wide8 eqN neN zbx shr1 shr7 shr56
attribute [local go_sem high] zaz zbt
attribute [local go_sem] zan zbv zae zal zad zbd zao zag zbj zaj zbc zbe
attribute [local go_sem] load26 load73 load23 store26 build73
attribute [local go_sem ↓] lrow26 lrow73 lrow23 srow26 zero26 brow73 zab zav zbb zaa zac
attribute [local go_sem] zah zaq zat zbf zbg zbp zam zar zbq zbi zbh
attribute [local go_sem] nn2 nm2 nn3 nm3 nn4 nm4 nn5 nm5 nn6 nm6 nn7 nm7 nn8 nm8
section
attribute [local go_sem] acc_g0 acc_g1 acc_g2 acc_g4 acc_s0 acc_s1 acc_s2 acc_s4 zcu accC_one accC_all loadAcc storeAcc bacc0 bacc2 bacc3 bacc3u bacc4
attribute [local go_sem ↓] lrowAcc srowAcc browAcc zct
attribute [local go_sem high] zce
attribute [local go_sem] zas zbo
attribute [local go_sem] Oper.semAt_some zak
attribute [local go_sem] zch pacell0 pacell1 pacell2 pacell3 pacell4 pacell5 pacell6 pacell7 pacell42
attribute [local go_sem] zcv zdi zde zcz zcy zdd zdh zdc zcc zcp zdj zdg zck zbn zcg zci boxPart loadPart storePart zcd zcs buildPart0 buildPart4
attribute [local go_sem ↓] lrowPart srowPart browPart zcj zbw
attribute [local go_sem high] zap
attribute [local irreducible] partC
attribute [local irreducible] accC
theorem s22need_any (p : PartT) (a : AccT) (h : needS p = some a) (g : Nat) (w : World) (hg : w.heap[g]? = some (.cells (partC p) 179 (0, 0))) :
    Calls Tryz.prog 114 #[.pointer (some ⟨g, 0, none⟩)] w fun e w' => e = .returned (.agg (accC p.who a.kind a.at_ (N a.new))) ∧ Ch [] w w' := by
  obtain ⟨R, h6, rfl⟩ := needS_right h
  have h0 := R.ph0
  dsimp only
  by_cases h5 : p.ph = 5
  · rw [if_pos (Or.inl h5), if_pos h5, show whereS p = 16 + 40 * p.sl by unfold whereS; rw [h5]; rfl]
    exact s22Need_shut p R h5 g w hg
  · by_cases h6' : p.ph = 6
    · rw [if_pos (Or.inr h6'), if_neg h5, if_pos h6']
      have ha := R.at6 h6'
      have hw : whereS p = 16 + 40 * (if p.at_.toNat < 40 then p.t0 else p.t1) + ((p.at_.toNat % 40 : Nat) : Int) := by
        have e1 : p.at_ % 40 = ((p.at_.toNat % 40 : Nat) : Int) := by omega
        unfold whereS
        rw [h6', e1]
        by_cases h40 : p.at_ < 40
        · rw [if_pos h40, if_pos (show p.at_.toNat < 40 by omega)]; rfl
        · rw [if_neg h40, if_neg (show ¬ p.at_.toNat < 40 by omega)]; rfl
      rw [hw]
      exact s22Need_lay p R h6' p.at_.toNat _ _ (by omega) (by omega) rfl rfl _ rfl g w hg
    · rw [if_neg (by omega), if_neg h5, if_neg h6']
      exact s22Need_load p R p.ph.toNat (by omega) (by omega) g w hg
def needSV (who : Int) : Option AccT → Value
  | none => .tuple #[.agg (accC 0 0 0 0), .bool false]
  | some x => .tuple #[.agg (accC who x.kind x.at_ (N x.new)), .bool true]
theorem snew_part (p : PartT) (w : World) : ∃ W, (w.alloc (.cells (partC p) 51)).alloc (.cells (accC 0 0 0 0) 87) = W ∧ Ch [] w W ∧ W.heap[w.heap.size]? = some (.cells (partC p) 51 (0, 0)) ∧ W.heap[w.heap.size + 1]? = some (.cells (accC 0 0 0 0) 87 (0, 0)) :=
  ⟨_, rfl, ((Ch.refl [] w).alloc _).alloc _, by rw [zab, if_neg (by simp), zab, if_pos rfl], by rw [zab, if_pos (by simp)]⟩
theorem acct_results {fn : Func} {p q : Tmp} (h : fn.results = #[.cell p 87, .tmp q]) (tmps : Array Value) (b : Nat) (w : World) (x y z u : Int) (v : Value) (hp : tmps.getD p undef = .pointer (some ⟨b, 0, none⟩)) (hq : tmps.getD q undef = v)
    (hb : w.heap[b]? = some (.cells (accC x y z u) 87 (0, 0))) : (results fn tmps).run Tryz.prog w = .ok (.tuple #[.agg (accC x y z u), v]) w := by
  have hl := run_loadVar_row (P := Tryz.prog) w b 87 87 (accC x y z u) (0, 0) _ hb Tryz.underlying87 rfl (by rw [zcu]; kernel_rfl)
  have hp' : tmps[p]?.getD undef = .pointer (some ⟨b, 0, none⟩) := by simpa using hp
  have hq' : tmps[q]?.getD undef = v := by simpa using hq
  simp [results, h, hp', hq', asAddr, hl]
theorem s22Need_no (p : PartT) (h : needS p = none) (w : World) : Calls Tryz.prog 47 #[.agg (partC p)] w fun e w' => e = .returned (.tuple #[.agg (accC 0 0 0 0), .bool false]) ∧ Ch [] w w' := by
  have C1 := fun w => pCheck_any p w
  have hc : checkS p = 320 ∨ checkS p = 0 ∧ 6 < p.ph := by
    unfold needS at h
    unfold checkS
    cases hr : rightS p with
    | false => left; rfl
    | true =>
      right
      rw [hr, Bool.true_and] at h
      refine ⟨rfl, ?_⟩
      by_cases h6 : p.ph ≤ 6
      · rw [decide_eq_true h6, if_pos rfl] at h; cases h
      · omega
  obtain ⟨c, hcc⟩ : ∃ c, checkS p = c := ⟨_, rfl⟩
  rw [hcc] at C1 hc
  clear hcc h
  obtain ⟨w0, hw0, C0, b0, z0⟩ := snew_part p w
  rcases hc with rfl | ⟨rfl, h6⟩
  all_goals
    go_enter Tryz.func47, Tryz.ntmps47
    go_wp2_with fail
    try rw [hw0]
    clear hw0
    obtain ⟨B, hB⟩ : ∃ B, w.heap.size = B := ⟨_, rfl⟩
    rw [hB] at b0 z0 ⊢
    have hBw : w.heap.size ≤ B := by omega
    clear hB
    refine (C1 _).mono ?_
    rintro e w1 ⟨rfl, hc1⟩
    have b1 := hkeep hc1 b0
    have z1 := hkeep hc1 z0
    have D1 := C0.trans hc1
    clear b0 z0 C0 hc1 C1
    go_wp2
    refine bodyPost_ret (acct_results Tryz.results47 _ (B + 1) _ 0 0 0 0 _ rfl rfl ?_) rfl ⟨rfl, D1.onObj (p := B + 1) (.inr (by omega)) _⟩
    rw [zac, if_pos rfl, z1, Option.map_some, zce]
theorem s22Need_yes (p : PartT) (a : AccT) (h : needS p = some a) (w : World) : Calls Tryz.prog 47 #[.agg (partC p)] w fun e w' => e = .returned (.tuple #[.agg (accC p.who a.kind a.at_ (N a.new)), .bool true]) ∧ Ch [] w w' := by
  have C1 := fun w => pCheck_any p w
  obtain ⟨R, h6, _⟩ := needS_right h
  rw [show checkS p = 0 by unfold checkS; rw [(zcx p).2 R]; rfl] at C1
  have N1 := fun g w hg => s22need_any p a h g w hg
  obtain ⟨w0, hw0, C0, b0, z0⟩ := snew_part p w
  obtain ⟨wh, hwh⟩ : ∃ x, p.who = x := ⟨_, rfl⟩
  obtain ⟨kd, hkd⟩ : ∃ x, a.kind = x := ⟨_, rfl⟩
  obtain ⟨at_, hat_⟩ : ∃ x, a.at_ = x := ⟨_, rfl⟩
  obtain ⟨nw, hnw⟩ : ∃ x, N a.new = x := ⟨_, rfl⟩
  rw [hwh, hkd, hat_, hnw] at N1 ⊢
  clear hwh hkd hat_ hnw h R
  go_enter Tryz.func47, Tryz.ntmps47
  go_wp2_with fail
  try rw [hw0]
  clear hw0
  obtain ⟨B, hB⟩ : ∃ B, w.heap.size = B := ⟨_, rfl⟩
  rw [hB] at b0 z0 ⊢
  have hBw : w.heap.size ≤ B := by omega
  clear hB
  refine (C1 _).mono ?_
  rintro e w1 ⟨rfl, hc1⟩
  have b1 := hkeep hc1 b0
  have z1 := hkeep hc1 z0
  have D1 := C0.trans hc1
  clear b0 z0 C0 hc1 C1
  go_wp2_with fail
  have hc2 : Ch [] w1 (w1.alloc (.cells (partC p) 179)) := (Ch.refl [] w1).alloc _
  have g2 : (w1.alloc (.cells (partC p) 179)).heap[w1.heap.size]? = some (.cells (partC p) 179 (0, 0)) := by rw [zab, if_pos rfl]
  have z2 := hkeep hc2 z1
  have D2 := D1.trans hc2
  refine (N1 _ _ g2).mono ?_
  rintro e w3 ⟨rfl, hc3⟩
  have z3 := hkeep hc3 z2
  have D3 := D2.trans hc3
  clear b1 z1 D1 hc2 g2 z2 D2 hc3 N1
  go_wp2
  refine bodyPost_ret (acct_results Tryz.results47 _ (B + 1) _ wh kd at_ nw _ rfl rfl ?_) rfl ⟨rfl, D3.onObj (p := B + 1) (.inr (by omega)) _⟩
  rw [zac, if_pos rfl, z3, Option.map_some, zce]
theorem s22Need_any (p : PartT) (w : World) : Calls Tryz.prog 47 #[.agg (partC p)] w fun e w' => e = .returned (needSV p.who (needS p)) ∧ Ch [] w w' := by
  cases h : needS p with
  | none => exact s22Need_no p h w
  | some a => exact s22Need_yes p a h w
end
section
attribute [local go_sem] acc_g0 acc_g1 acc_g2 acc_g4 acc_s0 acc_s1 acc_s2 acc_s4 zcu accC_one accC_all loadAcc storeAcc bacc0 bacc2 bacc3 bacc3u bacc4
attribute [local go_sem ↓] lrowAcc srowAcc browAcc zct
attribute [local go_sem high] zce
attribute [local go_sem] zcw seenC_one seenC_all seenC_g0 loadSeen storeSeen buildSeen buildSeen0
attribute [local go_sem ↓] lrowSeen srowSeen browSeen zdk
attribute [local go_sem high] zcq
attribute [local irreducible] seenC
attribute [local go_sem] zas zbo
attribute [local go_sem] Oper.semAt_some zak
attribute [local go_sem] zch pacell0 pacell1 pacell2 pacell3 pacell4 pacell5 pacell6 pacell7 pacell42
attribute [local go_sem] zcv zdi zde zcz zcy zdd zdh zdc zcc zcp zdj zdg zck zbn zcg zci boxPart loadPart storePart zcd zcs buildPart0 buildPart4
attribute [local go_sem ↓] lrowPart srowPart browPart zcj zbw
attribute [local go_sem high] zap
attribute [local irreducible] partC
attribute [local irreducible] accC
attribute [local go_sem] boxSeen
theorem s22step_results {fn : Func} {p q u : Tmp} (h : fn.results = #[.tmp p, .cell q 51, .tmp u]) (tmps : Array Value) (b : Nat) (w : World) (d : PartT) (v y : Value) (hp : tmps.getD p undef = v) (hq : tmps.getD q undef = .pointer (some ⟨b, 0, none⟩)) (hu : tmps.getD u undef = y)
    (hb : w.heap[b]? = some (.cells (partC d) 51 (0, 0))) : (results fn tmps).run Tryz.prog w = .ok (.tuple #[v, .agg (partC d), y]) w := by
  have hl := run_loadVar_row (P := Tryz.prog) w b 51 51 (partC d) (0, 0) _ hb Tryz.underlying51 rfl (by rw [zbn]; kernel_rfl)
  have hp' : tmps[p]?.getD undef = v := by simpa using hp
  have hq' : tmps[q]?.getD undef = .pointer (some ⟨b, 0, none⟩) := by simpa using hq
  have hu' : tmps[u]?.getD undef = y := by simpa using hu
  simp [results, h, hp', hq', hu', asAddr, hl]
theorem step_world22 (p : PartT) (w : World) : ∃ W, (w.alloc (.cells (partC p) 51)).alloc (.cells (partC zeroPart) 51) = W ∧ Ch [] w W ∧ W.heap[w.heap.size]? = some (.cells (partC p) 51 (0, 0)) ∧ W.heap[w.heap.size + 1]? = some (.cells (partC zeroPart) 51 (0, 0)) :=
  ⟨_, rfl, ((Ch.refl [] w).alloc _).alloc _, by rw [zab, if_neg (by simp), zab, if_pos rfl], by rw [zab, if_pos (by simp)]⟩
theorem accv_put22 (a b c d : Int) (w : World) : (World.onObj (w.alloc (.cells (accC 0 0 0 0) 87)) w.heap.size (laidAt 0 (accC a b c d))).heap[w.heap.size]? = some (.cells (accC a b c d) 87 (0, 0)) := by
  rw [zac, if_pos rfl, zab, if_pos rfl, Option.map_some, zce]
theorem zdb (a b c d : Int) (w : World) : Ch [] w (World.onObj (w.alloc (.cells (accC 0 0 0 0) 87)) w.heap.size (laidAt 0 (accC a b c d))) := ((Ch.refl [] w).alloc _).onObj (.inr (Nat.le_refl _)) _
theorem seen_put22 (x : Int) (b : Bool) (w : World) : (World.onObj (w.alloc (.cells (seenC 0 false) 93)) w.heap.size (laidAt 0 (seenC x b))).heap[w.heap.size]? = some (.cells (seenC x b) 93 (0, 0)) := by
  rw [zac, if_pos rfl, zab, if_pos rfl, Option.map_some, zcq]
theorem seen_put22_ch (x : Int) (b : Bool) (w : World) : Ch [] w (World.onObj (w.alloc (.cells (seenC 0 false) 93)) w.heap.size (laidAt 0 (seenC x b))) := ((Ch.refl [] w).alloc _).onObj (.inr (Nat.le_refl _)) _
theorem s22Step_over (l : List (BitVec 64)) (g c : Nat) (cur : Array Value) (p : PartT) (hr : rightS p = true) (hn : needS p = none) (w : World) (h1 : 1 ≤ l.length) (hl : l.length ≤ 8192) (hb : w.heap[g]? = some (.cells cur 22 (0, 0))) (hw : WordsAt cur l) : Calls Tryz.prog 52 #[.slice (some ⟨g, 0, none⟩) l.length c, .agg (partC p)] w fun e w' => ∃ R, e = .returned (.tuple #[.slice (some ⟨R, 0, none⟩) l.length l.length, .agg (partC p), I 0]) ∧ w.heap.size ≤ R ∧ w'.heap[R]? = some (.cells (wcells l) 22 (0, 0)) ∧ Ch [] w w' := by
  have O1 := fun w h => s22own_any l g c cur w (by omega) h hw
  obtain ⟨n, hnl⟩ : ∃ n, l.length = n := ⟨_, rfl⟩
  rw [hnl] at O1 h1 hl ⊢
  clear hw hnl
  have M1 := fun w => s22some_any (some ⟨g, 0, none⟩) n c w
  rw [decide_eq_true h1, decide_eq_true hl, Bool.and_true] at M1
  have R1 := fun w => pCheck_any p w
  rw [checkS_yes hr] at R1
  have N1 := fun w => s22Need_any p w
  rw [hn] at N1
  simp only [needSV] at N1
  clear hn
  clear hr
  obtain ⟨w0, hW0, C0, b0, z0⟩ := step_world22 p w
  have c0 := hkeep C0 hb
  clear hb h1 hl
  skip
  go_enter Tryz.func52, Tryz.ntmps52
  go_wp2_with fail
  try rw [hW0]
  clear hW0
  refine (M1 _).mono ?_
  rintro e w' ⟨rfl, rfl⟩
  obtain ⟨B, hB⟩ : ∃ B, w.heap.size = B := ⟨_, rfl⟩
  rw [hB] at b0 z0 ⊢
  have hBw : w.heap.size ≤ B := by omega
  clear hB M1
  go_wp2_with fail
  refine (R1 _).mono ?_
  rintro e w1 ⟨rfl, hc1⟩
  have b1 := hkeep (hc1) b0
  have z1 := hkeep (hc1) z0
  have c1 := hkeep (hc1) c0
  have C1 := C0.trans (hc1)
  clear b0 z0 c0 C0 hc1 
  clear R1
  go_wp2_with fail
  refine (N1 _).mono ?_
  rintro e w2 ⟨rfl, hc2⟩
  have b2 := hkeep (hc2) b1
  have z2 := hkeep (hc2) z1
  have c2 := hkeep (hc2) c1
  have C2 := C1.trans (hc2)
  clear b1 z1 c1 C1 hc2 
  clear N1
  have nb := nsz b2
  have nz : ¬ (B + 1) = w2.heap.size := by have := zaf z2; omega
  have nc := nsz c2
  go_upto_region 6 with (fail)
  clear nb nz nc
  have hcp2 := zdb 0 0 0 0 w2
  have b3 := hkeep (hcp2) b2
  have z3 := hkeep (hcp2) z2
  have c3 := hkeep (hcp2) c2
  have C3 := C2.trans (hcp2)
  have a3 := accv_put22 0 0 0 0 w2
  have lbAA := zaf b2
  have lzAA := zaf z2
  have lcAA := zaf c2
  have hlAA := C2.size
  clear b2 z2 c2 C2 hcp2
  obtain ⟨w3, hw3⟩ : ∃ W, World.onObj (w2.alloc (.cells (accC 0 0 0 0) 87)) w2.heap.size (laidAt 0 (accC 0 0 0 0)) = W := ⟨_, rfl⟩
  rw [hw3] at b3 z3 c3 a3 C3  ⊢
  clear hw3
  obtain ⟨AA, hbAA⟩ : ∃ b, w2.heap.size = b := ⟨_, rfl⟩
  rw [hbAA] at a3 hlAA lbAA lzAA lcAA ⊢
  clear hbAA
  go_upto_region 7 with (fail)
  have s1 : (fun W' : World => W'.heap[B]? = some (.cells (partC p) 51 (0, 0))) w3.drew := b3
  have z1 : w3.drew.heap[B + 1]? = some (.cells (partC zeroPart) 51 (0, 0)) := z3
  have c1 : w3.drew.heap[g]? = _ := c3
  have C1 : Ch [] w w3.drew := C3.drew
  refine wp_region_held_drew (S := fun W' => W'.heap[B]? = some (.cells (partC p) 51 (0, 0))) (by kernel_rfl) s1 ?_
  intro _
  simp only [List.size_toArray, List.length_cons, List.length_nil, Nat.reduceAdd]
  clear b3 z3 c3 a3 C3
  generalize w3.drew = w1 at *
  refine tk 0 30 ?_ rfl s1 ?_ ?_; rotate_left
  · intro _ _; go_simp; try with_reducible rfl
  try go_frame
  refine tk 2 32 ?_ rfl s1 ?_ ?_; rotate_left
  · intro _ _; go_simp; try with_reducible rfl
  try go_frame
  refine rd (o := ⟨some 31, _, _, _, _, none⟩) 1 rfl (fun K hK => ?_); go_simp
  refine (O1 _ c1).mono ?_
  rintro e w2 ⟨rfl, hR, hc2⟩
  have s2 := hkeep hc2 s1
  have z2 := hkeep hc2 z1
  have C2 := C1.trans hc2
  have hRw : w.heap.size ≤ w1.heap.size := C1.size
  have hzl := (Array.getElem?_eq_some_iff.1 z1).1
  refine hK.out _ _ s2 (fun _ => ?_)
  clear hK K hc2 s1 z1 c1 C1
  obtain ⟨R, hRe⟩ : ∃ R, w1.heap.size = R := ⟨_, rfl⟩
  rw [hRe] at hR hRw hzl ⊢
  have hRz : ¬ R = B + 1 := by omega
  clear hRe hzl
  refine tk 3 4 ?_ rfl s2 ?_ ?_; rotate_left
  · intro _ _; go_simp; try with_reducible rfl
  try go_frame
  refine rd 4 rfl (fun K hK => ?_); go_simp
  have s3 : (World.onObj w2 (B + 1) (laidAt 0 (partC p))).heap[B]? = some (.cells (partC p) 51 (0, 0)) := by rw [zac, if_neg (by omega)]; exact s2
  have z3 : (World.onObj w2 (B + 1) (laidAt 0 (partC p))).heap[B + 1]? = some (.cells (partC p) 51 (0, 0)) := by rw [zac, if_pos rfl, z2, Option.map_some, zap]
  have r3 := (zai (w := w2) (F := B + 1) (laidAt 0 (partC p)) hRz).trans hR
  have C3 : Ch [] w (World.onObj w2 (B + 1) (laidAt 0 (partC p))) := C2.onObj (.inr (by omega)) _
  refine hK.out _ _ s3 (fun _ => ?_)
  clear hK K s2 z2 hR C2
  generalize (World.onObj w2 (B + 1) (laidAt 0 (partC p))) = w3 at *
  refine tk 5 6 ?_ rfl s3 ?_ ?_; rotate_left
  · intro _ _; go_simp; try with_reducible rfl
  try go_frame
  refine wpAnyH_done (by kernel_rfl) ?_ _
  go_wp2
  exact bodyPost_ret (s22step_results Tryz.results52 _ (B + 1) _ p _ _ rfl rfl rfl z3) rfl ⟨R, rfl, hRw, r3, C3⟩
theorem s22Step_out (n g c : Nat) (cur : Array Value) (p : PartT) (kd at_ nw : Int) (hr : rightS p = true) (N1 : ∀ w, Calls Tryz.prog 47 #[.agg (partC p)] w fun e w' => e = .returned (.tuple #[.agg (accC p.who kd at_ nw), .bool true]) ∧ Ch [] w w') (D1 : ∀ w, w.heap[g]? = some (.cells cur 22 (0, 0)) → Calls Tryz.prog 118 #[.slice (some ⟨g, 0, none⟩) n c, .agg (accC p.who kd at_ nw)] w fun e w' => e = .returned (.tuple #[.slice none 0 0, .agg (seenC 0 false), I 2]) ∧ Ch [] w w') (w : World) (h1 : 1 ≤ n) (hl : n ≤ 8192) (hb : w.heap[g]? = some (.cells cur 22 (0, 0))) : Calls Tryz.prog 52 #[.slice (some ⟨g, 0, none⟩) n c, .agg (partC p)] w fun e w' => e = .returned (.tuple #[.slice none 0 0, .agg (partC zeroPart), I 2]) ∧ Ch [] w w' := by
  have M1 := fun w => s22some_any (some ⟨g, 0, none⟩) n c w
  rw [decide_eq_true h1, decide_eq_true hl, Bool.and_true] at M1
  have R1 := fun w => pCheck_any p w
  rw [checkS_yes hr] at R1
  clear hr
  obtain ⟨w0, hW0, C0, b0, z0⟩ := step_world22 p w
  have c0 := hkeep C0 hb
  clear hb h1 hl
  skip
  go_enter Tryz.func52, Tryz.ntmps52
  go_wp2_with fail
  try rw [hW0]
  clear hW0
  refine (M1 _).mono ?_
  rintro e w' ⟨rfl, rfl⟩
  obtain ⟨B, hB⟩ : ∃ B, w.heap.size = B := ⟨_, rfl⟩
  rw [hB] at b0 z0 ⊢
  have hBw : w.heap.size ≤ B := by omega
  clear hB M1
  go_wp2_with fail
  refine (R1 _).mono ?_
  rintro e w1 ⟨rfl, hc1⟩
  have b1 := hkeep (hc1) b0
  have z1 := hkeep (hc1) z0
  have c1 := hkeep (hc1) c0
  have C1 := C0.trans (hc1)
  clear b0 z0 c0 C0 hc1 
  clear R1
  go_wp2_with fail
  refine (N1 _).mono ?_
  rintro e w2 ⟨rfl, hc2⟩
  have b2 := hkeep (hc2) b1
  have z2 := hkeep (hc2) z1
  have c2 := hkeep (hc2) c1
  have C2 := C1.trans (hc2)
  clear b1 z1 c1 C1 hc2 
  clear N1
  have nb := nsz b2
  have nz : ¬ (B + 1) = w2.heap.size := by have := zaf z2; omega
  have nc := nsz c2
  go_upto_region 6 with (fail)
  clear nb nz nc
  have hcp2 := zdb p.who kd at_ nw w2
  have b3 := hkeep (hcp2) b2
  have z3 := hkeep (hcp2) z2
  have c3 := hkeep (hcp2) c2
  have C3 := C2.trans (hcp2)
  have a3 := accv_put22 p.who kd at_ nw w2
  have lbAA := zaf b2
  have lzAA := zaf z2
  have lcAA := zaf c2
  have hlAA := C2.size
  clear b2 z2 c2 C2 hcp2
  obtain ⟨w3, hw3⟩ : ∃ W, World.onObj (w2.alloc (.cells (accC 0 0 0 0) 87)) w2.heap.size (laidAt 0 (accC p.who kd at_ nw)) = W := ⟨_, rfl⟩
  rw [hw3] at b3 z3 c3 a3 C3  ⊢
  clear hw3
  obtain ⟨AA, hbAA⟩ : ∃ b, w2.heap.size = b := ⟨_, rfl⟩
  rw [hbAA] at a3 hlAA lbAA lzAA lcAA ⊢
  clear hbAA
  go_wp2_with fail
  refine (D1 _ c3).mono ?_
  rintro e w4 ⟨rfl, hc4⟩
  have b4 := hkeep (hc4) b3
  have z4 := hkeep (hc4) z3
  have c4 := hkeep (hc4) c3
  have a4 := hkeep (hc4) a3
  have C4 := C3.trans (hc4)
  clear b3 z3 c3 a3 C3 hc4 
  clear D1
  have nb := nsz b4
  have nz : ¬ (B + 1) = w4.heap.size := by have := zaf z4; omega
  have nc := nsz c4
  have na := nsz a4
  go_upto_region 9 with (fail)
  clear nb nz nc na
  have hcp4 := seen_put22_ch 0 false w4
  have b5 := hkeep (hcp4) b4
  have z5 := hkeep (hcp4) z4
  have c5 := hkeep (hcp4) c4
  have a5 := hkeep (hcp4) a4
  have C5 := C4.trans (hcp4)
  have y5 := seen_put22 0 false w4
  have lbYY := zaf b4
  have lzYY := zaf z4
  have lcYY := zaf c4
  have laYY := zaf a4
  have hlYY := C4.size
  clear b4 z4 c4 a4 C4 hcp4
  obtain ⟨w5, hw5⟩ : ∃ W, World.onObj (w4.alloc (.cells (seenC 0 false) 93)) w4.heap.size (laidAt 0 (seenC 0 false)) = W := ⟨_, rfl⟩
  rw [hw5] at b5 z5 c5 a5 y5 C5  ⊢
  clear hw5
  obtain ⟨YY, hbYY⟩ : ∃ b, w4.heap.size = b := ⟨_, rfl⟩
  rw [hbYY] at y5 hlYY lbYY lzYY lcYY laYY ⊢
  clear hbYY
  go_wp2
  refine bodyPost_ret (s22step_results Tryz.results52 _ (B + 1) _ zeroPart _ _ rfl rfl rfl ?_) rfl ⟨rfl, C5.onObj (p := B + 1) (.inr (by omega)) _⟩
  rw [zac, if_pos rfl, z5, Option.map_some, zap]
theorem s22Step_go (n g c : Nat) (cur : Array Value) (p : PartT) (cu2 : Array Value) (p2 : PartT) (kd at_ nw : Int) (x : BitVec 64) (hr : rightS p = true) (N1 : ∀ w, Calls Tryz.prog 47 #[.agg (partC p)] w fun e w' => e = .returned (.tuple #[.agg (accC p.who kd at_ nw), .bool true]) ∧ Ch [] w w') (D1 : ∀ w, w.heap[g]? = some (.cells cur 22 (0, 0)) → Calls Tryz.prog 118 #[.slice (some ⟨g, 0, none⟩) n c, .agg (accC p.who kd at_ nw)] w fun e w' => ∃ R, e = .returned (.tuple #[.slice (some ⟨R, 0, none⟩) n n, .agg (seenC (N x) true), I 0]) ∧ w.heap.size ≤ R ∧ w'.heap[R]? = some (.cells cu2 22 (0, 0)) ∧ Ch [] w w') (T1 : ∀ w, Calls Tryz.prog 50 #[.agg (partC p), .agg (seenC (N x) true)] w fun e w' => e = .returned (.tuple #[.agg (partC p2), I 0]) ∧ Ch [] w w') (w : World) (h1 : 1 ≤ n) (hl : n ≤ 8192) (hb : w.heap[g]? = some (.cells cur 22 (0, 0))) : Calls Tryz.prog 52 #[.slice (some ⟨g, 0, none⟩) n c, .agg (partC p)] w fun e w' => ∃ R, e = .returned (.tuple #[.slice (some ⟨R, 0, none⟩) n n, .agg (partC p2), I 0]) ∧ w.heap.size ≤ R ∧ w'.heap[R]? = some (.cells cu2 22 (0, 0)) ∧ Ch [] w w' := by
  have M1 := fun w => s22some_any (some ⟨g, 0, none⟩) n c w
  rw [decide_eq_true h1, decide_eq_true hl, Bool.and_true] at M1
  have R1 := fun w => pCheck_any p w
  rw [checkS_yes hr] at R1
  clear hr
  obtain ⟨w0, hW0, C0, b0, z0⟩ := step_world22 p w
  have c0 := hkeep C0 hb
  clear hb h1 hl
  skip
  go_enter Tryz.func52, Tryz.ntmps52
  go_wp2_with fail
  try rw [hW0]
  clear hW0
  refine (M1 _).mono ?_
  rintro e w' ⟨rfl, rfl⟩
  obtain ⟨B, hB⟩ : ∃ B, w.heap.size = B := ⟨_, rfl⟩
  rw [hB] at b0 z0 ⊢
  have hBw : w.heap.size ≤ B := by omega
  clear hB M1
  go_wp2_with fail
  refine (R1 _).mono ?_
  rintro e w1 ⟨rfl, hc1⟩
  have b1 := hkeep (hc1) b0
  have z1 := hkeep (hc1) z0
  have c1 := hkeep (hc1) c0
  have C1 := C0.trans (hc1)
  clear b0 z0 c0 C0 hc1 
  clear R1
  go_wp2_with fail
  refine (N1 _).mono ?_
  rintro e w2 ⟨rfl, hc2⟩
  have b2 := hkeep (hc2) b1
  have z2 := hkeep (hc2) z1
  have c2 := hkeep (hc2) c1
  have C2 := C1.trans (hc2)
  clear b1 z1 c1 C1 hc2 
  clear N1
  have nb := nsz b2
  have nz : ¬ (B + 1) = w2.heap.size := by have := zaf z2; omega
  have nc := nsz c2
  go_upto_region 6 with (fail)
  clear nb nz nc
  have hcp2 := zdb p.who kd at_ nw w2
  have b3 := hkeep (hcp2) b2
  have z3 := hkeep (hcp2) z2
  have c3 := hkeep (hcp2) c2
  have C3 := C2.trans (hcp2)
  have a3 := accv_put22 p.who kd at_ nw w2
  have lbAA := zaf b2
  have lzAA := zaf z2
  have lcAA := zaf c2
  have hlAA := C2.size
  clear b2 z2 c2 C2 hcp2
  obtain ⟨w3, hw3⟩ : ∃ W, World.onObj (w2.alloc (.cells (accC 0 0 0 0) 87)) w2.heap.size (laidAt 0 (accC p.who kd at_ nw)) = W := ⟨_, rfl⟩
  rw [hw3] at b3 z3 c3 a3 C3  ⊢
  clear hw3
  obtain ⟨AA, hbAA⟩ : ∃ b, w2.heap.size = b := ⟨_, rfl⟩
  rw [hbAA] at a3 hlAA lbAA lzAA lcAA ⊢
  clear hbAA
  go_wp2_with fail
  have hSn := C3.size
  refine (D1 _ c3).mono ?_
  rintro e w4 ⟨R, rfl, hRw0, r4, hc4⟩
  have b4 := hkeep (hc4) b3
  have z4 := hkeep (hc4) z3
  have c4 := hkeep (hc4) c3
  have a4 := hkeep (hc4) a3
  have C4 := C3.trans (hc4)
  clear b3 z3 c3 a3 C3 hc4 
  have hRw := Nat.le_trans hSn hRw0
  clear D1
  skip
  have nb := nsz b4
  have nz : ¬ (B + 1) = w4.heap.size := by have := zaf z4; omega
  have nc := nsz c4
  have na := nsz a4
  have nr := nsz r4
  go_upto_region 9 with (fail)
  clear nb nz nc na nr
  have hcp4 := seen_put22_ch (N x) true w4
  have b5 := hkeep (hcp4) b4
  have z5 := hkeep (hcp4) z4
  have c5 := hkeep (hcp4) c4
  have a5 := hkeep (hcp4) a4
  have r5 := hkeep (hcp4) r4
  have C5 := C4.trans (hcp4)
  have y5 := seen_put22 (N x) true w4
  have lbYY := zaf b4
  have lzYY := zaf z4
  have lcYY := zaf c4
  have laYY := zaf a4
  have lrYY := zaf r4
  have hlYY := C4.size
  clear b4 z4 c4 a4 r4 C4 hcp4
  obtain ⟨w5, hw5⟩ : ∃ W, World.onObj (w4.alloc (.cells (seenC 0 false) 93)) w4.heap.size (laidAt 0 (seenC (N x) true)) = W := ⟨_, rfl⟩
  rw [hw5] at b5 z5 c5 a5 r5 y5 C5  ⊢
  clear hw5
  obtain ⟨YY, hbYY⟩ : ∃ b, w4.heap.size = b := ⟨_, rfl⟩
  rw [hbYY] at y5 hlYY lbYY lzYY lcYY laYY lrYY ⊢
  clear hbYY
  go_wp2_with fail
  refine (T1 _).mono ?_
  rintro e w6 ⟨rfl, hc6⟩
  have b6 := hkeep (hc6) b5
  have z6 := hkeep (hc6) z5
  have c6 := hkeep (hc6) c5
  have a6 := hkeep (hc6) a5
  have r6 := hkeep (hc6) r5
  have y6 := hkeep (hc6) y5
  have C6 := C5.trans (hc6)
  clear b5 z5 c5 a5 r5 y5 C5 hc6 
  clear T1
  have nb := nsz b6
  have nz : ¬ (B + 1) = w6.heap.size := by have := zaf z6; omega
  have nc := nsz c6
  have na := nsz a6
  have nr := nsz r6
  have ny := nsz y6
  go_upto_region 12 with (fail)
  clear nb nz nc na nr ny
  have hcp6 := part_put_ch p2 w6
  have b7 := hkeep (hcp6) b6
  have z7 := hkeep (hcp6) z6
  have c7 := hkeep (hcp6) c6
  have a7 := hkeep (hcp6) a6
  have r7 := hkeep (hcp6) r6
  have y7 := hkeep (hcp6) y6
  have C7 := C6.trans (hcp6)
  have t7 := part_put p2 w6
  have lbTT := zaf b6
  have lzTT := zaf z6
  have lcTT := zaf c6
  have laTT := zaf a6
  have lrTT := zaf r6
  have lyTT := zaf y6
  have hlTT := C6.size
  clear b6 z6 c6 a6 r6 y6 C6 hcp6
  obtain ⟨w7, hw7⟩ : ∃ W, World.onObj (w6.alloc (.cells (partC zeroPart) 51)) w6.heap.size (laidAt 0 (partC p2)) = W := ⟨_, rfl⟩
  rw [hw7] at b7 z7 c7 a7 r7 y7 t7 C7  ⊢
  clear hw7
  obtain ⟨TT, hbTT⟩ : ∃ b, w6.heap.size = b := ⟨_, rfl⟩
  rw [hbTT] at t7 hlTT lbTT lzTT lcTT laTT lrTT lyTT ⊢
  clear hbTT
  have s1 : (fun W' : World => W'.heap[TT]? = some (.cells (partC p2) 51 (0, 0))) w7.drew := t7
  have z1 : w7.drew.heap[B + 1]? = some (.cells (partC zeroPart) 51 (0, 0)) := z7
  have r1 : w7.drew.heap[R]? = _ := r7
  have C1 : Ch [] w w7.drew := C7.drew
  refine wp_region_held_drew (S := fun W' => W'.heap[TT]? = some (.cells (partC p2) 51 (0, 0))) (by kernel_rfl) s1 ?_
  intro _
  simp only [List.size_toArray, List.length_cons, List.length_nil, Nat.reduceAdd]
  clear b7 z7 c7 a7 r7 y7 t7 C7
  generalize w7.drew = w1 at *
  have hRz : ¬ R = B + 1 := zcf r1 z1 (by decide)
  have hTz : ¬ TT = B + 1 := by omega
  refine tk 0 49 ?_ rfl s1 ?_ ?_; rotate_left
  · intro _ _; go_simp; try with_reducible rfl
  try go_frame
  refine tk 1 50 ?_ rfl s1 ?_ ?_; rotate_left
  · intro _ _; go_simp; try with_reducible rfl
  try go_frame
  refine tk 2 51 ?_ rfl s1 ?_ ?_; rotate_left
  · intro _ _; go_simp; try with_reducible rfl
  try go_frame
  refine tk 3 4 ?_ rfl s1 ?_ ?_; rotate_left
  · intro _ _; go_simp; try with_reducible rfl
  try go_frame
  refine rd 4 rfl (fun K hK => ?_); go_simp
  have s3 : (World.onObj w1 (B + 1) (laidAt 0 (partC p2))).heap[TT]? = some (.cells (partC p2) 51 (0, 0)) := by rw [zac, if_neg hTz]; exact s1
  have z3 : (World.onObj w1 (B + 1) (laidAt 0 (partC p2))).heap[B + 1]? = some (.cells (partC p2) 51 (0, 0)) := by rw [zac, if_pos rfl, z1, Option.map_some, zap]
  have r3 := (zai (w := w1) (F := B + 1) (laidAt 0 (partC p2)) hRz).trans r1
  have C3 : Ch [] w (World.onObj w1 (B + 1) (laidAt 0 (partC p2))) := C1.onObj (.inr (by omega)) _
  refine hK.out _ _ s3 (fun _ => ?_)
  clear hK K s1 z1 r1 C1
  generalize (World.onObj w1 (B + 1) (laidAt 0 (partC p2))) = w3 at *
  refine tk 5 6 ?_ rfl s3 ?_ ?_; rotate_left
  · intro _ _; go_simp; try with_reducible rfl
  try go_frame
  refine wpAnyH_done (by kernel_rfl) ?_ _
  go_wp2
  exact bodyPost_ret (s22step_results Tryz.results52 _ (B + 1) _ p2 _ _ rfl rfl rfl z3) rfl ⟨R, rfl, hRw, r3, C3⟩
end
end Go.Proofs.Hc
