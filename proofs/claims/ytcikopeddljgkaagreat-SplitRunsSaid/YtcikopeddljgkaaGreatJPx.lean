/- Package split: head. -/
import Derived.Test.YtcikopeddljgkaaGreatJPt2
set_option linter.unusedSimpArgs false
set_option linter.unusedVariables false
set_option maxHeartbeats 4000000
set_option maxRecDepth 100000
namespace Go.Proofs.Hc
open Go.RowKit
attribute [local go_sem] zbu zcc zax zbf zbo zbd zbn zbp zbw signed64 signed8 zap BitVec.ofInt_add BitVec.ofInt_mul ofInt_sub' zbb zbc wide8 eqN neN zca shr1 shr7 shr56
attribute [local go_sem high] zbe zbv
attribute [local go_sem] zaw zby zaj zas zaf zaz zar zak zbm zal zay zba
attribute [local go_sem] load26 load73 load23 store26 build73
attribute [local go_sem ↓] lrow26 lrow73 lrow23 srow26 zero26 brow73 zae zbk zbg zaa zab
attribute [local go_sem] zai zav zat zbj zbl zbr zaq zau zbs zbi zbh
attribute [local go_sem] nn2 nm2 nn3 nm3 nn4 nm4 nn5 nm5 nn6 nm6 nn7 nm7 nn8 nm8
section
attribute [local go_sem] zap zbq
attribute [local go_sem] Oper.semAt_some zao
attribute [local go_sem] zcj pacell0 pacell1 pacell2 pacell3 pacell4 pacell5 pacell6 pacell7 pacell42
attribute [local go_sem] zcs zcx zcp zcw zcv zdg zcu zdf zce zcr zdj zdc zch zbt zci zck boxPart loadPart storePart zcf zct buildPart0 buildPart4
attribute [local go_sem ↓] lrowPart srowPart browPart zcl zbz
attribute [local go_sem high] zag
attribute [local irreducible] partC
theorem s22head_any (p : PartT) (g : Nat) (x : BitVec 64) (w : World) (hg : w.heap[g]? = some (.cells (partC p) 179 (0, 0))) :
    Calls Tryz.prog 174 #[.pointer (some ⟨g, 0, none⟩), U x] w fun e w' => e = .returned (.tuple #[]) ∧ w'.heap[g]? = some (.cells (partC (headS p x)) 179 (0, 0)) ∧ Ch [g] w w' := by
  obtain ⟨d, hd⟩ : ∃ d : Nat, (x &&& 255#64).toNat = d := ⟨_, rfl⟩
  have P1 := fun w hg => s22parts_any { p with head := x, at_ := 0, ph := 2 } g w hg
  dsimp only at P1
  rw [show N (x &&& 255#64) = (d : Int) by unfold N; rw [hd]] at P1
  unfold headS
  rw [hd]
  clear hd
  obtain ⟨q, hq⟩ : ∃ q : PartT, { p with head := x, at_ := 0, ph := 2 } = q := ⟨_, rfl⟩
  have hq9 : { p with head := x, at_ := 0, ph := 9 } = { q with ph := 9 } := by rw [← hq]
  have HC : ((((partC p).setIfInBounds 7 (U x)).setIfInBounds 42 (I 0)).setIfInBounds 0 (I 2)) = partC q := by rw [zdc, zch, zcr, ← hq]
  rw [hq9, hq]
  rw [hq] at P1
  clear hq9 hq
  have g1 : (((w.setCell ⟨g, 7, none⟩ (U x)).setCell ⟨g, 42, none⟩ (I 0)).setCell ⟨g, 0, none⟩ (I 2)).heap[g]? = some (.cells (partC q) 179 (0, 0)) := by
    rw [zaa, if_pos rfl, zaa, if_pos rfl, zaa, if_pos rfl, hg, Option.map_some, Option.map_some, Option.map_some, zaf, zaf, zaf, HC]
  have C1 : Ch [g] w (((w.setCell ⟨g, 7, none⟩ (U x)).setCell ⟨g, 42, none⟩ (I 0)).setCell ⟨g, 0, none⟩ (I 2)) := (((Ch.refl [g] w).setCell (p := ⟨g, 7, none⟩) (.inl (by simp)) _).setCell (p := ⟨g, 42, none⟩) (.inl (by simp)) _).setCell (p := ⟨g, 0, none⟩) (.inl (by simp)) _
  have e7 : ∃ y, (partC p)[7]? = some y := ⟨_, zdf p⟩
  clear HC
  have hc : (5 : Int) ≤ d ∧ decide (5 ≤ d) = true ∨ ¬ (5 : Int) ≤ d ∧ decide (5 ≤ d) = false ∧ ((x >>> 8 >>> d != 0#64) = true ∨ (x >>> 8 >>> d != 0#64) = false) := by
    by_cases h : 5 ≤ d
    · left; exact ⟨by omega, by simp [h]⟩
    · right; exact ⟨by omega, by simp; omega, by cases (x >>> 8 >>> d != 0#64) <;> simp⟩
  obtain ⟨y8, hy8⟩ : ∃ y, x >>> 8 = y := ⟨_, rfl⟩
  rw [hy8] at P1 hc ⊢
  clear hy8
  obtain ⟨dd, hdd⟩ : ∃ z, (if (decide (5 ≤ d) || (y8 >>> d != 0#64)) = true then { q with ph := 9 } else q) = z := ⟨_, rfl⟩
  rw [hdd]
  have hc' : (5 : Int) ≤ d ∧ dd = { q with ph := 9 } ∨ ¬ (5 : Int) ≤ d ∧ ((y8 >>> d != 0#64) = true ∧ dd = { q with ph := 9 } ∨ (y8 >>> d != 0#64) = false ∧ dd = q) := by
    rcases hc with ⟨h5, hb⟩ | ⟨h5, hb, h0 | h0⟩
    · left; exact ⟨h5, by rw [← hdd, hb, Bool.true_or, if_pos rfl]⟩
    · right; exact ⟨h5, .inl ⟨h0, by rw [← hdd, h0, Bool.or_true, if_pos rfl]⟩⟩
    · right; exact ⟨h5, .inr ⟨h0, by rw [← hdd, h0, hb, if_neg (by decide)]⟩⟩
  clear hdd hc
  have hd0 : (0 : Int) ≤ d := by omega
  go_enter Tryz.func174, Tryz.ntmps174
  go_upto_region 1 with (fail)
  obtain ⟨w1, hw1⟩ : ∃ W, ((w.setCell ⟨g, 7, none⟩ (U x)).setCell ⟨g, 42, none⟩ (I 0)).setCell ⟨g, 0, none⟩ (I 2) = W := ⟨_, rfl⟩
  rw [hw1] at g1 C1 ⊢
  clear hw1 hg e7
  go_wp2_with fail
  refine (P1 _ g1).mono ?_
  rintro e w2 ⟨rfl, hc2⟩
  have g2 := hkeep hc2 g1
  have C2 := C1.trans hc2.of_nil
  clear g1 C1 hc2 P1
  have e0 : (N (y8 >>> d) != 0) = (y8 >>> d != 0#64) := neN (y8 >>> d) 0#64
  rw [← e0] at hc'
  clear e0
  rcases hc' with ⟨h5, rfl⟩ | ⟨h5, ⟨h0, rfl⟩ | ⟨h0, rfl⟩⟩
  · go_wp2
    go_end0
    exact ⟨rfl, by rw [zaa, if_pos rfl, g2, Option.map_some, zaf, zcr], C2.setCell (p := ⟨g, 0, none⟩) (.inl (by simp)) _⟩
  · go_wp2
    go_end0
    exact ⟨rfl, by rw [zaa, if_pos rfl, g2, Option.map_some, zaf, zcr], C2.setCell (p := ⟨g, 0, none⟩) (.inl (by simp)) _⟩
  · go_wp2
    go_end0
    exact ⟨rfl, g2, C2⟩
end
section
attribute [local go_sem] acc_g0 acc_g1 acc_g2 acc_g4 acc_s0 acc_s1 acc_s2 acc_s4 accC_size accC_one accC_all loadAcc storeAcc bacc0 bacc2 bacc3 bacc3u bacc4
attribute [local go_sem ↓] lrowAcc srowAcc browAcc zeroAcc_run
attribute [local go_sem high] zah
attribute [local go_sem] seenC_size seenC_one seenC_all seenC_g0 loadSeen storeSeen buildSeen buildSeen0
attribute [local go_sem ↓] lrowSeen srowSeen browSeen zeroSeen_run
attribute [local go_sem high] zam
attribute [local irreducible] seenC
attribute [local go_sem] zap zbq
attribute [local go_sem] Oper.semAt_some zao
attribute [local go_sem] layC_idx lcell0 lcell1 lcell2 lcell3 lcell4 lcell5 lcell46
attribute [local go_sem] lay_g0 lay_g1 lay_g2 lay_g3 lay_g4 lay_g5 lay_g46 lay_s0 lay_s4 lay_s5 lay_s46 layC_size layC_one layC_all layC_ws boxLay loadLay storeLay build_lay box_lay buildLay0 buildLay2 buildLay3
attribute [local go_sem ↓] lrowLay srowLay browLay brow_lay zeroLay_run
attribute [local go_sem high] laidAt_lay
attribute [local irreducible] layC
attribute [local irreducible] accC
attribute [local go_sem high] tmod2_64w bit64w bit64zw
theorem boxSeen (x : Int) (b : Bool) (w : World) : (Instr.box 93 (.agg (seenC x b))).run Tryz.prog w = .ok (.pointer (some ⟨w.heap.size, 0, none⟩)) (w.alloc (.cells (seenC x b) 93)) := rfl
attribute [local go_sem] boxSeen
end
section
attribute [local go_sem] zap zbq
attribute [local go_sem] Oper.semAt_some zao
attribute [local go_sem] zcj pacell0 pacell1 pacell2 pacell3 pacell4 pacell5 pacell6 pacell7 pacell42
attribute [local go_sem] zcs zcx zcp zcw zcv zdg zcu zdf zce zcr zdj zdc zch zbt zci zck boxPart loadPart storePart zcf zct buildPart0 buildPart4
attribute [local go_sem ↓] lrowPart srowPart browPart zcl zbz
attribute [local go_sem high] zag
attribute [local irreducible] partC
def take22V : Array Value := #[.func (.func 173) #[] #[], .func (.func 174) #[] #[], .func (.func 175) #[] #[], .func (.func 176) #[] #[], .func (.func 177) #[] #[], .func (.func 178) #[] #[], .func (.func 179) #[] #[]]
def take22Z : Array Value := Array.replicate 7 (.nilFunc)
theorem take22V_size : take22V.size = 7 := rfl
theorem take22Z_size : take22Z.size = 7 := rfl
theorem take22V_one : allOne take22V = true := by unfold allOne take22V; simp [Value.oneCell']
theorem brow_take22 (ps : Array (Nat × Value)) : Instr.build 259 ps = buildRow 259 ps := rfl
theorem build_take22 (w : World) : (buildRow 259 #[(0, .func (.func 173) #[] #[]), (1, .func (.func 174) #[] #[]), (2, .func (.func 175) #[] #[]), (3, .func (.func 176) #[] #[]), (4, .func (.func 177) #[] #[]), (5, .func (.func 178) #[] #[]), (6, .func (.func 179) #[] #[])]).run Tryz.prog w = .ok (.agg take22V) w := by kernel_rfl
theorem zero_take22 (w : World) : (zeroValue 259).run Tryz.prog w = .ok (.agg take22Z) w := by kernel_rfl
theorem store_take22 (g o : Nat) (vs : Array Value) (w : World) : (storeRow 259 ⟨g, o, none⟩ (.agg vs)).run Tryz.prog w = layRes Tryz.prog 259 g o vs w (((w.heap[g]?).map (canLay o 7 vs)).getD false) :=
  run_lay (by kernel_rfl) g o vs w
theorem srow_take22 (a : Addr) (v : Value) : storeVar 259 a v = storeRow 259 a v := rfl
theorem laidAt_take22 (t : TypeId) (fr : Nat × Nat) : laidAt 0 take22V (.cells take22Z t fr) = .cells take22V t fr := by
  rw [zak, laid_whole _ _ (by rw [take22Z_size, take22V_size])]
attribute [local go_sem] build_take22 store_take22 take22V_one take22V_size take22Z_size
attribute [local go_sem ↓] brow_take22 zero_take22 srow_take22
attribute [local go_sem high] laidAt_take22
attribute [local irreducible] take22V take22Z
theorem s22take_core (p q : PartT) (n k g : Nat) (x : BitVec 64) (hp : p.ph = (n : Int)) (hn : n < 7) (hk : take22V[n]? = some (.func (.func k) #[] #[])) (hdf : ∀ args w, (callFunc k args).run Tryz.prog w = .ok (.enter k args) w)
    (X1 : ∀ (w : World), w.heap[g]? = some (.cells (partC p) 179 (0, 0)) → Calls Tryz.prog k #[.pointer (some ⟨g, 0, none⟩), U x] w fun e w' => e = .returned (.tuple #[]) ∧ w'.heap[g]? = some (.cells (partC q) 179 (0, 0)) ∧ Ch [g] w w') (w : World) (hg : w.heap[g]? = some (.cells (partC p) 179 (0, 0))) :
    Calls Tryz.prog 115 #[.pointer (some ⟨g, 0, none⟩), U x] w fun e w' => e = .returned (.tuple #[]) ∧ w'.heap[g]? = some (.cells (partC q) 179 (0, 0)) ∧ Ch [g] w w' := by
  have e0 : (partC p)[0]? = some (I (n : Int)) := by rw [zcs, hp]
  have hnI : (n : Int) < 7 := by omega
  have hn0 : (0 : Int) ≤ n := by omega
  have C0 : Ch [] w (World.onObj (w.alloc (.cells take22Z 259)) w.heap.size (laidAt 0 take22V)) := ((Ch.refl [] w).alloc _).onObj (.inr (Nat.le_refl _)) _
  have z0 : (World.onObj (w.alloc (.cells take22Z 259)) w.heap.size (laidAt 0 take22V)).heap[w.heap.size]? = some (.cells take22V 259 (0, 0)) := by rw [zab, if_pos rfl, zae, if_pos rfl, Option.map_some, laidAt_take22]
  have g0 := hkeep C0 hg
  have hgB := (Array.getElem?_eq_some_iff.1 hg).1
  obtain ⟨pc, hpc⟩ : ∃ c, partC p = c := ⟨_, rfl⟩
  rw [hpc] at g0 X1 e0
  clear hg hpc hp
  go_enter Tryz.func115, Tryz.ntmps115
  go_upto_region 1 with (fail)
  obtain ⟨w0, hw0⟩ : ∃ W, World.onObj (w.alloc (.cells take22Z 259)) w.heap.size (laidAt 0 take22V) = W := ⟨_, rfl⟩
  rw [hw0] at C0 z0 g0 ⊢
  clear hw0
  obtain ⟨B, hB⟩ : ∃ B, w.heap.size = B := ⟨_, rfl⟩
  rw [hB] at z0 hgB ⊢
  clear hB
  go_wp2_with fail
  refine (X1 _ g0).mono ?_
  rintro e w1 ⟨rfl, g1, hc1⟩
  go_wp2
  go_end0
  exact ⟨rfl, g1, C0.of_nil.trans hc1⟩
theorem s22take_any (p : PartT) (hr : rightS p = true) (h6 : p.ph ≤ 6) (g : Nat) (x : BitVec 64) (w : World) (hg : w.heap[g]? = some (.cells (partC p) 179 (0, 0))) :
    Calls Tryz.prog 115 #[.pointer (some ⟨g, 0, none⟩), U x] w fun e w' => e = .returned (.tuple #[]) ∧ w'.heap[g]? = some (.cells (partC (takeS p x)) 179 (0, 0)) ∧ Ch [g] w w' := by
  have R := (zdk p).1 hr
  have h0 := R.ph0
  have a2 := R.at2
  have a3 := R.at3
  have a6 := R.at6
  rcases (show p.ph = 0 ∨ p.ph = 1 ∨ p.ph = 2 ∨ p.ph = 3 ∨ p.ph = 4 ∨ p.ph = 5 ∨ p.ph = 6 by omega) with h | h | h | h | h | h | h
  · have e : takeS p x = if oddB x then { p with ph := 8 } else { p with ph := 1, count := x } := by unfold takeS; rw [if_pos h]
    rw [e]
    exact s22take_core p _ 0 173 g x h (by omega) (by kernel_rfl) Tryz.call173 (fun w hg => s22look_any p g x w hg) w hg
  · have e : takeS p x = headS p x := by unfold takeS; rw [if_neg (by omega), if_pos h]
    rw [e]
    exact s22take_core p _ 1 174 g x h (by omega) (by kernel_rfl) Tryz.call174 (fun w hg => s22head_any p g x w hg) w hg
  · have := a2 h
    have e : takeS p x = if p.at_ = 1 then onS { p with c := updW p.c 1 x, at_ := 2 } 0 else { p with c := updW p.c 0 x, at_ := 1 } := by unfold takeS; rw [if_neg (by omega), if_neg (by omega), if_pos h]
    rw [e]
    exact s22take_core p _ 2 175 g x h (by omega) (by kernel_rfl) Tryz.call175 (fun w hg => s22ctrl_any p g x this.1 this.2 w hg) w hg
  · have := a3 (.inl h)
    have e : takeS p x = { p with k := updW p.k p.at_.toNat x, ph := 4 } := by unfold takeS; rw [if_neg (by omega), if_neg (by omega), if_neg (by omega), if_pos h]
    rw [e]
    exact s22take_core p _ 3 176 g x h (by omega) (by kernel_rfl) Tryz.call176 (fun w hg => s22key_any p g p.at_.toNat x (by omega) (by omega) w hg) w hg
  · have := a3 (.inr h)
    have e : takeS p x = onS { p with v := updW p.v p.at_.toNat x } (p.at_.toNat + 1) := by unfold takeS; rw [if_neg (by omega), if_neg (by omega), if_neg (by omega), if_neg (by omega), if_pos h]
    rw [e]
    exact s22take_core p _ 4 177 g x h (by omega) (by kernel_rfl) Tryz.call177 (fun w hg => s22value_any p g p.at_.toNat x (by omega) (by omega) w hg) w hg
  · have e : takeS p x = { p with at_ := 0, ph := 6 } := by unfold takeS; rw [if_neg (by omega), if_neg (by omega), if_neg (by omega), if_neg (by omega), if_neg (by omega), if_pos h]
    rw [e]
    exact s22take_core p _ 5 178 g x h (by omega) (by kernel_rfl) Tryz.call178 (fun w hg => s22shut_any p g x w hg) w hg
  · have := a6 h
    have e : takeS p x = { p with at_ := p.at_ + 1, ph := if p.at_ = 79 then 7 else 6 } := by unfold takeS; rw [if_neg (by omega), if_neg (by omega), if_neg (by omega), if_neg (by omega), if_neg (by omega), if_neg (by omega)]
    rw [e]
    exact s22take_core p _ 6 179 g x h (by omega) (by kernel_rfl) Tryz.call179 (fun w hg => s22lay_any p g x this.1 this.2 h w hg) w hg
end
section
attribute [local go_sem] seenC_size seenC_one seenC_all seenC_g0 loadSeen storeSeen buildSeen buildSeen0
attribute [local go_sem ↓] lrowSeen srowSeen browSeen zeroSeen_run
attribute [local go_sem high] zam
attribute [local irreducible] seenC
attribute [local go_sem] zap zbq
attribute [local go_sem] Oper.semAt_some zao
attribute [local go_sem] zcj pacell0 pacell1 pacell2 pacell3 pacell4 pacell5 pacell6 pacell7 pacell42
attribute [local go_sem] zcs zcx zcp zcw zcv zdg zcu zdf zce zcr zdj zdc zch zbt zci zck boxPart loadPart storePart zcf zct buildPart0 buildPart4
attribute [local go_sem ↓] lrowPart srowPart browPart zcl zbz
attribute [local go_sem high] zag
attribute [local irreducible] partC
attribute [local go_sem] boxSeen
theorem take_world22 (p : PartT) (x : Int) (b : Bool) (w : World) : ∃ W, ((w.alloc (.cells (partC p) 51)).alloc (.cells (seenC x b) 93)).alloc (.cells (partC zeroPart) 51) = W ∧ Ch [] w W ∧ W.heap[w.heap.size]? = some (.cells (partC p) 51 (0, 0)) ∧ W.heap[w.heap.size + 1]? = some (.cells (seenC x b) 93 (0, 0)) ∧ W.heap[w.heap.size + 1 + 1]? = some (.cells (partC zeroPart) 51 (0, 0)) :=
  ⟨_, rfl, (((Ch.refl [] w).alloc _).alloc _).alloc _, by rw [zae, if_neg (by simp; omega), zae, if_neg (by simp), zae, if_pos rfl], by rw [zae, if_neg (by simp), zae, if_pos (by simp)], by rw [zae, if_pos (by simp)]⟩
theorem s22Take_yes (p : PartT) (hr : rightS p = true) (h6 : p.ph ≤ 6) (x : BitVec 64) (b : Bool) (w : World) : Calls Tryz.prog 50 #[.agg (partC p), .agg (seenC (N x) b)] w fun e w' => e = .returned (.tuple #[.agg (partC (takeS p x)), I 0]) ∧ Ch [] w w' := by
  have R1 := fun w => pCheck_any p w
  rw [checkS_yes hr] at R1
  have X1 := fun g w hg => s22take_any p hr h6 g x w hg
  generalize takeS p x = p2 at *
  obtain ⟨W0, hW0, C0, b0, y0, z0⟩ := take_world22 p (N x) b w
  clear hr
  go_enter Tryz.func50, Tryz.ntmps50
  go_wp2_with fail
  try rw [hW0]
  refine (R1 _).mono ?_
  rintro e w1 ⟨rfl, hc1⟩
  have b1 := hkeep hc1 b0
  have y1 := hkeep hc1 y0
  have z1 := hkeep hc1 z0
  have C1 := C0.trans hc1
  clear b0 y0 z0 C0 hc1 hW0 R1
  go_upto_region 7 with (fail)
  obtain ⟨B, hB⟩ : ∃ B, w.heap.size = B := ⟨_, rfl⟩
  have hBw : w.heap.size ≤ B := by omega
  rw [hB] at b1 y1 z1 ⊢
  clear hB
  have hc2 : Ch [] w1 (w1.alloc (.cells (partC p) 179)) := (Ch.refl [] w1).alloc _
  have g2 : (w1.alloc (.cells (partC p) 179)).heap[w1.heap.size]? = some (.cells (partC p) 179 (0, 0)) := by rw [zae, if_pos rfl]
  have b2 := hkeep hc2 b1
  have y2 := hkeep hc2 y1
  have z2 := hkeep hc2 z1
  have C2 := C1.trans hc2
  have k1 := (Array.getElem?_eq_some_iff.1 b1).1
  have k2 := (Array.getElem?_eq_some_iff.1 y1).1
  have k3 := (Array.getElem?_eq_some_iff.1 z1).1
  have hCw := C1.size
  clear b1 y1 z1 C1 hc2
  obtain ⟨w2, hw2⟩ : ∃ W, w1.alloc (.cells (partC p) 179) = W := ⟨_, rfl⟩
  rw [hw2] at g2 b2 y2 z2 C2 ⊢
  clear hw2
  obtain ⟨G, hG⟩ : ∃ G, w1.heap.size = G := ⟨_, rfl⟩
  rw [hG] at g2 k1 k2 k3 hCw ⊢
  clear hG
  have n3 : ¬ B + 1 + 1 = G := by omega
  clear k1 k2 k3 b2
  go_wp2_with fail
  refine (X1 _ _ g2).mono ?_
  rintro e w5 ⟨rfl, g5, hc5⟩
  have z5 : w5.heap[B + 1 + 1]? = some (.cells (partC zeroPart) 51 (0, 0)) := (hc5.block _ (zad z2) (by simpa using n3)).trans z2
  have C5 : Ch [] w w5 := C2.trans2 hc5 (by intro t ht; right; simp at ht; omega)
  clear hc5 y2 g2 z2 C2 X1
  go_wp2
  refine bodyPost_ret (part_results Tryz.results50 _ (B + 1 + 1) _ p2 _ rfl rfl ?_) rfl ⟨rfl, C5.onObj (p := B + 1 + 1) (.inr (by omega)) _⟩
  rw [zab, if_pos rfl, z5, Option.map_some, zag]
end
section
attribute [local go_sem] acc_g0 acc_g1 acc_g2 acc_g4 acc_s0 acc_s1 acc_s2 acc_s4 accC_size accC_one accC_all loadAcc storeAcc bacc0 bacc2 bacc3 bacc3u bacc4
attribute [local go_sem ↓] lrowAcc srowAcc browAcc zeroAcc_run
attribute [local go_sem high] zah
attribute [local go_sem] seenC_size seenC_one seenC_all seenC_g0 loadSeen storeSeen buildSeen buildSeen0
attribute [local go_sem ↓] lrowSeen srowSeen browSeen zeroSeen_run
attribute [local go_sem high] zam
attribute [local irreducible] seenC
attribute [local go_sem] zap zbq
attribute [local go_sem] Oper.semAt_some zao
attribute [local go_sem] zcj pacell0 pacell1 pacell2 pacell3 pacell4 pacell5 pacell6 pacell7 pacell42
attribute [local go_sem] zcs zcx zcp zcw zcv zdg zcu zdf zce zcr zdj zdc zch zbt zci zck boxPart loadPart storePart zcf zct buildPart0 buildPart4
attribute [local go_sem ↓] lrowPart srowPart browPart zcl zbz
attribute [local go_sem high] zag
attribute [local irreducible] partC
attribute [local irreducible] accC
attribute [local go_sem] boxSeen
theorem accv_put22 (a b c d : Int) (w : World) : (World.onObj (w.alloc (.cells (accC 0 0 0 0) 87)) w.heap.size (laidAt 0 (accC a b c d))).heap[w.heap.size]? = some (.cells (accC a b c d) 87 (0, 0)) := by
  rw [zab, if_pos rfl, zae, if_pos rfl, Option.map_some, zah]
theorem accv_put22_ch (a b c d : Int) (w : World) : Ch [] w (World.onObj (w.alloc (.cells (accC 0 0 0 0) 87)) w.heap.size (laidAt 0 (accC a b c d))) := ((Ch.refl [] w).alloc _).onObj (.inr (Nat.le_refl _)) _
theorem seen_put22 (x : Int) (b : Bool) (w : World) : (World.onObj (w.alloc (.cells (seenC 0 false) 93)) w.heap.size (laidAt 0 (seenC x b))).heap[w.heap.size]? = some (.cells (seenC x b) 93 (0, 0)) := by
  rw [zab, if_pos rfl, zae, if_pos rfl, Option.map_some, zam]
theorem seen_put22_ch (x : Int) (b : Bool) (w : World) : Ch [] w (World.onObj (w.alloc (.cells (seenC 0 false) 93)) w.heap.size (laidAt 0 (seenC x b))) := ((Ch.refl [] w).alloc _).onObj (.inr (Nat.le_refl _)) _
end
section
attribute [local go_sem] acc_g0 acc_g1 acc_g2 acc_g4 acc_s0 acc_s1 acc_s2 acc_s4 accC_size accC_one accC_all loadAcc storeAcc bacc0 bacc2 bacc3 bacc3u bacc4
attribute [local go_sem ↓] lrowAcc srowAcc browAcc zeroAcc_run
attribute [local go_sem high] zah
attribute [local go_sem] seenC_size seenC_one seenC_all seenC_g0 loadSeen storeSeen buildSeen buildSeen0
attribute [local go_sem ↓] lrowSeen srowSeen browSeen zeroSeen_run
attribute [local go_sem high] zam
attribute [local irreducible] seenC
attribute [local go_sem] zap zbq
attribute [local go_sem] Oper.semAt_some zao
attribute [local go_sem] zcj pacell0 pacell1 pacell2 pacell3 pacell4 pacell5 pacell6 pacell7 pacell42
attribute [local go_sem] zcs zcx zcp zcw zcv zdg zcu zdf zce zcr zdj zdc zch zbt zci zck boxPart loadPart storePart zcf zct buildPart0 buildPart4
attribute [local go_sem ↓] lrowPart srowPart browPart zcl zbz
attribute [local go_sem high] zag
attribute [local irreducible] partC
attribute [local irreducible] accC
attribute [local go_sem] boxSeen
theorem doP_lenS {l : List (BitVec 64)} {a : AccT} {y : List (BitVec 64) × BitVec 64} (hd : doP l a = some y) : y.1.length = l.length := by
  unfold doP at hd
  split at hd
  · cases hd
  · have hd := Option.some.inj hd
    subst hd
    dsimp only
    split
    · rfl
    · split <;> simp
theorem wp_scope_jumps22 {P : Program} {a : Act} {w : World} {Q : Exit → Act → World → Prop} {c rest : Code} (l : Nat) (J : Act → World → Prop) (μ : Act → World → Nat) (hf : findLabel c l = some (Code.skip.seq rest))
    (pass : ∀ a w, J a w → rest.wp P (Exit.jump l (fun a' w' => J a' w' ∧ μ a' w' < μ a w) Q) a w)
    (first : (∀ a w, J a w → rest.wp P (Exit.jump l J Q) a w) → c.wp P (Exit.jump l J Q) a w) : (Code.scope c).wp P Q a w :=
  wp_scope_jumps l J μ hf (first fun a w h => wp_mono (pass a w h) (fun e a w h => by cases e <;> first | exact h | exact ⟨h.1, h.2.1⟩)) (fun a w h => wp_seq (wp_skip (pass a w h)))
theorem jump_ret22 (l : Nat) (J : Act → World → Prop) (Q : Exit → Act → World → Prop) (a : Act) (w : World) : Exit.jump l J Q .ret a w = Q .ret a w := rfl
theorem index3_0 (a b c : Value) (w : World) : (Instr.index 158 (.agg #[a, b, c]) (.int .i64 0)).run Tryz.prog w = .ok a w := by kernel_rfl
theorem index3_1 (a b c : Value) (w : World) : (Instr.index 158 (.agg #[a, b, c]) (.int .i64 1)).run Tryz.prog w = .ok b w := by kernel_rfl
theorem index3_2 (a b c : Value) (w : World) : (Instr.index 158 (.agg #[a, b, c]) (.int .i64 2)).run Tryz.prog w = .ok c w := by kernel_rfl
attribute [local go_sem] index3_0 index3_1 index3_2
theorem run22_results {fn : Func} {p q u v : Tmp} (h : fn.results = #[.tmp p, .cell q 51, .tmp u, .tmp v]) (tmps : Array Value) (b : Nat) (w : World) (d : PartT) (x y z : Value) (hp : tmps.getD p undef = x) (hq : tmps.getD q undef = .pointer (some ⟨b, 0, none⟩)) (hu : tmps.getD u undef = y) (hv : tmps.getD v undef = z)
    (hb : w.heap[b]? = some (.cells (partC d) 51 (0, 0))) : (results fn tmps).run Tryz.prog w = .ok (.tuple #[x, .agg (partC d), y, z]) w := by
  have hl := run_loadVar_row (P := Tryz.prog) w b 51 51 (partC d) (0, 0) _ hb Tryz.underlying51 rfl (by rw [zbt]; kernel_rfl)
  have hp' : tmps[p]?.getD undef = x := by simpa using hp
  have hq' : tmps[q]?.getD undef = .pointer (some ⟨b, 0, none⟩) := by simpa using hq
  have hu' : tmps[u]?.getD undef = y := by simpa using hu
  have hv' : tmps[v]?.getD undef = z := by simpa using hv
  simp [results, h, hp', hq', hu', hv', asAddr, hl]
theorem run22_b (p : PartT) (w : World) : ((w.alloc (.cells (partC p) 51)).alloc (.cells (partC zeroPart) 51)).heap[w.heap.size]? = some (.cells (partC p) 51 (0, 0)) := by
  rw [zae, if_neg (by simp), zae, if_pos rfl]
theorem run22_z (p : PartT) (w : World) : ((w.alloc (.cells (partC p) 51)).alloc (.cells (partC zeroPart) 51)).heap[w.heap.size + 1]? = some (.cells (partC zeroPart) 51 (0, 0)) := by
  rw [zae, if_pos (by simp)]
theorem s22Run_empty (a : Option Addr) (n c : Nat) (p : PartT) (hn : (decide (1 ≤ n) && decide (n ≤ 8192)) = false) (w : World) : Calls Tryz.prog 26 #[.slice a n c, .agg (partC p)] w fun e w' => e = .returned (.tuple #[.slice none 0 0, .agg (partC zeroPart), I 0, I 120]) ∧ Ch [] w w' := by
  have C0 : Ch [] w ((w.alloc (.cells (partC p) 51)).alloc (.cells (partC zeroPart) 51)) := ((Ch.refl [] w).alloc _).alloc _
  have z0 := run22_z p w
  have b0 := run22_b p w
  have M1 := fun w => s22some_any a n c w
  rw [hn] at M1
  clear hn
  go_enter Tryz.func26, Tryz.ntmps26
  go_wp2_with fail
  generalize (w.alloc (.cells (partC p) 51)).alloc (.cells (partC zeroPart) 51) = W0 at *
  go_step3
  go_wp2_with fail
  refine (M1 _).mono ?_
  rintro e w' ⟨rfl, rfl⟩
  go_wp2
  rw [Exit.noGoto_ret]
  refine bodyPost_ret (run22_results Tryz.results26 _ (w.heap.size + 1) _ zeroPart _ _ _ rfl rfl rfl rfl ?_) rfl ⟨rfl, C0.onObj (p := w.heap.size + 1) (.inr (by omega)) _⟩
  simp [go_sem, z0]
theorem s22Run_bad (a : Option Addr) (n c : Nat) (p : PartT) (hn : (decide (1 ≤ n) && decide (n ≤ 8192)) = true) (hr : rightS p = false) (w : World) : Calls Tryz.prog 26 #[.slice a n c, .agg (partC p)] w fun e w' => e = .returned (.tuple #[.slice none 0 0, .agg (partC zeroPart), I 0, I 320]) ∧ Ch [] w w' := by
  have C0 : Ch [] w ((w.alloc (.cells (partC p) 51)).alloc (.cells (partC zeroPart) 51)) := ((Ch.refl [] w).alloc _).alloc _
  have z0 := run22_z p w
  have b0 := run22_b p w
  have M1 := fun w => s22some_any a n c w
  rw [hn] at M1
  have R1 := fun w => pCheck_any p w
  rw [checkS_no hr] at R1
  clear hn hr
  go_enter Tryz.func26, Tryz.ntmps26
  go_wp2_with fail
  generalize (w.alloc (.cells (partC p) 51)).alloc (.cells (partC zeroPart) 51) = W0 at *
  go_step3
  go_wp2_with fail
  refine (M1 _).mono ?_
  rintro e w' ⟨rfl, rfl⟩
  go_wp2_with fail
  refine (R1 _).mono ?_
  rintro e w1 ⟨rfl, hc1⟩
  have z1 := hkeep hc1 z0
  have C1 := C0.trans hc1
  clear z0 b0 C0 hc1 R1
  go_wp2
  rw [Exit.noGoto_ret]
  refine bodyPost_ret (run22_results Tryz.results26 _ (w.heap.size + 1) _ zeroPart _ _ _ rfl rfl rfl rfl ?_) rfl ⟨rfl, C1.onObj (p := w.heap.size + 1) (.inr (by omega)) _⟩
  simp [go_sem, z1]
theorem cell_there (s : Int) (s0 : 0 ≤ s) (s1 : s < 128) : ∃ z : Int, z = 55 + 40 * s ∧ ∀ w, Calls Tryz.prog 44 #[I s, I 39] w fun e w' => e = .returned (.tuple #[I z, I 0]) ∧ w = w' :=
  ⟨16 + 40 * s + 39, by omega, fun w => cell_ok s 39 s0 s1 (by omega) (by omega) w⟩
theorem s22Run_short0 (a : Option Addr) (n c : Nat) (p : PartT) (hn : (decide (1 ≤ n) && decide (n ≤ 8192)) = true) (hr : rightS p = true) (hs : (n : Int) < 56 + 40 * p.sl) (w : World) : Calls Tryz.prog 26 #[.slice a n c, .agg (partC p)] w fun e w' => e = .returned (.tuple #[.slice none 0 0, .agg (partC zeroPart), I 0, I 2]) ∧ Ch [] w w' := by
  have C0 : Ch [] w ((w.alloc (.cells (partC p) 51)).alloc (.cells (partC zeroPart) 51)) := ((Ch.refl [] w).alloc _).alloc _
  have z0 := run22_z p w
  have b0 := run22_b p w
  have M1 := fun w => s22some_any a n c w
  rw [hn] at M1
  have R1 := fun w => pCheck_any p w
  rw [checkS_yes hr] at R1
  have R := (zdk p).1 hr
  obtain ⟨y0, hy0, K0⟩ := cell_there p.sl R.sl0 R.sl1
  obtain ⟨y1, hy1, K1⟩ := cell_there p.t0 R.a0 R.a1
  obtain ⟨y2, hy2, K2⟩ := cell_there p.t1 R.b0 R.b1
  have h0 : (n : Int) ≤ y0 := by omega
  have e2 := zcp p
  have e3 := zcw p
  have e4 := zcv p
  obtain ⟨a0, ha0⟩ : ∃ x, p.sl = x := ⟨_, rfl⟩
  obtain ⟨a1, ha1⟩ : ∃ x, p.t0 = x := ⟨_, rfl⟩
  obtain ⟨a2, ha2⟩ : ∃ x, p.t1 = x := ⟨_, rfl⟩
  rw [ha0] at e2 K0
  rw [ha1] at e3 K1
  rw [ha2] at e4 K2
  clear hn hr R hs   hy0 hy1 hy2
  go_enter Tryz.func26, Tryz.ntmps26
  go_wp2_with fail
  generalize (w.alloc (.cells (partC p) 51)).alloc (.cells (partC zeroPart) 51) = W0 at *
  go_step3
  go_wp2_with fail
  refine (M1 _).mono ?_
  rintro e w' ⟨rfl, rfl⟩
  go_wp2_with fail
  refine (R1 _).mono ?_
  rintro e w1 ⟨rfl, hc1⟩
  have z1 := hkeep hc1 z0
  have b1 := hkeep hc1 b0
  have C1 := C0.trans hc1
  clear z0 b0 C0 hc1 R1 M1
  obtain ⟨cp, hcp⟩ : ∃ c, partC p = c := ⟨_, rfl⟩
  rw [hcp] at b1 e2 e3 e4
  clear hcp
  go_wp2_with fail
  refine wp_loop_rounds 4 ?_
  rw [rounds_succ]
  go_wp2_with fail
  refine (K0 _).mono ?_
  rintro e w' ⟨rfl, rfl⟩
  go_wp2
  rw [Exit.noGoto_ret]
  refine bodyPost_ret (run22_results Tryz.results26 _ (w.heap.size + 1) _ zeroPart _ _ _ rfl rfl rfl rfl ?_) rfl ⟨rfl, C1.onObj (p := w.heap.size + 1) (.inr (by omega)) _⟩
  simp [go_sem, z1]
theorem s22Run_short1 (a : Option Addr) (n c : Nat) (p : PartT) (hn : (decide (1 ≤ n) && decide (n ≤ 8192)) = true) (hr : rightS p = true) (hs : 56 + 40 * p.sl ≤ (n : Int)) (ht : (n : Int) < 56 + 40 * p.t0) (w : World) : Calls Tryz.prog 26 #[.slice a n c, .agg (partC p)] w fun e w' => e = .returned (.tuple #[.slice none 0 0, .agg (partC zeroPart), I 0, I 2]) ∧ Ch [] w w' := by
  have C0 : Ch [] w ((w.alloc (.cells (partC p) 51)).alloc (.cells (partC zeroPart) 51)) := ((Ch.refl [] w).alloc _).alloc _
  have z0 := run22_z p w
  have b0 := run22_b p w
  have M1 := fun w => s22some_any a n c w
  rw [hn] at M1
  have R1 := fun w => pCheck_any p w
  rw [checkS_yes hr] at R1
  have R := (zdk p).1 hr
  obtain ⟨y0, hy0, K0⟩ := cell_there p.sl R.sl0 R.sl1
  obtain ⟨y1, hy1, K1⟩ := cell_there p.t0 R.a0 R.a1
  obtain ⟨y2, hy2, K2⟩ := cell_there p.t1 R.b0 R.b1
  have h0 : ¬ (n : Int) ≤ y0 := by omega
  have h1 : (n : Int) ≤ y1 := by omega
  have e2 := zcp p
  have e3 := zcw p
  have e4 := zcv p
  obtain ⟨a0, ha0⟩ : ∃ x, p.sl = x := ⟨_, rfl⟩
  obtain ⟨a1, ha1⟩ : ∃ x, p.t0 = x := ⟨_, rfl⟩
  obtain ⟨a2, ha2⟩ : ∃ x, p.t1 = x := ⟨_, rfl⟩
  rw [ha0] at e2 K0
  rw [ha1] at e3 K1
  rw [ha2] at e4 K2
  clear hn hr R hs ht  hy0 hy1 hy2
  go_enter Tryz.func26, Tryz.ntmps26
  go_wp2_with fail
  generalize (w.alloc (.cells (partC p) 51)).alloc (.cells (partC zeroPart) 51) = W0 at *
  go_step3
  go_wp2_with fail
  refine (M1 _).mono ?_
  rintro e w' ⟨rfl, rfl⟩
  go_wp2_with fail
  refine (R1 _).mono ?_
  rintro e w1 ⟨rfl, hc1⟩
  have z1 := hkeep hc1 z0
  have b1 := hkeep hc1 b0
  have C1 := C0.trans hc1
  clear z0 b0 C0 hc1 R1 M1
  obtain ⟨cp, hcp⟩ : ∃ c, partC p = c := ⟨_, rfl⟩
  rw [hcp] at b1 e2 e3 e4
  clear hcp
  go_wp2_with fail
  refine wp_loop_rounds 4 ?_
  rw [rounds_succ]
  go_wp2_with fail
  refine (K0 _).mono ?_
  rintro e w' ⟨rfl, rfl⟩
  go_wp2_with fail
  rw [rounds_succ]
  go_wp2_with fail
  refine (K1 _).mono ?_
  rintro e w' ⟨rfl, rfl⟩
  go_wp2
  rw [Exit.noGoto_ret]
  refine bodyPost_ret (run22_results Tryz.results26 _ (w.heap.size + 1) _ zeroPart _ _ _ rfl rfl rfl rfl ?_) rfl ⟨rfl, C1.onObj (p := w.heap.size + 1) (.inr (by omega)) _⟩
  simp [go_sem, z1]
theorem s22Run_short2 (a : Option Addr) (n c : Nat) (p : PartT) (hn : (decide (1 ≤ n) && decide (n ≤ 8192)) = true) (hr : rightS p = true) (hs : 56 + 40 * p.sl ≤ (n : Int)) (ht : 56 + 40 * p.t0 ≤ (n : Int)) (hu : (n : Int) < 56 + 40 * p.t1) (w : World) : Calls Tryz.prog 26 #[.slice a n c, .agg (partC p)] w fun e w' => e = .returned (.tuple #[.slice none 0 0, .agg (partC zeroPart), I 0, I 2]) ∧ Ch [] w w' := by
  have C0 : Ch [] w ((w.alloc (.cells (partC p) 51)).alloc (.cells (partC zeroPart) 51)) := ((Ch.refl [] w).alloc _).alloc _
  have z0 := run22_z p w
  have b0 := run22_b p w
  have M1 := fun w => s22some_any a n c w
  rw [hn] at M1
  have R1 := fun w => pCheck_any p w
  rw [checkS_yes hr] at R1
  have R := (zdk p).1 hr
  obtain ⟨y0, hy0, K0⟩ := cell_there p.sl R.sl0 R.sl1
  obtain ⟨y1, hy1, K1⟩ := cell_there p.t0 R.a0 R.a1
  obtain ⟨y2, hy2, K2⟩ := cell_there p.t1 R.b0 R.b1
  have h0 : ¬ (n : Int) ≤ y0 := by omega
  have h1 : ¬ (n : Int) ≤ y1 := by omega
  have h2 : (n : Int) ≤ y2 := by omega
  have e2 := zcp p
  have e3 := zcw p
  have e4 := zcv p
  obtain ⟨a0, ha0⟩ : ∃ x, p.sl = x := ⟨_, rfl⟩
  obtain ⟨a1, ha1⟩ : ∃ x, p.t0 = x := ⟨_, rfl⟩
  obtain ⟨a2, ha2⟩ : ∃ x, p.t1 = x := ⟨_, rfl⟩
  rw [ha0] at e2 K0
  rw [ha1] at e3 K1
  rw [ha2] at e4 K2
  clear hn hr R hs ht hu hy0 hy1 hy2
  go_enter Tryz.func26, Tryz.ntmps26
  go_wp2_with fail
  generalize (w.alloc (.cells (partC p) 51)).alloc (.cells (partC zeroPart) 51) = W0 at *
  go_step3
  go_wp2_with fail
  refine (M1 _).mono ?_
  rintro e w' ⟨rfl, rfl⟩
  go_wp2_with fail
  refine (R1 _).mono ?_
  rintro e w1 ⟨rfl, hc1⟩
  have z1 := hkeep hc1 z0
  have b1 := hkeep hc1 b0
  have C1 := C0.trans hc1
  clear z0 b0 C0 hc1 R1 M1
  obtain ⟨cp, hcp⟩ : ∃ c, partC p = c := ⟨_, rfl⟩
  rw [hcp] at b1 e2 e3 e4
  clear hcp
  go_wp2_with fail
  refine wp_loop_rounds 4 ?_
  rw [rounds_succ]
  go_wp2_with fail
  refine (K0 _).mono ?_
  rintro e w' ⟨rfl, rfl⟩
  go_wp2_with fail
  rw [rounds_succ]
  go_wp2_with fail
  refine (K1 _).mono ?_
  rintro e w' ⟨rfl, rfl⟩
  go_wp2_with fail
  rw [rounds_succ]
  go_wp2_with fail
  refine (K2 _).mono ?_
  rintro e w' ⟨rfl, rfl⟩
  go_wp2
  rw [Exit.noGoto_ret]
  refine bodyPost_ret (run22_results Tryz.results26 _ (w.heap.size + 1) _ zeroPart _ _ _ rfl rfl rfl rfl ?_) rfl ⟨rfl, C1.onObj (p := w.heap.size + 1) (.inr (by omega)) _⟩
  simp [go_sem, z1]
end
end Go.Proofs.Hc
