/- Package split: head. -/
import Derived.Test.YtcikopeddljgkaaGreatKPt2
set_option linter.unusedSimpArgs false
set_option linter.unusedVariables false
set_option maxHeartbeats 4000000
set_option maxRecDepth 100000
namespace Go.Proofs.Hc
open Go.RowKit
attribute [local go_sem] zbv zcb zba zbf zbr zbd zbq zbs zbx signed64 signed8 zap BitVec.ofInt_add BitVec.ofInt_mul ofInt_sub' zbb zbc wide8 eqN neN zca shr1 shr7 shr56
attribute [local go_sem high] zbe zbw
attribute [local go_sem] zaw zby zaj zas zae zay zar zak zbn zam zax zaz
attribute [local go_sem] load26 load73 load23 store26 build73
attribute [local go_sem ↓] lrow26 lrow73 lrow23 srow26 zero26 brow73 zac zbk zbg zaa zab
attribute [local go_sem] zai zav zau zbj zbl zbo zaq zat zbp zbi zbh
attribute [local go_sem] nn2 nm2 nn3 nm3 nn4 nm4 nn5 nm5 nn6 nm6 nn7 nm7 nn8 nm8
section
attribute [local go_sem] zap zbt
attribute [local go_sem] Oper.semAt_some zao
attribute [local go_sem] zcj pacell0 pacell1 pacell2 pacell3 pacell4 pacell5 pacell6 pacell7 pacell42
attribute [local go_sem] zcr zcw zct zdc zdb part_g5 zcv zdl zcf zcq part_s6 zde zch zbu zci zck boxPart loadPart storePart zce zcs buildPart0 buildPart4
attribute [local go_sem ↓] lrowPart srowPart browPart zcl zbz
attribute [local go_sem high] zag
attribute [local irreducible] partC
theorem s22head_any (p : PartT) (g : Nat) (x : BitVec 64) (w : World) (hg : w.heap[g]? = some (.cells (partC p) 179 (0, 0))) :
    Calls Tryz.prog 174 #[.pointer (some ⟨g, 0, none⟩), U x] w fun e w' => e = .returned (.tuple #[]) ∧ w'.heap[g]? = some (.cells (partC (headS p x)) 179 (0, 0)) ∧ Ch [g] w w' := by
  obtain ⟨d, hd⟩ : ∃ d : Nat, (x &&& 255#64).toNat = d := ⟨_, rfl⟩
  have P1 := fun w hg => s22parts_any { p with head := x, at_ := 0, ph := 2 } g w hg
  dsimp only at P1
  rw [show N (x &&& 255#64) = (d : Int) by unfold N; rw [hd]] at P1
  unfold headS
  rw [hd]
  clear hd
  obtain ⟨q, hq⟩ : ∃ q : PartT, { p with head := x, at_ := 0, ph := 2 } = q := ⟨_, rfl⟩
  have hq9 : { p with head := x, at_ := 0, ph := 9 } = { q with ph := 9 } := by rw [← hq]
  have HC : ((((partC p).setIfInBounds 7 (U x)).setIfInBounds 42 (I 0)).setIfInBounds 0 (I 2)) = partC q := by rw [zde, zch, zcq, ← hq]
  rw [hq9, hq]
  rw [hq] at P1
  clear hq9 hq
  have g1 : (((w.setCell ⟨g, 7, none⟩ (U x)).setCell ⟨g, 42, none⟩ (I 0)).setCell ⟨g, 0, none⟩ (I 2)).heap[g]? = some (.cells (partC q) 179 (0, 0)) := by
    rw [zaa, if_pos rfl, zaa, if_pos rfl, zaa, if_pos rfl, hg, Option.map_some, Option.map_some, Option.map_some, zae, zae, zae, HC]
  have C1 : Ch [g] w (((w.setCell ⟨g, 7, none⟩ (U x)).setCell ⟨g, 42, none⟩ (I 0)).setCell ⟨g, 0, none⟩ (I 2)) := (((Ch.refl [g] w).setCell (p := ⟨g, 7, none⟩) (.inl (by simp)) _).setCell (p := ⟨g, 42, none⟩) (.inl (by simp)) _).setCell (p := ⟨g, 0, none⟩) (.inl (by simp)) _
  have e7 : ∃ y, (partC p)[7]? = some y := ⟨_, zdl p⟩
  clear HC
  have hc : (5 : Int) ≤ d ∧ decide (5 ≤ d) = true ∨ ¬ (5 : Int) ≤ d ∧ decide (5 ≤ d) = false ∧ ((x >>> 8 >>> d != 0#64) = true ∨ (x >>> 8 >>> d != 0#64) = false) := by
    by_cases h : 5 ≤ d
    · left; exact ⟨by omega, by simp [h]⟩
    · right; exact ⟨by omega, by simp; omega, by cases (x >>> 8 >>> d != 0#64) <;> simp⟩
  obtain ⟨y8, hy8⟩ : ∃ y, x >>> 8 = y := ⟨_, rfl⟩
  rw [hy8] at P1 hc ⊢
  clear hy8
  obtain ⟨dd, hdd⟩ : ∃ z, (if (decide (5 ≤ d) || (y8 >>> d != 0#64)) = true then { q with ph := 9 } else q) = z := ⟨_, rfl⟩
  rw [hdd]
  have hc' : (5 : Int) ≤ d ∧ dd = { q with ph := 9 } ∨ ¬ (5 : Int) ≤ d ∧ ((y8 >>> d != 0#64) = true ∧ dd = { q with ph := 9 } ∨ (y8 >>> d != 0#64) = false ∧ dd = q) := by
    rcases hc with ⟨h5, hb⟩ | ⟨h5, hb, h0 | h0⟩
    · left; exact ⟨h5, by rw [← hdd, hb, Bool.true_or, if_pos rfl]⟩
    · right; exact ⟨h5, .inl ⟨h0, by rw [← hdd, h0, Bool.or_true, if_pos rfl]⟩⟩
    · right; exact ⟨h5, .inr ⟨h0, by rw [← hdd, h0, hb, if_neg (by decide)]⟩⟩
  clear hdd hc
  have hd0 : (0 : Int) ≤ d := by omega
  go_enter Tryz.func174, Tryz.ntmps174
  go_upto_region 1 with (fail)
  obtain ⟨w1, hw1⟩ : ∃ W, ((w.setCell ⟨g, 7, none⟩ (U x)).setCell ⟨g, 42, none⟩ (I 0)).setCell ⟨g, 0, none⟩ (I 2) = W := ⟨_, rfl⟩
  rw [hw1] at g1 C1 ⊢
  clear hw1 hg e7
  go_wp2_with fail
  refine (P1 _ g1).mono ?_
  rintro e w2 ⟨rfl, hc2⟩
  have g2 := hkeep hc2 g1
  have C2 := C1.trans hc2.of_nil
  clear g1 C1 hc2 P1
  have e0 : (N (y8 >>> d) != 0) = (y8 >>> d != 0#64) := neN (y8 >>> d) 0#64
  rw [← e0] at hc'
  clear e0
  rcases hc' with ⟨h5, rfl⟩ | ⟨h5, ⟨h0, rfl⟩ | ⟨h0, rfl⟩⟩
  · go_wp2
    go_end0
    exact ⟨rfl, by rw [zaa, if_pos rfl, g2, Option.map_some, zae, zcq], C2.setCell (p := ⟨g, 0, none⟩) (.inl (by simp)) _⟩
  · go_wp2
    go_end0
    exact ⟨rfl, by rw [zaa, if_pos rfl, g2, Option.map_some, zae, zcq], C2.setCell (p := ⟨g, 0, none⟩) (.inl (by simp)) _⟩
  · go_wp2
    go_end0
    exact ⟨rfl, g2, C2⟩
end
section
attribute [local go_sem] zap zbt
attribute [local go_sem] Oper.semAt_some zao
attribute [local go_sem] zcj pacell0 pacell1 pacell2 pacell3 pacell4 pacell5 pacell6 pacell7 pacell42
attribute [local go_sem] zcr zcw zct zdc zdb part_g5 zcv zdl zcf zcq part_s6 zde zch zbu zci zck boxPart loadPart storePart zce zcs buildPart0 buildPart4
attribute [local go_sem ↓] lrowPart srowPart browPart zcl zbz
attribute [local go_sem high] zag
attribute [local irreducible] partC
theorem checkS_yes {p : PartT} (h : rightS p = true) : checkS p = 0 := by unfold checkS; rw [if_pos h]
theorem checkS_no {p : PartT} (h : rightS p = false) : checkS p = 320 := by unfold checkS; rw [if_neg (by rw [h]; decide)]
theorem part_results {fn : Func} {p q : Tmp} (h : fn.results = #[.cell p 51, .tmp q]) (tmps : Array Value) (b : Nat) (w : World) (d : PartT) (v : Value) (hp : tmps.getD p undef = .pointer (some ⟨b, 0, none⟩)) (hq : tmps.getD q undef = v)
    (hb : w.heap[b]? = some (.cells (partC d) 51 (0, 0))) : (results fn tmps).run Tryz.prog w = .ok (.tuple #[.agg (partC d), v]) w := by
  have hl := run_loadVar_row (P := Tryz.prog) w b 51 51 (partC d) (0, 0) _ hb Tryz.underlying51 rfl (by rw [zbu]; kernel_rfl)
  have hp' : tmps[p]?.getD undef = .pointer (some ⟨b, 0, none⟩) := by simpa using hp
  have hq' : tmps[q]?.getD undef = v := by simpa using hq
  simp [results, h, hp', hq', asAddr, hl]
def begin22E (who sl a b : Int) (seed : BitVec 64) : Except Int PartT := if rightS (firstP22 who sl a b seed) then .ok (firstP22 who sl a b seed) else .error 2
theorem zdi (q : PartT) (w : World) : (World.onObj (w.alloc (.cells (partC zeroPart) 51)) w.heap.size (laidAt 0 (partC q))).heap[w.heap.size]? = some (.cells (partC q) 51 (0, 0)) := by
  rw [zab, if_pos rfl, zac, if_pos rfl, Option.map_some, zag]
theorem zaf (q : PartT) (w : World) : Ch [] w (World.onObj (w.alloc (.cells (partC zeroPart) 51)) w.heap.size (laidAt 0 (partC q))) := ((Ch.refl [] w).alloc _).onObj (.inr (Nat.le_refl _)) _
theorem s22Begin_any (who sl a b : Int) (seed : BitVec 64) (w : World) : Calls Tryz.prog 24 #[I who, I sl, .agg #[I a, I b], U seed] w fun e w' => e = .returned (tupOr (fun v => .agg (partC v)) (.agg (partC zeroPart)) (begin22E who sl a b seed)) ∧ Ch [] w w' := by
  have R1 := fun w => pCheck_any (firstP22 who sl a b seed) w
  have z0 : ((w.alloc (.cells #[I a, I b] 45)).alloc (.cells (partC zeroPart) 51)).heap[w.heap.size + 1]? = some (.cells (partC zeroPart) 51 (0, 0)) := by rw [zac, if_pos (by simp)]
  have a0 : ((w.alloc (.cells #[I a, I b] 45)).alloc (.cells (partC zeroPart) 51)).heap[w.heap.size]? = some (.cells #[I a, I b] 45 (0, 0)) := by rw [zac, if_neg (by simp), zac, if_pos rfl]
  have C0 : Ch [] w ((w.alloc (.cells #[I a, I b] 45)).alloc (.cells (partC zeroPart) 51)) := ((Ch.refl [] w).alloc _).alloc _
  obtain ⟨q, hq⟩ : ∃ q, firstP22 who sl a b seed = q := ⟨_, rfl⟩
  have BB := fun w => buildPart4 who sl a b seed w
  unfold begin22E
  rw [hq] at R1 BB ⊢
  clear hq
  cases hr : rightS q with
  | true =>
    rw [checkS_yes hr] at R1
    simp only [if_true, tupOr]
    clear hr
    go_enter Tryz.func24, Tryz.ntmps24
    go_upto_region 1 with (fail)
    obtain ⟨w0, hw0⟩ : ∃ W, (w.alloc (.cells #[I a, I b] 45)).alloc (.cells (partC zeroPart) 51) = W := ⟨_, rfl⟩
    rw [hw0] at z0 a0 C0 ⊢
    clear hw0
    obtain ⟨B, hB⟩ : ∃ B, w.heap.size + 1 = B := ⟨_, rfl⟩
    rw [hB] at z0 ⊢
    have hBw : w.heap.size ≤ B := by omega
    clear hB
    have hBn : ¬ B = w0.heap.size := by have := (Array.getElem?_eq_some_iff.1 z0).1; omega
    go_upto_region 2 with (fail)
    have q1 := zdi q w0
    have hc1 := zaf q w0
    have z1 := hkeep hc1 z0
    have C1 := C0.trans hc1
    clear z0 C0 hc1 a0
    obtain ⟨w1, hw1⟩ : ∃ W, World.onObj (w0.alloc (.cells (partC zeroPart) 51)) w0.heap.size (laidAt 0 (partC q)) = W := ⟨_, rfl⟩
    rw [hw1] at q1 z1 C1 ⊢
    clear hw1
    obtain ⟨D, hD⟩ : ∃ D, w0.heap.size = D := ⟨_, rfl⟩
    rw [hD] at q1 hBn ⊢
    clear hD
    go_wp2_with fail
    refine (R1 _).mono ?_
    rintro e w2 ⟨rfl, hc2⟩
    have q2 := hkeep hc2 q1
    have z2 := hkeep hc2 z1
    have C2 := C1.trans hc2
    clear q1 z1 C1 hc2
    go_wp2
    refine bodyPost_ret (part_results Tryz.results24 _ B _ q _ rfl rfl ?_) rfl ⟨rfl, C2.onObj (p := B) (.inr hBw) _⟩
    rw [zab, if_pos rfl, z2, Option.map_some, zag]
  | false =>
    rw [checkS_no hr] at R1
    simp only [Bool.false_eq_true, if_false, tupOr]
    clear hr
    go_enter Tryz.func24, Tryz.ntmps24
    go_upto_region 1 with (fail)
    obtain ⟨w0, hw0⟩ : ∃ W, (w.alloc (.cells #[I a, I b] 45)).alloc (.cells (partC zeroPart) 51) = W := ⟨_, rfl⟩
    rw [hw0] at z0 a0 C0 ⊢
    clear hw0
    obtain ⟨B, hB⟩ : ∃ B, w.heap.size + 1 = B := ⟨_, rfl⟩
    rw [hB] at z0 ⊢
    have hBw : w.heap.size ≤ B := by omega
    clear hB
    have hBn : ¬ B = w0.heap.size := by have := (Array.getElem?_eq_some_iff.1 z0).1; omega
    go_upto_region 2 with (fail)
    have q1 := zdi q w0
    have hc1 := zaf q w0
    have z1 := hkeep hc1 z0
    have C1 := C0.trans hc1
    clear z0 C0 hc1 a0
    obtain ⟨w1, hw1⟩ : ∃ W, World.onObj (w0.alloc (.cells (partC zeroPart) 51)) w0.heap.size (laidAt 0 (partC q)) = W := ⟨_, rfl⟩
    rw [hw1] at q1 z1 C1 ⊢
    clear hw1
    go_wp2_with fail
    refine (R1 _).mono ?_
    rintro e w2 ⟨rfl, hc2⟩
    have z2 := hkeep hc2 z1
    have C2 := C1.trans hc2
    clear q1 z1 C1 hc2
    go_wp2
    refine bodyPost_ret (part_results Tryz.results24 _ B _ zeroPart _ rfl rfl ?_) rfl ⟨rfl, C2.onObj (p := B) (.inr hBw) _⟩
    rw [zab, if_pos rfl, z2, Option.map_some, zag]
end
section
attribute [local go_sem] zap zbt
attribute [local go_sem] Oper.semAt_some zao
attribute [local go_sem] zcj pacell0 pacell1 pacell2 pacell3 pacell4 pacell5 pacell6 pacell7 pacell42
attribute [local go_sem] zcr zcw zct zdc zdb part_g5 zcv zdl zcf zcq part_s6 zde zch zbu zci zck boxPart loadPart storePart zce zcs buildPart0 buildPart4
attribute [local go_sem ↓] lrowPart srowPart browPart zcl zbz
attribute [local go_sem high] zag
attribute [local irreducible] partC
def take22V : Array Value := #[.func (.func 173) #[] #[], .func (.func 174) #[] #[], .func (.func 175) #[] #[], .func (.func 176) #[] #[], .func (.func 177) #[] #[], .func (.func 178) #[] #[], .func (.func 179) #[] #[]]
def take22Z : Array Value := Array.replicate 7 (.nilFunc)
theorem take22V_size : take22V.size = 7 := rfl
theorem take22Z_size : take22Z.size = 7 := rfl
theorem take22V_one : allOne take22V = true := by unfold allOne take22V; simp [Value.oneCell']
theorem brow_take22 (ps : Array (Nat × Value)) : Instr.build 259 ps = buildRow 259 ps := rfl
theorem build_take22 (w : World) : (buildRow 259 #[(0, .func (.func 173) #[] #[]), (1, .func (.func 174) #[] #[]), (2, .func (.func 175) #[] #[]), (3, .func (.func 176) #[] #[]), (4, .func (.func 177) #[] #[]), (5, .func (.func 178) #[] #[]), (6, .func (.func 179) #[] #[])]).run Tryz.prog w = .ok (.agg take22V) w := by kernel_rfl
theorem zero_take22 (w : World) : (zeroValue 259).run Tryz.prog w = .ok (.agg take22Z) w := by kernel_rfl
theorem store_take22 (g o : Nat) (vs : Array Value) (w : World) : (storeRow 259 ⟨g, o, none⟩ (.agg vs)).run Tryz.prog w = layRes Tryz.prog 259 g o vs w (((w.heap[g]?).map (canLay o 7 vs)).getD false) :=
  run_lay (by kernel_rfl) g o vs w
theorem srow_take22 (a : Addr) (v : Value) : storeVar 259 a v = storeRow 259 a v := rfl
theorem laidAt_take22 (t : TypeId) (fr : Nat × Nat) : laidAt 0 take22V (.cells take22Z t fr) = .cells take22V t fr := by
  rw [zak, laid_whole _ _ (by rw [take22Z_size, take22V_size])]
attribute [local go_sem] build_take22 store_take22 take22V_one take22V_size take22Z_size
attribute [local go_sem ↓] brow_take22 zero_take22 srow_take22
attribute [local go_sem high] laidAt_take22
attribute [local irreducible] take22V take22Z
theorem s22take_core (p q : PartT) (n k g : Nat) (x : BitVec 64) (hp : p.ph = (n : Int)) (hn : n < 7) (hk : take22V[n]? = some (.func (.func k) #[] #[])) (hdf : ∀ args w, (callFunc k args).run Tryz.prog w = .ok (.enter k args) w)
    (X1 : ∀ (w : World), w.heap[g]? = some (.cells (partC p) 179 (0, 0)) → Calls Tryz.prog k #[.pointer (some ⟨g, 0, none⟩), U x] w fun e w' => e = .returned (.tuple #[]) ∧ w'.heap[g]? = some (.cells (partC q) 179 (0, 0)) ∧ Ch [g] w w') (w : World) (hg : w.heap[g]? = some (.cells (partC p) 179 (0, 0))) :
    Calls Tryz.prog 115 #[.pointer (some ⟨g, 0, none⟩), U x] w fun e w' => e = .returned (.tuple #[]) ∧ w'.heap[g]? = some (.cells (partC q) 179 (0, 0)) ∧ Ch [g] w w' := by
  have e0 : (partC p)[0]? = some (I (n : Int)) := by rw [zcr, hp]
  have hnI : (n : Int) < 7 := by omega
  have hn0 : (0 : Int) ≤ n := by omega
  have C0 : Ch [] w (World.onObj (w.alloc (.cells take22Z 259)) w.heap.size (laidAt 0 take22V)) := ((Ch.refl [] w).alloc _).onObj (.inr (Nat.le_refl _)) _
  have z0 : (World.onObj (w.alloc (.cells take22Z 259)) w.heap.size (laidAt 0 take22V)).heap[w.heap.size]? = some (.cells take22V 259 (0, 0)) := by rw [zab, if_pos rfl, zac, if_pos rfl, Option.map_some, laidAt_take22]
  have g0 := hkeep C0 hg
  have hgB := (Array.getElem?_eq_some_iff.1 hg).1
  obtain ⟨pc, hpc⟩ : ∃ c, partC p = c := ⟨_, rfl⟩
  rw [hpc] at g0 X1 e0
  clear hg hpc hp
  go_enter Tryz.func115, Tryz.ntmps115
  go_upto_region 1 with (fail)
  obtain ⟨w0, hw0⟩ : ∃ W, World.onObj (w.alloc (.cells take22Z 259)) w.heap.size (laidAt 0 take22V) = W := ⟨_, rfl⟩
  rw [hw0] at C0 z0 g0 ⊢
  clear hw0
  obtain ⟨B, hB⟩ : ∃ B, w.heap.size = B := ⟨_, rfl⟩
  rw [hB] at z0 hgB ⊢
  clear hB
  go_wp2_with fail
  refine (X1 _ g0).mono ?_
  rintro e w1 ⟨rfl, g1, hc1⟩
  go_wp2
  go_end0
  exact ⟨rfl, g1, C0.of_nil.trans hc1⟩
theorem s22take_any (p : PartT) (hr : rightS p = true) (h6 : p.ph ≤ 6) (g : Nat) (x : BitVec 64) (w : World) (hg : w.heap[g]? = some (.cells (partC p) 179 (0, 0))) :
    Calls Tryz.prog 115 #[.pointer (some ⟨g, 0, none⟩), U x] w fun e w' => e = .returned (.tuple #[]) ∧ w'.heap[g]? = some (.cells (partC (takeS p x)) 179 (0, 0)) ∧ Ch [g] w w' := by
  have R := (rightS_iff p).1 hr
  have h0 := R.ph0
  have a2 := R.at2
  have a3 := R.at3
  have a6 := R.at6
  rcases (show p.ph = 0 ∨ p.ph = 1 ∨ p.ph = 2 ∨ p.ph = 3 ∨ p.ph = 4 ∨ p.ph = 5 ∨ p.ph = 6 by omega) with h | h | h | h | h | h | h
  · have e : takeS p x = if oddB x then { p with ph := 8 } else { p with ph := 1, count := x } := by unfold takeS; rw [if_pos h]
    rw [e]
    exact s22take_core p _ 0 173 g x h (by omega) (by kernel_rfl) Tryz.call173 (fun w hg => s22look_any p g x w hg) w hg
  · have e : takeS p x = headS p x := by unfold takeS; rw [if_neg (by omega), if_pos h]
    rw [e]
    exact s22take_core p _ 1 174 g x h (by omega) (by kernel_rfl) Tryz.call174 (fun w hg => s22head_any p g x w hg) w hg
  · have := a2 h
    have e : takeS p x = if p.at_ = 1 then onS { p with c := updW p.c 1 x, at_ := 2 } 0 else { p with c := updW p.c 0 x, at_ := 1 } := by unfold takeS; rw [if_neg (by omega), if_neg (by omega), if_pos h]
    rw [e]
    exact s22take_core p _ 2 175 g x h (by omega) (by kernel_rfl) Tryz.call175 (fun w hg => s22ctrl_any p g x this.1 this.2 w hg) w hg
  · have := a3 (.inl h)
    have e : takeS p x = { p with k := updW p.k p.at_.toNat x, ph := 4 } := by unfold takeS; rw [if_neg (by omega), if_neg (by omega), if_neg (by omega), if_pos h]
    rw [e]
    exact s22take_core p _ 3 176 g x h (by omega) (by kernel_rfl) Tryz.call176 (fun w hg => s22key_any p g p.at_.toNat x (by omega) (by omega) w hg) w hg
  · have := a3 (.inr h)
    have e : takeS p x = onS { p with v := updW p.v p.at_.toNat x } (p.at_.toNat + 1) := by unfold takeS; rw [if_neg (by omega), if_neg (by omega), if_neg (by omega), if_neg (by omega), if_pos h]
    rw [e]
    exact s22take_core p _ 4 177 g x h (by omega) (by kernel_rfl) Tryz.call177 (fun w hg => s22value_any p g p.at_.toNat x (by omega) (by omega) w hg) w hg
  · have e : takeS p x = { p with at_ := 0, ph := 6 } := by unfold takeS; rw [if_neg (by omega), if_neg (by omega), if_neg (by omega), if_neg (by omega), if_neg (by omega), if_pos h]
    rw [e]
    exact s22take_core p _ 5 178 g x h (by omega) (by kernel_rfl) Tryz.call178 (fun w hg => s22shut_any p g x w hg) w hg
  · have := a6 h
    have e : takeS p x = { p with at_ := p.at_ + 1, ph := if p.at_ = 79 then 7 else 6 } := by unfold takeS; rw [if_neg (by omega), if_neg (by omega), if_neg (by omega), if_neg (by omega), if_neg (by omega), if_neg (by omega)]
    rw [e]
    exact s22take_core p _ 6 179 g x h (by omega) (by kernel_rfl) Tryz.call179 (fun w hg => s22lay_any p g x this.1 this.2 h w hg) w hg
end
section
attribute [local go_sem] zap zbt
attribute [local go_sem] Oper.semAt_some zao
attribute [local go_sem] zcj pacell0 pacell1 pacell2 pacell3 pacell4 pacell5 pacell6 pacell7 pacell42
attribute [local go_sem] zcr zcw zct zdc zdb part_g5 zcv zdl zcf zcq part_s6 zde zch zbu zci zck boxPart loadPart storePart zce zcs buildPart0 buildPart4
attribute [local go_sem ↓] lrowPart srowPart browPart zcl zbz
attribute [local go_sem high] zag
attribute [local irreducible] partC
theorem s22some_any (a : Option Addr) (n c : Nat) (w : World) : Calls Tryz.prog 97 #[.slice a n c] w fun e w' => e = .returned (.bool (decide (1 ≤ n) && decide (n ≤ 8192))) ∧ w = w' := by
  obtain ⟨r, hr⟩ : ∃ r, (decide (1 ≤ n) && decide (n ≤ 8192)) = r := ⟨_, rfl⟩
  rw [hr]
  have hcs : n < 1 ∧ r = false ∨ 1 ≤ n ∧ n ≤ 8192 ∧ r = true ∨ 1 ≤ n ∧ ¬ n ≤ 8192 ∧ r = false := by
    rw [← hr]
    by_cases h1 : 1 ≤ n
    · by_cases h2 : n ≤ 8192
      · right; left; exact ⟨h1, h2, by rw [decide_eq_true h1, decide_eq_true h2]; rfl⟩
      · right; right; exact ⟨h1, h2, by rw [decide_eq_false h2, Bool.and_false]⟩
    · left; exact ⟨by omega, by rw [decide_eq_false h1, Bool.false_and]⟩
  clear hr
  rcases hcs with ⟨h1, rfl⟩ | ⟨h1, h2, rfl⟩ | ⟨h1, h2, rfl⟩
  · have h1' : ¬ (1 : Int) ≤ n := by omega
    go_enter Tryz.func97, Tryz.ntmps97
    go_wp2
    go_ret
    exact ⟨rfl, rfl⟩
  · have h1' : (1 : Int) ≤ n := by omega
    have h2' : (n : Int) ≤ 8192 := by omega
    go_enter Tryz.func97, Tryz.ntmps97
    go_wp2
    go_ret
    exact ⟨rfl, rfl⟩
  · have h1' : (1 : Int) ≤ n := by omega
    have h2' : ¬ (n : Int) ≤ 8192 := by omega
    go_enter Tryz.func97, Tryz.ntmps97
    go_wp2
    go_ret
    exact ⟨rfl, rfl⟩
theorem s22own_any (l : List (BitVec 64)) (g c : Nat) (cur : Array Value) (w : World) (hl : l.length ≤ 9000) (hb : w.heap[g]? = some (.cells cur 22 (0, 0))) (hw : WordsAt cur l) :
    Calls Tryz.prog 98 #[.slice (some ⟨g, 0, none⟩) l.length c] w fun e w' => e = .returned (.slice (some ⟨w.heap.size, 0, none⟩) l.length l.length) ∧ w'.heap[w.heap.size]? = some (.cells (wcells l) 22 (0, 0)) ∧ Ch [] w w' := by
  have hm := fun w => run_make_row' (P := Tryz.prog) 44 22 (.int .u64 0) 8 Tryz.underlying44 infoU rfl .i64 .i64 l.length (by omega) (by omega) w
  have hgn : ¬ g = w.heap.size := by have := (Array.getElem?_eq_some_iff.1 hb).1; omega
  have hn : (w.alloc (.cells (madeCells #[.int .u64 0] l.length) 22)).heap[w.heap.size]? = some (.cells (madeCells #[.int .u64 0] l.length) 22 (0, 0)) := by rw [zac, if_pos rfl]
  have hlen : (l.map fun x => U x).length = l.length := List.length_map ..
  have hcp := run_copy_row (P := Tryz.prog) (w.alloc (.cells (madeCells #[.int .u64 0] l.length) 22)) 44 44 3 22 w.heap.size 0 l.length l.length ⟨g, 0, none⟩ l.length c (madeCells #[.int .u64 0] l.length) 22 (l.map fun x => U x) Tryz.underlying44 (by kernel_rfl) hn (by rw [hlen]; exact (Nat.min_self _).symm) (by
    intro j v hj
    rw [List.getElem?_map] at hj
    obtain ⟨x, hx, rfl⟩ := Option.map_eq_some_iff.1 hj
    rw [Addr.add_lit, zaw, zac, if_neg hgn, hb, Option.bind_some, zaj, Nat.zero_add]
    exact hw j x hx) (by rw [hlen, size_madeCells]; omega) (words_one l)
  have hrow : ((madeCells #[.int .u64 0] l.length).toList.take 0 ++ (l.map fun x => U x) ++ (madeCells #[.int .u64 0] l.length).toList.drop (0 + (l.map fun x => U x).length)).toArray = wcells l := by
    rw [List.take_zero, List.nil_append, List.drop_eq_nil_of_le (by rw [hlen, Array.length_toList, size_madeCells]; omega), List.append_nil]; rfl
  rw [hrow, hlen] at hcp
  have hh := setRow_heap (w.alloc (.cells (madeCells #[.int .u64 0] l.length) 22)) w.heap.size _ (wcells l) 22 (0, 0) hn
  have hC : Ch [] w ((w.alloc (.cells (madeCells #[.int .u64 0] l.length) 22)).setRow w.heap.size (wcells l)) := by
    refine ((Ch.refl [] w).alloc (.cells (madeCells #[.int .u64 0] l.length) 22)).trans2 (T := [w.heap.size]) ⟨rfl, rfl, rfl, by simp [World.setRow], fun k _ hk => setRow_other _ _ _ _ (by simpa using hk)⟩ (by simp)
  generalize (w.alloc (.cells (madeCells #[.int .u64 0] l.length) 22)).setRow w.heap.size (wcells l) = W2 at *
  clear hrow hn hb hw hgn
  go_enter Tryz.func98, Tryz.ntmps98
  go_wp2
  go_ret
  exact ⟨rfl, hh, hC⟩
theorem s22Many_any (p : PartT) (w : World) : Calls Tryz.prog 49 #[.agg (partC p)] w fun e w' => e = .returned (I (manyS p)) ∧ Ch [] w w' := by
  have R1 := fun w => pCheck_any p w
  have C0 : Ch [] w (w.alloc (.cells (partC p) 51)) := (Ch.refl [] w).alloc _
  have b0 : (w.alloc (.cells (partC p) 51)).heap[w.heap.size]? = some (.cells (partC p) 51 (0, 0)) := by rw [zac, if_pos rfl]
  have hcs : checkS p = 320 ∧ manyS p = 0 ∨ checkS p = 0 ∧ (p.ph = 5 ∧ manyS p = 81 ∨ (p.ph == 5) = false ∧ (p.ph = 6 ∧ (0 ≤ p.at_ ∧ p.at_ < 80) ∧ manyS p = 80 - p.at_ ∨ (p.ph == 6) = false ∧ manyS p = 0)) := by
    cases hr : rightS p with
    | false => left; refine ⟨checkS_no hr, ?_⟩; unfold manyS; rw [hr, if_neg (by decide)]
    | true =>
      right
      refine ⟨checkS_yes hr, ?_⟩
      have R := (rightS_iff p).1 hr
      unfold manyS
      rw [if_pos hr]
      by_cases h5 : p.ph = 5
      · left; exact ⟨h5, if_pos h5⟩
      · right
        refine ⟨beq_eq_false_iff_ne.2 h5, ?_⟩
        rw [if_neg h5]
        by_cases h6 : p.ph = 6
        · left; exact ⟨h6, R.at6 h6, if_pos h6⟩
        · right; exact ⟨beq_eq_false_iff_ne.2 h6, if_neg h6⟩
  obtain ⟨m, hm⟩ : ∃ m, manyS p = m := ⟨_, rfl⟩
  rw [hm] at hcs ⊢
  clear hm
  generalize checkS p = r at *
  rcases hcs with ⟨rfl, rfl⟩ | ⟨rfl, ⟨h5, rfl⟩ | ⟨h5, ⟨h6, ⟨ha0, ha1⟩, rfl⟩ | ⟨h6, rfl⟩⟩⟩
  all_goals
    first
    | have h5' : ¬ p.ph = 5 := beq_eq_false_iff_ne.1 h5
    | skip
    first
    | have h6' : ¬ p.ph = 6 := beq_eq_false_iff_ne.1 h6
    | skip
    first
    | have hw : IntKind.i64.wrap (80 - p.at_) = 80 - p.at_ := by rw [IntKind.wrap_i64]; omega
    | skip
    go_enter Tryz.func49, Tryz.ntmps49
    go_wp2_with fail
    refine (R1 _).mono ?_
    rintro e w1 ⟨rfl, hc1⟩
    have b1 := hkeep hc1 b0
    have C1 := C0.trans hc1
    clear b0 C0 hc1 R1
    go_wp2
    go_ret
    exact ⟨by first | rfl | (simp; done) | (simp; omega), C1⟩
end
section
attribute [local go_sem] zcx seenC_one seenC_all seenC_g0 loadSeen storeSeen buildSeen buildSeen0
attribute [local go_sem ↓] lrowSeen srowSeen browSeen zcy
attribute [local go_sem high] zal
attribute [local irreducible] seenC
attribute [local go_sem] zap zbt
attribute [local go_sem] Oper.semAt_some zao
attribute [local go_sem] zcj pacell0 pacell1 pacell2 pacell3 pacell4 pacell5 pacell6 pacell7 pacell42
attribute [local go_sem] zcr zcw zct zdc zdb part_g5 zcv zdl zcf zcq part_s6 zde zch zbu zci zck boxPart loadPart storePart zce zcs buildPart0 buildPart4
attribute [local go_sem ↓] lrowPart srowPart browPart zcl zbz
attribute [local go_sem high] zag
attribute [local irreducible] partC
attribute [local go_sem] boxSeen
theorem take_world22 (p : PartT) (x : Int) (b : Bool) (w : World) : ∃ W, ((w.alloc (.cells (partC p) 51)).alloc (.cells (seenC x b) 93)).alloc (.cells (partC zeroPart) 51) = W ∧ Ch [] w W ∧ W.heap[w.heap.size]? = some (.cells (partC p) 51 (0, 0)) ∧ W.heap[w.heap.size + 1]? = some (.cells (seenC x b) 93 (0, 0)) ∧ W.heap[w.heap.size + 1 + 1]? = some (.cells (partC zeroPart) 51 (0, 0)) :=
  ⟨_, rfl, (((Ch.refl [] w).alloc _).alloc _).alloc _, by rw [zac, if_neg (by simp; omega), zac, if_neg (by simp), zac, if_pos rfl], by rw [zac, if_neg (by simp), zac, if_pos (by simp)], by rw [zac, if_pos (by simp)]⟩
theorem s22Take_bad (p : PartT) (x : Int) (b : Bool) (h : rightS p = false) (w : World) : Calls Tryz.prog 50 #[.agg (partC p), .agg (seenC x b)] w fun e w' => e = .returned (.tuple #[.agg (partC zeroPart), I 320]) ∧ Ch [] w w' := by
  have R1 := fun w => pCheck_any p w
  rw [checkS_no h] at R1
  obtain ⟨W0, hW0, C0, b0, y0, z0⟩ := take_world22 p x b w
  clear h
  go_enter Tryz.func50, Tryz.ntmps50
  go_wp2_with fail
  try rw [hW0]
  refine (R1 _).mono ?_
  rintro e w1 ⟨rfl, hc1⟩
  have z1 := hkeep hc1 z0
  have C1 := C0.trans hc1
  clear b0 y0 z0 C0 hc1 hW0
  go_wp2
  refine bodyPost_ret (part_results Tryz.results50 _ _ _ zeroPart _ rfl rfl ?_) rfl ⟨rfl, ?_⟩
  · simp [go_sem, z1]
  · exact C1.onObj (p := w.heap.size + 1 + 1) (.inr (by omega)) _
theorem s22Take_over (p : PartT) (x : Int) (b : Bool) (h : rightS p = true) (h7 : 7 ≤ p.ph) (w : World) : Calls Tryz.prog 50 #[.agg (partC p), .agg (seenC x b)] w fun e w' => e = .returned (.tuple #[.agg (partC zeroPart), I 4]) ∧ Ch [] w w' := by
  have R1 := fun w => pCheck_any p w
  rw [checkS_yes h] at R1
  obtain ⟨W0, hW0, C0, b0, y0, z0⟩ := take_world22 p x b w
  clear h
  go_enter Tryz.func50, Tryz.ntmps50
  go_wp2_with fail
  try rw [hW0]
  refine (R1 _).mono ?_
  rintro e w1 ⟨rfl, hc1⟩
  have z1 := hkeep hc1 z0
  have b1 := hkeep hc1 b0
  have C1 := C0.trans hc1
  clear b0 y0 z0 C0 hc1 hW0
  go_wp2
  refine bodyPost_ret (part_results Tryz.results50 _ _ _ zeroPart _ rfl rfl ?_) rfl ⟨rfl, ?_⟩
  · simp [go_sem, z1]
  · exact C1.onObj (p := w.heap.size + 1 + 1) (.inr (by omega)) _
theorem s22Take_yes (p : PartT) (hr : rightS p = true) (h6 : p.ph ≤ 6) (x : BitVec 64) (b : Bool) (w : World) : Calls Tryz.prog 50 #[.agg (partC p), .agg (seenC (N x) b)] w fun e w' => e = .returned (.tuple #[.agg (partC (takeS p x)), I 0]) ∧ Ch [] w w' := by
  have R1 := fun w => pCheck_any p w
  rw [checkS_yes hr] at R1
  have X1 := fun g w hg => s22take_any p hr h6 g x w hg
  generalize takeS p x = p2 at *
  obtain ⟨W0, hW0, C0, b0, y0, z0⟩ := take_world22 p (N x) b w
  clear hr
  go_enter Tryz.func50, Tryz.ntmps50
  go_wp2_with fail
  try rw [hW0]
  refine (R1 _).mono ?_
  rintro e w1 ⟨rfl, hc1⟩
  have b1 := hkeep hc1 b0
  have y1 := hkeep hc1 y0
  have z1 := hkeep hc1 z0
  have C1 := C0.trans hc1
  clear b0 y0 z0 C0 hc1 hW0 R1
  go_upto_region 7 with (fail)
  obtain ⟨B, hB⟩ : ∃ B, w.heap.size = B := ⟨_, rfl⟩
  have hBw : w.heap.size ≤ B := by omega
  rw [hB] at b1 y1 z1 ⊢
  clear hB
  have hc2 : Ch [] w1 (w1.alloc (.cells (partC p) 179)) := (Ch.refl [] w1).alloc _
  have g2 : (w1.alloc (.cells (partC p) 179)).heap[w1.heap.size]? = some (.cells (partC p) 179 (0, 0)) := by rw [zac, if_pos rfl]
  have b2 := hkeep hc2 b1
  have y2 := hkeep hc2 y1
  have z2 := hkeep hc2 z1
  have C2 := C1.trans hc2
  have k1 := (Array.getElem?_eq_some_iff.1 b1).1
  have k2 := (Array.getElem?_eq_some_iff.1 y1).1
  have k3 := (Array.getElem?_eq_some_iff.1 z1).1
  have hCw := C1.size
  clear b1 y1 z1 C1 hc2
  obtain ⟨w2, hw2⟩ : ∃ W, w1.alloc (.cells (partC p) 179) = W := ⟨_, rfl⟩
  rw [hw2] at g2 b2 y2 z2 C2 ⊢
  clear hw2
  obtain ⟨G, hG⟩ : ∃ G, w1.heap.size = G := ⟨_, rfl⟩
  rw [hG] at g2 k1 k2 k3 hCw ⊢
  clear hG
  have n3 : ¬ B + 1 + 1 = G := by omega
  clear k1 k2 k3 b2
  go_wp2_with fail
  refine (X1 _ _ g2).mono ?_
  rintro e w5 ⟨rfl, g5, hc5⟩
  have z5 : w5.heap[B + 1 + 1]? = some (.cells (partC zeroPart) 51 (0, 0)) := (hc5.block _ (zad z2) (by simpa using n3)).trans z2
  have C5 : Ch [] w w5 := C2.trans2 hc5 (by intro t ht; right; simp at ht; omega)
  clear hc5 y2 g2 z2 C2 X1
  go_wp2
  refine bodyPost_ret (part_results Tryz.results50 _ (B + 1 + 1) _ p2 _ rfl rfl ?_) rfl ⟨rfl, C5.onObj (p := B + 1 + 1) (.inr (by omega)) _⟩
  rw [zab, if_pos rfl, z5, Option.map_some, zag]
end
end Go.Proofs.Hc
