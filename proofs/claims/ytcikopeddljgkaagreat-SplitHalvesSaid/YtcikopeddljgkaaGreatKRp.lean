/- Package table: bare tables, and the pairs of full slots. -/
import Derived.Test.YtcikopeddljgkaaGreatKRo
set_option linter.unusedSimpArgs false
set_option linter.unusedVariables false
set_option maxHeartbeats 2000000
set_option maxRecDepth 100000
namespace Go.Proofs.Hc
open Go.RowKit
attribute [local go_sem] zbr zcd zat zaz zbn zax zbm zbo zbw signed64 signed8 zar BitVec.ofInt_add BitVec.ofInt_mul ofInt_sub' zav zaw wide8 eqN neN zcc shr1 shr7 shr56
attribute [local go_sem high] zay zbv
attribute [local go_sem] zau zbx zai zal zac zbd zan zah zbk zaj zbc zbe
attribute [local go_sem] load26 load73 load23 store26 build73
attribute [local go_sem ↓] lrow26 lrow73 lrow23 srow26 zero26 brow73 zab zba zbb zaa zae
attribute [local go_sem] zag zap zaf zbf zbi zbp zam zaq zbq zbh zbg
attribute [local go_sem] nn2 nm2 nn3 nm3 nn4 nm4 nn5 nm5 nn6 nm6 nn7 nm7 nn8 nm8
section
attribute [local go_sem] Oper.semAt_some zak
attribute [local go_sem] box26 zbz cell0 cell1 cell2 cell3 cell4 zcb zca
attribute [local go_sem] cell5 cell6
theorem tset_ctrl (t : Tab) (g : Nat) (hg : g < 2) (x : BitVec 64) : (tcells t).setIfInBounds (5 + g) (U x) = tcells { t with c := fun i => if i = g then x else t.c i } := by
  have h := hset_ctrl t 0#64 g hg x
  have h2 := congrArg (fun a => a.extract 0 39) h
  simp only [zam] at h2
  rw [← h2, ← zam t 0#64]
  apply Array.ext_getElem?; intro i
  by_cases hi : i = 5 + g
  · subst hi
    simp [zap, show 5 + g < 39 by omega]
  · rw [Array.getElem?_setIfInBounds_ne (fun e => hi e.symm), Array.getElem?_extract, Array.getElem?_extract]
    simp only [Array.size_setIfInBounds]
    split
    · rw [Array.getElem?_setIfInBounds_ne (by omega)]
    · rfl
theorem tset5 (t : Tab) (x : BitVec 64) : (tcells t).setIfInBounds 5 (U x) = tcells { t with c := fun i => if i = 0 then x else t.c i } := tset_ctrl t 0 (by omega) x
theorem tset6 (t : Tab) (x : BitVec 64) : (tcells t).setIfInBounds 6 (U x) = tcells { t with c := fun i => if i = 1 then x else t.c i } := tset_ctrl t 1 (by omega) x
theorem zcu (a b : Tab) (T : TypeId) (fr : Nat × Nat) : laidAt 0 (tcells b) (.cells (tcells a) T fr) = .cells (tcells b) T fr := by
  rw [zah, laid_whole _ _ (by rw [zag, zag])]
theorem brow26 (ps : Array (Nat × Value)) : Instr.build 26 ps = buildRow 26 ps := rfl
theorem build_bare (c : BitVec 64) (d : Int) (p : BitVec 64) (w : World) : (buildRow 26 #[(0, U c), (1, I d), (2, U p), (3, .int .i64 14)]).run Tryz.prog w = .ok (.agg (tcells ⟨c, d, p, 14, 0, fun _ => 0#64, fun _ => 0#64, fun _ => 0#64⟩)) w := by kernel_rfl
attribute [local go_sem] tset5 tset6 build_bare
attribute [local go_sem high] zcu
attribute [local go_sem ↓] brow26
theorem tcells_congr {t t' : Tab} (h : ∀ i, i < 39 → t.cell i = t'.cell i) : tcells t = tcells t' := by
  apply Array.ext_getElem?; intro i
  rw [zaf, zaf]
  by_cases hi : i < 39
  · rw [if_pos hi, if_pos hi, h i hi]
  · rw [if_neg hi, if_neg hi]
theorem bare_cells (c : BitVec 64) (d : Int) (p : BitVec 64) : tcells ⟨c, d, p, 14, 0, fun i => if i = 1 then tops else if i = 0 then tops else 0#64, fun _ => 0#64, fun _ => 0#64⟩ = tcells (bareT c d p) := by
  apply tcells_congr
  intro i _
  unfold Tab.cell bareT
  split <;> first | rfl | skip
theorem bare_any (c : BitVec 64) (d : Int) (p : BitVec 64) (w : World) :
    Calls Tryz.prog 79 #[U c, I d, U p] w fun e w' => e = .returned (.agg (tcells (bareT c d p))) ∧ Ch [] w w' := by
  go_enter Tryz.func79, Tryz.ntmps79
  go_wp2
  refine wp_loop_rounds 3 ?_
  rw [rounds_succ]
  go_wp2_with (go_at_call 143; refine (cnew_any _).mono ?_; rintro e w' ⟨rfl, rfl⟩)
  rw [rounds_succ]
  go_wp2_with (go_at_call 143; refine (cnew_any _).mono ?_; rintro e w' ⟨rfl, rfl⟩)
  rw [rounds_succ]
  go_wp2
  refine bodyPost_ret (v := .agg (tcells (bareT c d p))) (zcp Tryz.results79 _ _ _ rfl (run_loadVar_row _ _ 26 26 (tcells (bareT c d p)) (0, 0) _ ?_ Tryz.underlying26 rfl (by rw [zag]; kernel_rfl))) rfl ⟨rfl, ?_⟩
  · rw [← bare_cells]
    simp [go_sem]
  · exact ((((((Ch.refl [] w).alloc _).alloc _).onObj (.inr (by simp)) _).setCell (p := ⟨w.heap.size + 1, 5, none⟩) (.inr (by simp)) _).setCell (p := ⟨w.heap.size + 1, 6, none⟩) (.inr (by simp)) _).onObj (.inr (by simp)) _
end
section
attribute [local go_sem] loadA loadT2 storeA storeT2 buildA_ts buildA_sm zcm make_func zcl zbt zcw zcg zdd zcr zcn zde zcs t2cells_l t2cells_r
attribute [local go_sem ↓] lrowA lrowT2 srowA srowT2 browA zeroA_run zcz
attribute [local go_sem] Oper.semAt_some zak zbj
attribute [local go_sem] box26 zbz cell0 cell1 cell2 cell3 cell4 zcb zca
attribute [local go_sem] cell5 cell6
attribute [local go_sem high] zcu
theorem tup26 (r : Except Int Tab) : ∃ (y : Tab) (c : Int), tupOr (fun v => Value.agg (tcells v)) (.agg (tcells zeroT)) r = .tuple #[.agg (tcells y), I c] := by
  cases r with
  | error c => exact ⟨zeroT, c, rfl⟩
  | ok y => exact ⟨y, 0, rfl⟩
theorem results_c0t {P : Program} {fn : Func} {p q : Tmp} {T1 : TypeId} (h : fn.results = #[.cell p T1, .tmp q]) (tmps : Array Value) (a : Addr) (w : World) {x y : Value}
    (hp : tmps.getD p undef = .pointer (some a)) (hq : tmps.getD q undef = y) (h1 : (loadVar T1 a).run P w = .ok x w) :
    (results fn tmps).run P w = .ok (.tuple #[x, y]) w := by
  have hp' : tmps[p]?.getD undef = .pointer (some a) := by simpa using hp
  have hq' : tmps[q]?.getD undef = y := by simpa using hq
  simp [results, h, hp', hq', asAddr, h1]
end
section
attribute [local go_sem] loadA loadT2 storeA storeT2 buildA_ts buildA_sm zcm make_func zcl zbt zcw zcg zdd zcr zcn zde zcs t2cells_l t2cells_r
attribute [local go_sem ↓] lrowA lrowT2 srowA srowT2 browA zeroA_run zcz
attribute [local go_sem] Oper.semAt_some zak zbj
attribute [local go_sem] box26 zbz cell0 cell1 cell2 cell3 cell4 zcb zca
attribute [local go_sem] cell5 cell6
attribute [local go_sem high] zcu
def newE (d : Int) (p : BitVec 64) : Except Int Tab := if decide (d < 0) || decide (5 < d) || (p >>> d.toNat != 0#64) then .error 2 else .ok (bareT 0#64 d p)
theorem shr_ge (d : Nat) (_hd : d ≤ 5) (p : BitVec 64) : (p >>> d != 0#64) = decide (2 ^ d ≤ N p) := by
  rw [Bool.eq_iff_iff, bne_iff_ne, decide_eq_true_iff, ne_eq]
  have h2 : ((2 : Int) ^ d) = ((2 ^ d : Nat) : Int) := by simp
  have hpos : 0 < 2 ^ d := Nat.two_pow_pos d
  rw [h2]
  unfold N
  rw [Int.ofNat_le]
  have e : (p >>> d).toNat = p.toNat / 2 ^ d := by rw [BitVec.toNat_ushiftRight, Nat.shiftRight_eq_div_pow]
  constructor
  · intro h
    rcases Nat.lt_or_ge p.toNat (2 ^ d) with h1 | h1
    · exact absurd (BitVec.eq_of_toNat_eq (by rw [e, Nat.div_eq_of_lt h1]; rfl)) h
    · exact h1
  · intro h hz
    have : (p >>> d).toNat = 0 := by rw [hz]; rfl
    rw [e] at this
    have := (Nat.div_eq_zero_iff).1 this
    omega
theorem build_zero (w : World) : (buildRow 26 #[]).run Tryz.prog w = .ok (.agg (tcells zeroT)) w := by kernel_rfl
attribute [local go_sem] build_zero
attribute [local go_sem ↓] brow26
theorem new_bad (d : Int) (p : BitVec 64) (w : World) (h : d < 0 ∨ 5 < d) :
    Calls Tryz.prog 75 #[I d, U p] w fun e w' => e = .returned (.tuple #[.agg (tcells zeroT), I 2]) ∧ Ch [] w w' := by
  rcases h with h | h
  all_goals
    first | (have h' : ¬ d < 0 := by omega) | skip
    go_enter Tryz.func75, Tryz.ntmps75
    go_wp2
    refine bodyPost_ret (v := .tuple #[.agg (tcells zeroT), I 2]) (results_c0t Tryz.results75 _ _ _ rfl rfl (run_loadVar_row _ _ 26 26 (tcells zeroT) (0, 0) _ ?_ Tryz.underlying26 rfl (by rw [zag]; kernel_rfl))) rfl ⟨rfl, ?_⟩
    · simp [go_sem]
    · exact ((Ch.refl [] w).alloc _).onObj (.inr (Nat.le_refl _)) _
theorem new_at (d : Int) (p : BitVec 64) (w : World) (h : d = 0 ∨ d = 1 ∨ d = 2 ∨ d = 3 ∨ d = 4 ∨ d = 5) :
    Calls Tryz.prog 75 #[I d, U p] w fun e w' => e = .returned (tupOr (fun v => .agg (tcells v)) (.agg (tcells zeroT)) (if decide (2 ^ d.toNat ≤ N p) then .error 2 else .ok (bareT 0#64 d p))) ∧ Ch [] w w' := by
  have B1 := fun w => bare_any 0#64 d p w
  generalize bareT 0#64 d p = bt at *
  obtain ⟨W0, hW0⟩ : ∃ W0, w.alloc (.cells (tcells zeroT) 26) = W0 := ⟨_, rfl⟩
  have hC0 : Ch [] w W0 := by rw [← hW0]; exact (Ch.refl [] w).alloc _
  have b0 : W0.heap[w.heap.size]? = some (.cells (tcells zeroT) 26 (0, 0)) := by rw [← hW0]; simp [go_sem]
  obtain ⟨R, hR⟩ : ∃ R : Except Int Tab, (if decide (2 ^ d.toNat ≤ N p) = true then Except.error 2 else Except.ok bt) = R := ⟨_, rfl⟩
  rw [hR]
  have HR := Lib.hid hR
  clear hR
  rcases h with rfl | rfl | rfl | rfl | rfl | rfl
  all_goals
    go_enter Tryz.func75, Tryz.ntmps75
    go_wp2_with fail
    · have e8 := ‹N _ ≤ N p›
      have e : R = .error 2 := by rw [← HR.out]; exact if_pos (decide_eq_true (Int.le_trans (by decide) e8))
      rw [e]
      refine bodyPost_ret (v := .tuple #[.agg (tcells zeroT), I 2]) (results_c0t Tryz.results75 _ _ _ rfl rfl (run_loadVar_row _ _ 26 26 (tcells zeroT) (0, 0) _ ?_ Tryz.underlying26 rfl (by rw [zag]; kernel_rfl))) rfl ⟨rfl, ?_⟩
      · simp only [zae, if_true, b0, Option.map_some, zcu]
      · exact hC0.onObj (.inr (Nat.le_refl _)) _
    · refine (B1 _).mono ?_
      rintro e w1 ⟨rfl, hc1⟩
      have b1 := hkeep hc1 b0
      have e8 := ‹N p < N _›
      have e : R = .ok bt := by rw [← HR.out]; exact if_neg (by rw [decide_eq_true_iff]; exact Int.not_le.2 (Int.lt_of_lt_of_le e8 (by decide)))
      have HE := Lib.hid e
      clear e
      go_wp2
      refine bodyPost_ret (v := .tuple #[.agg (tcells bt), I 0]) (results_c0t Tryz.results75 _ _ _ rfl rfl (run_loadVar_row _ _ 26 26 (tcells bt) (0, 0) _ ?_ Tryz.underlying26 rfl (by rw [zag]; kernel_rfl))) rfl ⟨by rw [HE.out]; rfl, ?_⟩
      · simp only [zae, if_true, b1, Option.map_some, zcu]
      · exact (hC0.trans hc1).onObj (.inr (Nat.le_refl _)) _
theorem New_any (d : Int) (p : BitVec 64) (w : World) :
    Calls Tryz.prog 75 #[I d, U p] w fun e w' => e = .returned (tupOr (fun v => .agg (tcells v)) (.agg (tcells zeroT)) (newE d p)) ∧ Ch [] w w' := by
  by_cases h : d < 0 ∨ 5 < d
  · refine (new_bad d p w h).mono ?_
    rintro e w' ⟨rfl, hc⟩
    refine ⟨?_, hc⟩
    rw [newE, if_pos]
    · rfl
    · rcases h with h | h
      · rw [decide_eq_true h]; rfl
      · rw [decide_eq_true h, Bool.or_true]; rfl
  · refine (new_at d p w (by omega)).mono ?_
    rintro e w' ⟨rfl, hc⟩
    refine ⟨?_, hc⟩
    rw [newE, shr_ge d.toNat (by omega) p, decide_eq_false (show ¬ d < 0 by omega), decide_eq_false (show ¬ 5 < d by omega), Bool.false_or, Bool.false_or]
end
section
attribute [local go_sem] loadA loadT2 storeA storeT2 buildA_ts buildA_sm zcm make_func zcl zbt zcw zcg zdd zcr zcn zde zcs t2cells_l t2cells_r
attribute [local go_sem ↓] lrowA lrowT2 srowA srowT2 browA zeroA_run zcz
attribute [local go_sem] Oper.semAt_some zak
attribute [local go_sem high] zcu
attribute [local go_sem] build_zero
attribute [local go_sem ↓] brow26
def readE (ws : Nat → BitVec 64) : Except Int Tab := if readOk ws then .ok (readTab ws) else .error 260
theorem readOk_parts {ws : Nat → BitVec 64} (h : readOk ws = true) : (ws 2).toNat ≤ 14 ∧ (ws 3).toNat ≤ 14 ∧ flatT (readTab ws) = true ∧ ws 38 = 0#64 ∧ ws 39 = 0#64 := by
  unfold readOk at h
  simp only [Bool.and_eq_true, decide_eq_true_eq, beq_iff_eq] at h
  exact ⟨h.1.1.1.1, h.1.1.1.2, h.1.1.2, h.1.2, h.2⟩
theorem enters_tbl1 (args : Array Value) (w : World) : (callFunc 105 args).run Tryz.prog w = .ok (.enter 105 args) w := Tryz.call105 args w
theorem tbl1_no (WB OB g o c : Nat) (cur : Array Value) (T : TypeId) (ws : Nat → BitVec 64) (hn : readOk ws = false) (hnc : 40 ≤ c) (hc : c ≤ 9223372036854775807) (w : World) (hW : w.heap[WB]? = some (.cells #[.slice (some ⟨g, o, none⟩) 40 c] 44 (0, 0))) (hO : w.heap[OB]? = some (.cells (tcells zeroT) 26 (0, 0))) (hg : w.heap[g]? = some (.cells cur T (0, 0))) (hw : AtW cur o ws) (hgo : ¬ g = OB) :
    Calls Tryz.prog 105 #[.pointer (some ⟨WB, 0, none⟩), .pointer (some ⟨OB, 0, none⟩)] w fun e w' => e = .panicked [{ v := .iface 244 (.agg #[]), recovered := false }] ∧ Ch [] w w' := by
  by_cases h2 : (ws 2).toNat ≤ 14
  · by_cases h3 : (ws 3).toNat ≤ 14
    · refine tbl1_rest WB OB g o c cur T ws h2 h3 ?_ hnc hc w hW hO hg hw hgo
      unfold readOk at hn
      rw [decide_eq_true h2, decide_eq_true h3, Bool.true_and, Bool.true_and] at hn
      exact hn
    · exact tbl1_num3 WB OB g o c cur T ws h2 (by omega) hnc hc w hW hO hg hw hgo
  · exact tbl1_num2 WB OB g o c cur T ws (by omega) hnc hc w hW hO hg hw hgo
theorem Table_err (a : Value) (w : World) (T1 : ∀ w1 : World, ∀ WB OB : Nat, Ch [] w w1 → w1.heap[WB]? = some (.cells #[a] 44 (0, 0)) → w1.heap[OB]? = some (.cells (tcells zeroT) 26 (0, 0)) → w.heap.size ≤ OB →
      Calls Tryz.prog 105 #[.pointer (some ⟨WB, 0, none⟩), .pointer (some ⟨OB, 0, none⟩)] w1 fun e w' => e = .panicked [{ v := .iface 244 (.agg #[]), recovered := false }] ∧ Ch [] w1 w') (ha : a.oneCell' = true) :
    Calls Tryz.prog 35 #[a] w fun e w' => e = .returned (.tuple #[.agg (tcells zeroT), I 260]) ∧ Ch [] w w' := by
  obtain ⟨W0, hW0⟩ : ∃ W, ((w.alloc (.cells #[a] 44)).alloc (.cells (tcells zeroT) 26)).alloc (.cells (tcells zeroT) 26) = W := ⟨_, rfl⟩
  have C0 : Ch [] w W0 := by rw [← hW0]; exact (((Ch.refl [] w).alloc _).alloc _).alloc _
  have a0 : W0.heap[w.heap.size]? = some (.cells #[a] 44 (0, 0)) := by rw [← hW0, zab, if_neg (by simp; omega), zab, if_neg (by simp), zab, if_pos rfl]
  have z0 : W0.heap[w.heap.size + 1]? = some (.cells (tcells zeroT) 26 (0, 0)) := by rw [← hW0, zab, if_neg (by simp), zab, if_pos (by simp)]
  have o0 : W0.heap[w.heap.size + 1 + 1]? = some (.cells (tcells zeroT) 26 (0, 0)) := by rw [← hW0, zab, if_pos (by simp)]
  have R1 := ltries_no 105 #[.pointer (some ⟨w.heap.size, 0, none⟩), .pointer (some ⟨w.heap.size + 1 + 1, 0, none⟩)] W0 enters_tbl1 (fun w1 c1 => T1 w1 _ _ (C0.trans c1) (hkeep c1 a0) (hkeep c1 o0) (by omega))
  go_enter Tryz.func35, Tryz.ntmps35
  go_wp2_with fail
  try rw [hW0]
  refine R1.mono ?_
  rintro e w1 ⟨rfl, hc1⟩
  have z1 := hkeep hc1 z0
  go_wp2
  refine bodyPost_ret (v := .tuple #[.agg (tcells zeroT), I 260]) (results_c0t Tryz.results35 _ _ _ rfl rfl (run_loadVar_row _ _ 26 26 (tcells zeroT) (0, 0) _ ?_ Tryz.underlying26 rfl (by rw [zag]; kernel_rfl))) rfl ⟨rfl, ?_⟩
  · simp only [zae, if_true, z1, Option.map_some, zcu]
  · exact (C0.trans hc1).onObj (.inr (by omega)) _
theorem Table_ok (g o c : Nat) (cur : Array Value) (T : TypeId) (ws : Nat → BitVec 64) (hok : readOk ws = true) (hnc : 40 ≤ c) (hc : c ≤ 9223372036854775807) (w : World) (hg : w.heap[g]? = some (.cells cur T (0, 0))) (hw : AtW cur o ws) :
    Calls Tryz.prog 35 #[.slice (some ⟨g, o, none⟩) 40 c] w fun e w' => e = .returned (.tuple #[.agg (tcells (readTab ws)), I 0]) ∧ Ch [] w w' := by
  obtain ⟨h2, h3, hf, h38, h39⟩ := readOk_parts hok
  obtain ⟨W0, hW0⟩ : ∃ W, ((w.alloc (.cells #[.slice (some ⟨g, o, none⟩) 40 c] 44)).alloc (.cells (tcells zeroT) 26)).alloc (.cells (tcells zeroT) 26) = W := ⟨_, rfl⟩
  have C0 : Ch [] w W0 := by rw [← hW0]; exact (((Ch.refl [] w).alloc _).alloc _).alloc _
  have a0 : W0.heap[w.heap.size]? = some (.cells #[.slice (some ⟨g, o, none⟩) 40 c] 44 (0, 0)) := by rw [← hW0, zab, if_neg (by simp; omega), zab, if_neg (by simp), zab, if_pos rfl]
  have z0 : W0.heap[w.heap.size + 1]? = some (.cells (tcells zeroT) 26 (0, 0)) := by rw [← hW0, zab, if_neg (by simp), zab, if_pos (by simp)]
  have o0 : W0.heap[w.heap.size + 1 + 1]? = some (.cells (tcells zeroT) 26 (0, 0)) := by rw [← hW0, zab, if_pos (by simp)]
  have hs0 : w.heap.size + 1 + 1 < W0.heap.size := (Array.getElem?_eq_some_iff.1 o0).1
  have hgl : g < w.heap.size := (Array.getElem?_eq_some_iff.1 hg).1
  have R1 := ltries_ok 105 #[.pointer (some ⟨w.heap.size, 0, none⟩), .pointer (some ⟨w.heap.size + 1 + 1, 0, none⟩)] (w.heap.size + 1 + 1) (.cells (tcells (readTab ws)) 26 (0, 0)) W0 hs0 enters_tbl1 (fun w1 c1 => tbl1_ok _ _ g o c cur T ws h2 h3 hf h38 h39 hnc hc w1 (hkeep c1 a0) (hkeep c1 o0) (hkeep (C0.trans c1) hg) hw (by omega))
  obtain ⟨tt, htt⟩ : ∃ t, readTab ws = t := ⟨_, rfl⟩
  rw [htt] at R1 ⊢
  clear htt hf hok hgl hs0 hg hw h2 h3 h38 h39
  go_enter Tryz.func35, Tryz.ntmps35
  go_wp2_with fail
  try rw [hW0]
  refine R1.mono ?_
  rintro e w1 ⟨rfl, hc1, o1⟩
  have z1 := (hc1.block (w.heap.size + 1) (Array.getElem?_eq_some_iff.1 z0).1 (by simp)).trans z0
  have C1 : Ch [] w w1 := C0.trans2 hc1 (by intro t ht; right; simp at ht; omega)
  go_wp2
  refine bodyPost_ret (v := .tuple #[.agg (tcells tt), I 0]) (results_c0t Tryz.results35 _ _ _ rfl rfl (run_loadVar_row _ _ 26 26 (tcells tt) (0, 0) _ ?_ Tryz.underlying26 rfl (by rw [zag]; kernel_rfl))) rfl ⟨rfl, ?_⟩
  · simp only [zae, if_true, z1, Option.map_some, zcu]
  · exact C1.onObj (.inr (by omega)) _
theorem Table_any (g o c : Nat) (cur : Array Value) (T : TypeId) (ws : Nat → BitVec 64) (hnc : 40 ≤ c) (hc : c ≤ 9223372036854775807) (w : World) (hg : w.heap[g]? = some (.cells cur T (0, 0))) (hw : AtW cur o ws) :
    Calls Tryz.prog 35 #[.slice (some ⟨g, o, none⟩) 40 c] w fun e w' => e = .returned (tupOr (fun v => .agg (tcells v)) (.agg (tcells zeroT)) (readE ws)) ∧ Ch [] w w' := by
  unfold readE
  cases h : readOk ws with
  | true => rw [if_pos rfl]; exact Table_ok g o c cur T ws h hnc hc w hg hw
  | false =>
    rw [if_neg (by decide)]
    have hgl : g < w.heap.size := (Array.getElem?_eq_some_iff.1 hg).1
    exact Table_err _ w (fun w1 WB OB c1 hW hO hb => tbl1_no WB OB g o c cur T ws h hnc hc w1 hW hO (hkeep c1 hg) hw (by omega)) rfl
end
end Go.Proofs.Hc
