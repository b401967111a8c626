/- Package rehash: many, own, Begin, Inside, Step (printed by gen_step20.py). -/
import Derived.Test.YtcikopeddljgkaaGreatKTg
import Derived.Test.YtcikopeddljgkaaGreatK0
set_option linter.unusedSimpArgs false
set_option linter.unusedVariables false
set_option maxHeartbeats 2000000
set_option maxRecDepth 100000
namespace Go.Proofs.Hc
open Go.RowKit
attribute [local go_sem] zbs zca zax zbc zbn zba zbm zbo zbu signed64 signed8 zar BitVec.ofInt_add BitVec.ofInt_mul ofInt_sub' zay zaz wide8 eqN neN zbz shr1 shr7 shr56
attribute [local go_sem high] zbb zbt
attribute [local go_sem] zag zbw zah zas zad zbe zaq zal zbl zan zbd zbf
attribute [local go_sem] load26 load73 load23 store26 build73
attribute [local go_sem ↓] lrow26 lrow73 lrow23 srow26 zero26 brow73 zac zaw zbg zaa zab
attribute [local go_sem] zai zav zat zbj zbk zbp zao zau zbq zbi zbh
attribute [local go_sem] nn2 nm2 nn3 nm3 nn4 nm4 nn5 nm5 nn6 nm6 nn7 nm7 nn8 nm8
section
attribute [local go_sem] acc_g0 acc_g1 acc_g2 acc_g4 acc_s0 acc_s1 acc_s2 acc_s4 zcv accC_one accC_all loadAcc storeAcc bacc0 bacc2 bacc3 bacc3u bacc4
attribute [local go_sem ↓] lrowAcc srowAcc browAcc zcn
attribute [local go_sem high] zak
attribute [local go_sem] zcq seenC_one seenC_all seenC_g0 loadSeen storeSeen buildSeen buildSeen0
attribute [local go_sem ↓] lrowSeen srowSeen browSeen zcr
attribute [local go_sem high] zam
attribute [local irreducible] seenC
attribute [local go_sem] zar zby
attribute [local go_sem] Oper.semAt_some zap
attribute [local go_sem] layC_idx lcell0 lcell1 lcell2 lcell3 lcell4 lcell5 lcell46
attribute [local go_sem] lay_g0 lay_g1 lay_g2 lay_g3 lay_g4 lay_g5 lay_g46 lay_s0 lay_s4 lay_s5 lay_s46 zck layC_one layC_all layC_ws boxLay loadLay storeLay build_lay box_lay buildLay0 buildLay2 buildLay3
attribute [local go_sem ↓] lrowLay srowLay browLay brow_lay zcs
attribute [local go_sem high] zaj
attribute [local irreducible] layC
attribute [local irreducible] accC
attribute [local go_sem] boxSeen
theorem lMany_any (a : Option Addr) (n c : Nat) (w : World) : Calls Tryz.prog 101 #[.slice a n c] w fun e w' => e = .returned (.bool (decide (1 ≤ n) && decide (n ≤ 8192))) ∧ w = w' := by
  obtain ⟨r, hr⟩ : ∃ r, (decide (1 ≤ n) && decide (n ≤ 8192)) = r := ⟨_, rfl⟩
  rw [hr]
  have hcs : n < 1 ∧ r = false ∨ 1 ≤ n ∧ n ≤ 8192 ∧ r = true ∨ 1 ≤ n ∧ ¬ n ≤ 8192 ∧ r = false := by
    rw [← hr]
    by_cases h1 : 1 ≤ n
    · by_cases h2 : n ≤ 8192
      · right; left; exact ⟨h1, h2, by rw [decide_eq_true h1, decide_eq_true h2]; rfl⟩
      · right; right; exact ⟨h1, h2, by rw [decide_eq_false h2, Bool.and_false]⟩
    · left; exact ⟨by omega, by rw [decide_eq_false h1, Bool.false_and]⟩
  clear hr
  rcases hcs with ⟨h1, rfl⟩ | ⟨h1, h2, rfl⟩ | ⟨h1, h2, rfl⟩
  · have h1' : ¬ (1 : Int) ≤ n := by omega
    go_enter Tryz.func101, Tryz.ntmps101
    go_wp2
    go_ret
    exact ⟨rfl, rfl⟩
  · have h1' : (1 : Int) ≤ n := by omega
    have h2' : (n : Int) ≤ 8192 := by omega
    go_enter Tryz.func101, Tryz.ntmps101
    go_wp2
    go_ret
    exact ⟨rfl, rfl⟩
  · have h1' : (1 : Int) ≤ n := by omega
    have h2' : ¬ (n : Int) ≤ 8192 := by omega
    go_enter Tryz.func101, Tryz.ntmps101
    go_wp2
    go_ret
    exact ⟨rfl, rfl⟩
theorem lOwn_any (l : List (BitVec 64)) (g c : Nat) (cur : Array Value) (w : World) (hl : l.length ≤ 9000) (hb : w.heap[g]? = some (.cells cur 22 (0, 0))) (hw : WordsAt cur l) :
    Calls Tryz.prog 102 #[.slice (some ⟨g, 0, none⟩) l.length c] w fun e w' => e = .returned (.slice (some ⟨w.heap.size, 0, none⟩) l.length l.length) ∧ w'.heap[w.heap.size]? = some (.cells (wcells l) 22 (0, 0)) ∧ Ch [] w w' := by
  have hm := fun w => run_make_row' (P := Tryz.prog) 44 22 (.int .u64 0) 8 Tryz.underlying44 infoU rfl .i64 .i64 l.length (by omega) (by omega) w
  have hgn : ¬ g = w.heap.size := by have := (Array.getElem?_eq_some_iff.1 hb).1; omega
  have hn : (w.alloc (.cells (madeCells #[.int .u64 0] l.length) 22)).heap[w.heap.size]? = some (.cells (madeCells #[.int .u64 0] l.length) 22 (0, 0)) := by rw [zac, if_pos rfl]
  have hlen : (l.map fun x => U x).length = l.length := List.length_map ..
  have hcp := run_copy_row (P := Tryz.prog) (w.alloc (.cells (madeCells #[.int .u64 0] l.length) 22)) 44 44 3 22 w.heap.size 0 l.length l.length ⟨g, 0, none⟩ l.length c (madeCells #[.int .u64 0] l.length) 22 (l.map fun x => U x) Tryz.underlying44 (by kernel_rfl) hn (by rw [hlen]; exact (Nat.min_self _).symm) (by
    intro j v hj
    rw [List.getElem?_map] at hj
    obtain ⟨x, hx, rfl⟩ := Option.map_eq_some_iff.1 hj
    rw [Addr.add_lit, zag, zac, if_neg hgn, hb, Option.bind_some, zah, Nat.zero_add]
    exact hw j x hx) (by rw [hlen, size_madeCells]; omega) (words_one l)
  have hrow : ((madeCells #[.int .u64 0] l.length).toList.take 0 ++ (l.map fun x => U x) ++ (madeCells #[.int .u64 0] l.length).toList.drop (0 + (l.map fun x => U x).length)).toArray = wcells l := by
    rw [List.take_zero, List.nil_append, List.drop_eq_nil_of_le (by rw [hlen, Array.length_toList, size_madeCells]; omega), List.append_nil]; rfl
  rw [hrow, hlen] at hcp
  have hh := setRow_heap (w.alloc (.cells (madeCells #[.int .u64 0] l.length) 22)) w.heap.size _ (wcells l) 22 (0, 0) hn
  have hC : Ch [] w ((w.alloc (.cells (madeCells #[.int .u64 0] l.length) 22)).setRow w.heap.size (wcells l)) := by
    refine ((Ch.refl [] w).alloc (.cells (madeCells #[.int .u64 0] l.length) 22)).trans2 (T := [w.heap.size]) ⟨rfl, rfl, rfl, by simp [World.setRow], fun k _ hk => setRow_other _ _ _ _ (by simpa using hk)⟩ (by simp)
  generalize (w.alloc (.cells (madeCells #[.int .u64 0] l.length) 22)).setRow w.heap.size (wcells l) = W2 at *
  clear hrow hn hb hw hgn
  go_enter Tryz.func102, Tryz.ntmps102
  go_wp2
  go_ret
  exact ⟨rfl, hh, hC⟩
def beginE (who sl : Int) (seed : BitVec 64) : Except Int LayT := if rightL (firstL who sl seed) then .ok (firstL who sl seed) else .error 2
theorem zcm (q : LayT) (w : World) : (World.onObj (w.alloc (.cells (layC zeroLay) 72)) w.heap.size (laidAt 0 (layC q))).heap[w.heap.size]? = some (.cells (layC q) 72 (0, 0)) := by
  rw [zab, if_pos rfl, zac, if_pos rfl, Option.map_some, zaj]
theorem zaf (q : LayT) (w : World) : Ch [] w (World.onObj (w.alloc (.cells (layC zeroLay) 72)) w.heap.size (laidAt 0 (layC q))) := ((Ch.refl [] w).alloc _).onObj (.inr (Nat.le_refl _)) _
theorem lBegin_any (who sl : Int) (seed : BitVec 64) (w : World) : Calls Tryz.prog 37 #[I who, I sl, U seed] w fun e w' => e = .returned (tupOr (fun v => .agg (layC v)) (.agg (layC zeroLay)) (beginE who sl seed)) ∧ Ch [] w w' := by
  have R1 := fun w => lCheck_any (firstL who sl seed) w
  have z0 : (w.alloc (.cells (layC zeroLay) 72)).heap[w.heap.size]? = some (.cells (layC zeroLay) 72 (0, 0)) := by rw [zac, if_pos rfl]
  have C0 : Ch [] w (w.alloc (.cells (layC zeroLay) 72)) := (Ch.refl [] w).alloc _
  obtain ⟨q, hq⟩ : ∃ q, firstL who sl seed = q := ⟨_, rfl⟩
  have BB := fun w => buildLay3 who sl seed w
  unfold beginE
  rw [hq] at R1 BB ⊢
  clear hq
  cases hr : rightL q with
  | true =>
    rw [checkL_yes hr] at R1
    simp only [if_true, tupOr]
    clear hr
    go_enter Tryz.func37, Tryz.ntmps37
    go_upto_region 1 with (fail)
    obtain ⟨w0, hw0⟩ : ∃ W, w.alloc (.cells (layC zeroLay) 72) = W := ⟨_, rfl⟩
    rw [hw0] at z0 C0 ⊢
    clear hw0
    obtain ⟨B, hB⟩ : ∃ B, w.heap.size = B := ⟨_, rfl⟩
    rw [hB] at z0 ⊢
    have hBw : w.heap.size ≤ B := by omega
    clear hB
    have hBn : ¬ B = w0.heap.size := by have := (Array.getElem?_eq_some_iff.1 z0).1; omega
    go_upto_region 2 with (fail)
    have q1 := zcm q w0
    have hc1 := zaf q w0
    have z1 := hkeep hc1 z0
    have C1 := C0.trans hc1
    clear z0 C0 hc1
    obtain ⟨w1, hw1⟩ : ∃ W, World.onObj (w0.alloc (.cells (layC zeroLay) 72)) w0.heap.size (laidAt 0 (layC q)) = W := ⟨_, rfl⟩
    rw [hw1] at q1 z1 C1 ⊢
    clear hw1
    obtain ⟨D, hD⟩ : ∃ D, w0.heap.size = D := ⟨_, rfl⟩
    rw [hD] at q1 hBn ⊢
    clear hD
    go_wp2_with fail
    refine (R1 _).mono ?_
    rintro e w2 ⟨rfl, hc2⟩
    have q2 := hkeep hc2 q1
    have z2 := hkeep hc2 z1
    have C2 := C1.trans hc2
    clear q1 z1 C1 hc2
    go_wp2
    refine bodyPost_ret (lay_results Tryz.results37 _ B _ q _ rfl rfl ?_) rfl ⟨rfl, C2.onObj (p := B) (.inr hBw) _⟩
    rw [zab, if_pos rfl, z2, Option.map_some, zaj]
  | false =>
    rw [checkL_no hr] at R1
    simp only [Bool.false_eq_true, if_false, tupOr]
    clear hr
    go_enter Tryz.func37, Tryz.ntmps37
    go_upto_region 1 with (fail)
    obtain ⟨w0, hw0⟩ : ∃ W, w.alloc (.cells (layC zeroLay) 72) = W := ⟨_, rfl⟩
    rw [hw0] at z0 C0 ⊢
    clear hw0
    obtain ⟨B, hB⟩ : ∃ B, w.heap.size = B := ⟨_, rfl⟩
    rw [hB] at z0 ⊢
    have hBw : w.heap.size ≤ B := by omega
    clear hB
    have hBn : ¬ B = w0.heap.size := by have := (Array.getElem?_eq_some_iff.1 z0).1; omega
    go_upto_region 2 with (fail)
    have q1 := zcm q w0
    have hc1 := zaf q w0
    have z1 := hkeep hc1 z0
    have C1 := C0.trans hc1
    clear z0 C0 hc1
    obtain ⟨w1, hw1⟩ : ∃ W, World.onObj (w0.alloc (.cells (layC zeroLay) 72)) w0.heap.size (laidAt 0 (layC q)) = W := ⟨_, rfl⟩
    rw [hw1] at q1 z1 C1 ⊢
    clear hw1
    go_wp2_with fail
    refine (R1 _).mono ?_
    rintro e w2 ⟨rfl, hc2⟩
    have z2 := hkeep hc2 z1
    have C2 := C1.trans hc2
    clear q1 z1 C1 hc2
    go_wp2
    refine bodyPost_ret (lay_results Tryz.results37 _ B _ zeroLay _ rfl rfl ?_) rfl ⟨rfl, C2.onObj (p := B) (.inr hBw) _⟩
    rw [zab, if_pos rfl, z2, Option.map_some, zaj]
def insideL (p : LayT) : Bool := rightL p && (decide (2 ≤ p.ph) && decide (p.ph ≤ 4))
theorem lInside_any (p : LayT) (w : World) : Calls Tryz.prog 60 #[.agg (layC p)] w fun e w' => e = .returned (.bool (insideL p)) ∧ Ch [] w w' := by
  have R1 := fun w => lCheck_any p w
  have hcs : checkL p = 300 ∧ insideL p = false ∨ checkL p = 0 ∧ (¬ 2 ≤ p.ph ∧ insideL p = false ∨ 2 ≤ p.ph ∧ ¬ p.ph ≤ 4 ∧ insideL p = false ∨ 2 ≤ p.ph ∧ p.ph ≤ 4 ∧ insideL p = true) := by
    unfold insideL
    cases hr : rightL p with
    | false => left; exact ⟨checkL_no hr, rfl⟩
    | true =>
      right
      refine ⟨checkL_yes hr, ?_⟩
      by_cases h1 : 2 ≤ p.ph
      · by_cases h2 : p.ph ≤ 4
        · right; right; exact ⟨h1, h2, by rw [decide_eq_true h1, decide_eq_true h2]; rfl⟩
        · right; left; exact ⟨h1, h2, by rw [decide_eq_false h2, Bool.and_false, Bool.and_false]⟩
      · left; exact ⟨h1, by rw [decide_eq_false h1, Bool.false_and, Bool.and_false]⟩
  generalize checkL p = r at *
  generalize insideL p = q at *
  have b0 : (w.alloc (.cells (layC p) 72)).heap[w.heap.size]? = some (.cells (layC p) 72 (0, 0)) := by rw [zac, if_pos rfl]
  have C0 : Ch [] w (w.alloc (.cells (layC p) 72)) := (Ch.refl [] w).alloc _
  rcases hcs with ⟨rfl, rfl⟩ | ⟨rfl, ⟨h1, rfl⟩ | ⟨h1, h2, rfl⟩ | ⟨h1, h2, rfl⟩⟩
  all_goals
    go_enter Tryz.func60, Tryz.ntmps60
    go_wp2_with fail
    generalize w.alloc (.cells (layC p) 72) = w0 at *
    refine (R1 _).mono ?_
    rintro e w1 ⟨rfl, hc1⟩
    have b1 := hkeep hc1 b0
    have C1 := C0.trans hc1
    clear b0 C0 hc1
    go_wp2
    go_ret
    exact ⟨by first | rfl | (simp; omega), C1⟩
theorem lstep_results {fn : Func} {p q u : Tmp} (h : fn.results = #[.tmp p, .cell q 72, .tmp u]) (tmps : Array Value) (b : Nat) (w : World) (d : LayT) (v y : Value) (hp : tmps.getD p undef = v) (hq : tmps.getD q undef = .pointer (some ⟨b, 0, none⟩)) (hu : tmps.getD u undef = y)
    (hb : w.heap[b]? = some (.cells (layC d) 72 (0, 0))) : (results fn tmps).run Tryz.prog w = .ok (.tuple #[v, .agg (layC d), y]) w := by
  have hl := run_loadVar_row (P := Tryz.prog) w b 72 72 (layC d) (0, 0) _ hb Tryz.underlying72 rfl (by rw [zck]; kernel_rfl)
  have hp' : tmps[p]?.getD undef = v := by simpa using hp
  have hq' : tmps[q]?.getD undef = .pointer (some ⟨b, 0, none⟩) := by simpa using hq
  have hu' : tmps[u]?.getD undef = y := by simpa using hu
  simp [results, h, hp', hq', hu', asAddr, hl]
theorem step_world (p : LayT) (w : World) : ∃ W, (w.alloc (.cells (layC p) 72)).alloc (.cells (layC zeroLay) 72) = W ∧ Ch [] w W ∧ W.heap[w.heap.size]? = some (.cells (layC p) 72 (0, 0)) ∧ W.heap[w.heap.size + 1]? = some (.cells (layC zeroLay) 72 (0, 0)) :=
  ⟨_, rfl, ((Ch.refl [] w).alloc _).alloc _, by rw [zac, if_neg (by simp), zac, if_pos rfl], by rw [zac, if_pos (by simp)]⟩
theorem accv_put (a b c d : Int) (w : World) : (World.onObj (w.alloc (.cells (accC 0 0 0 0) 87)) w.heap.size (laidAt 0 (accC a b c d))).heap[w.heap.size]? = some (.cells (accC a b c d) 87 (0, 0)) := by
  rw [zab, if_pos rfl, zac, if_pos rfl, Option.map_some, zak]
theorem zcu (a b c d : Int) (w : World) : Ch [] w (World.onObj (w.alloc (.cells (accC 0 0 0 0) 87)) w.heap.size (laidAt 0 (accC a b c d))) := ((Ch.refl [] w).alloc _).onObj (.inr (Nat.le_refl _)) _
theorem seen_put (x : Int) (b : Bool) (w : World) : (World.onObj (w.alloc (.cells (seenC 0 false) 93)) w.heap.size (laidAt 0 (seenC x b))).heap[w.heap.size]? = some (.cells (seenC x b) 93 (0, 0)) := by
  rw [zab, if_pos rfl, zac, if_pos rfl, Option.map_some, zam]
theorem zbr (x : Int) (b : Bool) (w : World) : Ch [] w (World.onObj (w.alloc (.cells (seenC 0 false) 93)) w.heap.size (laidAt 0 (seenC x b))) := ((Ch.refl [] w).alloc _).onObj (.inr (Nat.le_refl _)) _
theorem lStep_empty (a : Option Addr) (c : Nat) (p : LayT)  (w : World) : Calls Tryz.prog 63 #[.slice a 0 c, .agg (layC p)] w fun e w' => e = .returned (.tuple #[.slice none 0 0, .agg (layC zeroLay), I 120]) ∧ Ch [] w w' := by
  have M1 := fun w => lMany_any a 0 c w
  simp only [show ¬ (1 ≤ 0) by omega, decide_false, Bool.false_and] at M1
  obtain ⟨w0, hW0, C0, b0, z0⟩ := step_world p w
  go_enter Tryz.func63, Tryz.ntmps63
  go_wp2_with fail
  try rw [hW0]
  clear hW0
  refine (M1 _).mono ?_
  rintro e w' ⟨rfl, rfl⟩
  obtain ⟨B, hB⟩ : ∃ B, w.heap.size = B := ⟨_, rfl⟩
  rw [hB] at b0 z0 ⊢
  have hBw : w.heap.size ≤ B := by omega
  clear hB M1
  go_wp2
  refine bodyPost_ret (lstep_results Tryz.results63 _ (B + 1) _ zeroLay _ _ rfl rfl rfl ?_) rfl ⟨rfl, C0.onObj (p := B + 1) (.inr (by omega)) _⟩
  rw [zab, if_pos rfl, z0, Option.map_some, zaj]
theorem lStep_bad (n g c : Nat) (cur : Array Value) (p : LayT) (hr : rightL p = false) (w : World) (h1 : 1 ≤ n) (hl : n ≤ 8192) (hb : w.heap[g]? = some (.cells cur 22 (0, 0))) : Calls Tryz.prog 63 #[.slice (some ⟨g, 0, none⟩) n c, .agg (layC p)] w fun e w' => e = .returned (.tuple #[.slice none 0 0, .agg (layC zeroLay), I 300]) ∧ Ch [] w w' := by
  have M1 := fun w => lMany_any (some ⟨g, 0, none⟩) n c w
  rw [decide_eq_true h1, decide_eq_true hl, Bool.and_true] at M1
  have R1 := fun w => lCheck_any p w
  rw [checkL_no hr] at R1
  clear hr
  obtain ⟨w0, hW0, C0, b0, z0⟩ := step_world p w
  have c0 := hkeep C0 hb
  clear hb h1 hl
  skip
  go_enter Tryz.func63, Tryz.ntmps63
  go_wp2_with fail
  try rw [hW0]
  clear hW0
  refine (M1 _).mono ?_
  rintro e w' ⟨rfl, rfl⟩
  obtain ⟨B, hB⟩ : ∃ B, w.heap.size = B := ⟨_, rfl⟩
  rw [hB] at b0 z0 ⊢
  have hBw : w.heap.size ≤ B := by omega
  clear hB M1
  go_wp2_with fail
  refine (R1 _).mono ?_
  rintro e w1 ⟨rfl, hc1⟩
  have b1 := hkeep (hc1) b0
  have z1 := hkeep (hc1) z0
  have c1 := hkeep (hc1) c0
  have C1 := C0.trans (hc1)
  clear b0 z0 c0 C0 hc1 
  clear R1
  go_wp2
  refine bodyPost_ret (lstep_results Tryz.results63 _ (B + 1) _ zeroLay _ _ rfl rfl rfl ?_) rfl ⟨rfl, C1.onObj (p := B + 1) (.inr (by omega)) _⟩
  rw [zab, if_pos rfl, z1, Option.map_some, zaj]
theorem lStep_over (l : List (BitVec 64)) (g c : Nat) (cur : Array Value) (p : LayT) (hr : rightL p = true) (hn : needL p = none) (w : World) (h1 : 1 ≤ l.length) (hl : l.length ≤ 8192) (hb : w.heap[g]? = some (.cells cur 22 (0, 0))) (hw : WordsAt cur l) : Calls Tryz.prog 63 #[.slice (some ⟨g, 0, none⟩) l.length c, .agg (layC p)] w fun e w' => ∃ R, e = .returned (.tuple #[.slice (some ⟨R, 0, none⟩) l.length l.length, .agg (layC p), I 0]) ∧ w.heap.size ≤ R ∧ w'.heap[R]? = some (.cells (wcells l) 22 (0, 0)) ∧ Ch [] w w' := by
  have O1 := fun w h => lOwn_any l g c cur w (by omega) h hw
  obtain ⟨n, hnl⟩ : ∃ n, l.length = n := ⟨_, rfl⟩
  rw [hnl] at O1 h1 hl ⊢
  clear hw hnl
  have M1 := fun w => lMany_any (some ⟨g, 0, none⟩) n c w
  rw [decide_eq_true h1, decide_eq_true hl, Bool.and_true] at M1
  have R1 := fun w => lCheck_any p w
  rw [checkL_yes hr] at R1
  have N1 := fun w => lNeed_any p w
  rw [hn] at N1
  simp only [needLV] at N1
  clear hn
  clear hr
  obtain ⟨w0, hW0, C0, b0, z0⟩ := step_world p w
  have c0 := hkeep C0 hb
  clear hb h1 hl
  skip
  go_enter Tryz.func63, Tryz.ntmps63
  go_wp2_with fail
  try rw [hW0]
  clear hW0
  refine (M1 _).mono ?_
  rintro e w' ⟨rfl, rfl⟩
  obtain ⟨B, hB⟩ : ∃ B, w.heap.size = B := ⟨_, rfl⟩
  rw [hB] at b0 z0 ⊢
  have hBw : w.heap.size ≤ B := by omega
  clear hB M1
  go_wp2_with fail
  refine (R1 _).mono ?_
  rintro e w1 ⟨rfl, hc1⟩
  have b1 := hkeep (hc1) b0
  have z1 := hkeep (hc1) z0
  have c1 := hkeep (hc1) c0
  have C1 := C0.trans (hc1)
  clear b0 z0 c0 C0 hc1 
  clear R1
  go_wp2_with fail
  refine (N1 _).mono ?_
  rintro e w2 ⟨rfl, hc2⟩
  have b2 := hkeep (hc2) b1
  have z2 := hkeep (hc2) z1
  have c2 := hkeep (hc2) c1
  have C2 := C1.trans (hc2)
  clear b1 z1 c1 C1 hc2 
  clear N1
  have nb := ns b2
  have nz : ¬ (B + 1) = w2.heap.size := by have := zae z2; omega
  have nc := ns c2
  go_upto_region 6 with (fail)
  clear nb nz nc
  have hcp2 := zcu 0 0 0 0 w2
  have b3 := hkeep (hcp2) b2
  have z3 := hkeep (hcp2) z2
  have c3 := hkeep (hcp2) c2
  have C3 := C2.trans (hcp2)
  have a3 := accv_put 0 0 0 0 w2
  have lbAA := zae b2
  have lzAA := zae z2
  have lcAA := zae c2
  have hlAA := C2.size
  clear b2 z2 c2 C2 hcp2
  obtain ⟨w3, hw3⟩ : ∃ W, World.onObj (w2.alloc (.cells (accC 0 0 0 0) 87)) w2.heap.size (laidAt 0 (accC 0 0 0 0)) = W := ⟨_, rfl⟩
  rw [hw3] at b3 z3 c3 a3 C3  ⊢
  clear hw3
  obtain ⟨AA, hbAA⟩ : ∃ b, w2.heap.size = b := ⟨_, rfl⟩
  rw [hbAA] at a3 hlAA lbAA lzAA lcAA ⊢
  clear hbAA
  go_upto_region 7 with (fail)
  have s1 : (fun W' : World => W'.heap[B]? = some (.cells (layC p) 72 (0, 0))) w3.drew := b3
  have z1 : w3.drew.heap[B + 1]? = some (.cells (layC zeroLay) 72 (0, 0)) := z3
  have c1 : w3.drew.heap[g]? = _ := c3
  have C1 : Ch [] w w3.drew := C3.drew
  refine wp_region_held_drew (S := fun W' => W'.heap[B]? = some (.cells (layC p) 72 (0, 0))) (by kernel_rfl) s1 ?_
  intro _
  simp only [List.size_toArray, List.length_cons, List.length_nil, Nat.reduceAdd]
  clear b3 z3 c3 a3 C3
  generalize w3.drew = w1 at *
  refine tk 0 30 ?_ rfl s1 ?_ ?_; rotate_left
  · intro _ _; go_simp; try with_reducible rfl
  try go_frame
  refine tk 2 32 ?_ rfl s1 ?_ ?_; rotate_left
  · intro _ _; go_simp; try with_reducible rfl
  try go_frame
  refine rd (o := ⟨some 31, _, _, _, _, none⟩) 1 rfl (fun K hK => ?_); go_simp
  refine (O1 _ c1).mono ?_
  rintro e w2 ⟨rfl, hR, hc2⟩
  have s2 := hkeep hc2 s1
  have z2 := hkeep hc2 z1
  have C2 := C1.trans hc2
  have hRw : w.heap.size ≤ w1.heap.size := C1.size
  have hzl := (Array.getElem?_eq_some_iff.1 z1).1
  refine hK.out _ _ s2 (fun _ => ?_)
  clear hK K hc2 s1 z1 c1 C1
  obtain ⟨R, hRe⟩ : ∃ R, w1.heap.size = R := ⟨_, rfl⟩
  rw [hRe] at hR hRw hzl ⊢
  have hRz : ¬ R = B + 1 := by omega
  clear hRe hzl
  refine tk 3 4 ?_ rfl s2 ?_ ?_; rotate_left
  · intro _ _; go_simp; try with_reducible rfl
  try go_frame
  refine rd 4 rfl (fun K hK => ?_); go_simp
  have s3 : (World.onObj w2 (B + 1) (laidAt 0 (layC p))).heap[B]? = some (.cells (layC p) 72 (0, 0)) := by rw [zab, if_neg (by omega)]; exact s2
  have z3 : (World.onObj w2 (B + 1) (laidAt 0 (layC p))).heap[B + 1]? = some (.cells (layC p) 72 (0, 0)) := by rw [zab, if_pos rfl, z2, Option.map_some, zaj]
  have r3 := (zbv (w := w2) (F := B + 1) (laidAt 0 (layC p)) hRz).trans hR
  have C3 : Ch [] w (World.onObj w2 (B + 1) (laidAt 0 (layC p))) := C2.onObj (.inr (by omega)) _
  refine hK.out _ _ s3 (fun _ => ?_)
  clear hK K s2 z2 hR C2
  generalize (World.onObj w2 (B + 1) (laidAt 0 (layC p))) = w3 at *
  refine tk 5 6 ?_ rfl s3 ?_ ?_; rotate_left
  · intro _ _; go_simp; try with_reducible rfl
  try go_frame
  refine wpAnyH_done (by kernel_rfl) ?_ _
  go_wp2
  exact bodyPost_ret (lstep_results Tryz.results63 _ (B + 1) _ p _ _ rfl rfl rfl z3) rfl ⟨R, rfl, hRw, r3, C3⟩
theorem lStep_out (n g c : Nat) (cur : Array Value) (p : LayT) (kd at_ nw : Int) (hr : rightL p = true) (N1 : ∀ w, Calls Tryz.prog 58 #[.agg (layC p)] w fun e w' => e = .returned (.tuple #[.agg (accC p.who kd at_ nw), .bool true]) ∧ Ch [] w w') (D1 : ∀ w, w.heap[g]? = some (.cells cur 22 (0, 0)) → Calls Tryz.prog 118 #[.slice (some ⟨g, 0, none⟩) n c, .agg (accC p.who kd at_ nw)] w fun e w' => e = .returned (.tuple #[.slice none 0 0, .agg (seenC 0 false), I 2]) ∧ Ch [] w w') (w : World) (h1 : 1 ≤ n) (hl : n ≤ 8192) (hb : w.heap[g]? = some (.cells cur 22 (0, 0))) : Calls Tryz.prog 63 #[.slice (some ⟨g, 0, none⟩) n c, .agg (layC p)] w fun e w' => e = .returned (.tuple #[.slice none 0 0, .agg (layC zeroLay), I 2]) ∧ Ch [] w w' := by
  have M1 := fun w => lMany_any (some ⟨g, 0, none⟩) n c w
  rw [decide_eq_true h1, decide_eq_true hl, Bool.and_true] at M1
  have R1 := fun w => lCheck_any p w
  rw [checkL_yes hr] at R1
  clear hr
  obtain ⟨w0, hW0, C0, b0, z0⟩ := step_world p w
  have c0 := hkeep C0 hb
  clear hb h1 hl
  skip
  go_enter Tryz.func63, Tryz.ntmps63
  go_wp2_with fail
  try rw [hW0]
  clear hW0
  refine (M1 _).mono ?_
  rintro e w' ⟨rfl, rfl⟩
  obtain ⟨B, hB⟩ : ∃ B, w.heap.size = B := ⟨_, rfl⟩
  rw [hB] at b0 z0 ⊢
  have hBw : w.heap.size ≤ B := by omega
  clear hB M1
  go_wp2_with fail
  refine (R1 _).mono ?_
  rintro e w1 ⟨rfl, hc1⟩
  have b1 := hkeep (hc1) b0
  have z1 := hkeep (hc1) z0
  have c1 := hkeep (hc1) c0
  have C1 := C0.trans (hc1)
  clear b0 z0 c0 C0 hc1 
  clear R1
  go_wp2_with fail
  refine (N1 _).mono ?_
  rintro e w2 ⟨rfl, hc2⟩
  have b2 := hkeep (hc2) b1
  have z2 := hkeep (hc2) z1
  have c2 := hkeep (hc2) c1
  have C2 := C1.trans (hc2)
  clear b1 z1 c1 C1 hc2 
  clear N1
  have nb := ns b2
  have nz : ¬ (B + 1) = w2.heap.size := by have := zae z2; omega
  have nc := ns c2
  go_upto_region 6 with (fail)
  clear nb nz nc
  have hcp2 := zcu p.who kd at_ nw w2
  have b3 := hkeep (hcp2) b2
  have z3 := hkeep (hcp2) z2
  have c3 := hkeep (hcp2) c2
  have C3 := C2.trans (hcp2)
  have a3 := accv_put p.who kd at_ nw w2
  have lbAA := zae b2
  have lzAA := zae z2
  have lcAA := zae c2
  have hlAA := C2.size
  clear b2 z2 c2 C2 hcp2
  obtain ⟨w3, hw3⟩ : ∃ W, World.onObj (w2.alloc (.cells (accC 0 0 0 0) 87)) w2.heap.size (laidAt 0 (accC p.who kd at_ nw)) = W := ⟨_, rfl⟩
  rw [hw3] at b3 z3 c3 a3 C3  ⊢
  clear hw3
  obtain ⟨AA, hbAA⟩ : ∃ b, w2.heap.size = b := ⟨_, rfl⟩
  rw [hbAA] at a3 hlAA lbAA lzAA lcAA ⊢
  clear hbAA
  go_wp2_with fail
  refine (D1 _ c3).mono ?_
  rintro e w4 ⟨rfl, hc4⟩
  have b4 := hkeep (hc4) b3
  have z4 := hkeep (hc4) z3
  have c4 := hkeep (hc4) c3
  have a4 := hkeep (hc4) a3
  have C4 := C3.trans (hc4)
  clear b3 z3 c3 a3 C3 hc4 
  clear D1
  have nb := ns b4
  have nz : ¬ (B + 1) = w4.heap.size := by have := zae z4; omega
  have nc := ns c4
  have na := ns a4
  go_upto_region 9 with (fail)
  clear nb nz nc na
  have hcp4 := zbr 0 false w4
  have b5 := hkeep (hcp4) b4
  have z5 := hkeep (hcp4) z4
  have c5 := hkeep (hcp4) c4
  have a5 := hkeep (hcp4) a4
  have C5 := C4.trans (hcp4)
  have y5 := seen_put 0 false w4
  have lbYY := zae b4
  have lzYY := zae z4
  have lcYY := zae c4
  have laYY := zae a4
  have hlYY := C4.size
  clear b4 z4 c4 a4 C4 hcp4
  obtain ⟨w5, hw5⟩ : ∃ W, World.onObj (w4.alloc (.cells (seenC 0 false) 93)) w4.heap.size (laidAt 0 (seenC 0 false)) = W := ⟨_, rfl⟩
  rw [hw5] at b5 z5 c5 a5 y5 C5  ⊢
  clear hw5
  obtain ⟨YY, hbYY⟩ : ∃ b, w4.heap.size = b := ⟨_, rfl⟩
  rw [hbYY] at y5 hlYY lbYY lzYY lcYY laYY ⊢
  clear hbYY
  go_wp2
  refine bodyPost_ret (lstep_results Tryz.results63 _ (B + 1) _ zeroLay _ _ rfl rfl rfl ?_) rfl ⟨rfl, C5.onObj (p := B + 1) (.inr (by omega)) _⟩
  rw [zab, if_pos rfl, z5, Option.map_some, zaj]
theorem lStep_go (n g c : Nat) (cur : Array Value) (p : LayT) (cu2 : Array Value) (p2 : LayT) (kd at_ nw : Int) (x : BitVec 64) (hr : rightL p = true) (N1 : ∀ w, Calls Tryz.prog 58 #[.agg (layC p)] w fun e w' => e = .returned (.tuple #[.agg (accC p.who kd at_ nw), .bool true]) ∧ Ch [] w w') (D1 : ∀ w, w.heap[g]? = some (.cells cur 22 (0, 0)) → Calls Tryz.prog 118 #[.slice (some ⟨g, 0, none⟩) n c, .agg (accC p.who kd at_ nw)] w fun e w' => ∃ R, e = .returned (.tuple #[.slice (some ⟨R, 0, none⟩) n n, .agg (seenC (N x) true), I 0]) ∧ w.heap.size ≤ R ∧ w'.heap[R]? = some (.cells cu2 22 (0, 0)) ∧ Ch [] w w') (T1 : ∀ w, Calls Tryz.prog 61 #[.agg (layC p), .agg (seenC (N x) true)] w fun e w' => e = .returned (.tuple #[.agg (layC p2), I 0]) ∧ Ch [] w w') (w : World) (h1 : 1 ≤ n) (hl : n ≤ 8192) (hb : w.heap[g]? = some (.cells cur 22 (0, 0))) : Calls Tryz.prog 63 #[.slice (some ⟨g, 0, none⟩) n c, .agg (layC p)] w fun e w' => ∃ R, e = .returned (.tuple #[.slice (some ⟨R, 0, none⟩) n n, .agg (layC p2), I 0]) ∧ w.heap.size ≤ R ∧ w'.heap[R]? = some (.cells cu2 22 (0, 0)) ∧ Ch [] w w' := by
  have M1 := fun w => lMany_any (some ⟨g, 0, none⟩) n c w
  rw [decide_eq_true h1, decide_eq_true hl, Bool.and_true] at M1
  have R1 := fun w => lCheck_any p w
  rw [checkL_yes hr] at R1
  clear hr
  obtain ⟨w0, hW0, C0, b0, z0⟩ := step_world p w
  have c0 := hkeep C0 hb
  clear hb h1 hl
  skip
  go_enter Tryz.func63, Tryz.ntmps63
  go_wp2_with fail
  try rw [hW0]
  clear hW0
  refine (M1 _).mono ?_
  rintro e w' ⟨rfl, rfl⟩
  obtain ⟨B, hB⟩ : ∃ B, w.heap.size = B := ⟨_, rfl⟩
  rw [hB] at b0 z0 ⊢
  have hBw : w.heap.size ≤ B := by omega
  clear hB M1
  go_wp2_with fail
  refine (R1 _).mono ?_
  rintro e w1 ⟨rfl, hc1⟩
  have b1 := hkeep (hc1) b0
  have z1 := hkeep (hc1) z0
  have c1 := hkeep (hc1) c0
  have C1 := C0.trans (hc1)
  clear b0 z0 c0 C0 hc1 
  clear R1
  go_wp2_with fail
  refine (N1 _).mono ?_
  rintro e w2 ⟨rfl, hc2⟩
  have b2 := hkeep (hc2) b1
  have z2 := hkeep (hc2) z1
  have c2 := hkeep (hc2) c1
  have C2 := C1.trans (hc2)
  clear b1 z1 c1 C1 hc2 
  clear N1
  have nb := ns b2
  have nz : ¬ (B + 1) = w2.heap.size := by have := zae z2; omega
  have nc := ns c2
  go_upto_region 6 with (fail)
  clear nb nz nc
  have hcp2 := zcu p.who kd at_ nw w2
  have b3 := hkeep (hcp2) b2
  have z3 := hkeep (hcp2) z2
  have c3 := hkeep (hcp2) c2
  have C3 := C2.trans (hcp2)
  have a3 := accv_put p.who kd at_ nw w2
  have lbAA := zae b2
  have lzAA := zae z2
  have lcAA := zae c2
  have hlAA := C2.size
  clear b2 z2 c2 C2 hcp2
  obtain ⟨w3, hw3⟩ : ∃ W, World.onObj (w2.alloc (.cells (accC 0 0 0 0) 87)) w2.heap.size (laidAt 0 (accC p.who kd at_ nw)) = W := ⟨_, rfl⟩
  rw [hw3] at b3 z3 c3 a3 C3  ⊢
  clear hw3
  obtain ⟨AA, hbAA⟩ : ∃ b, w2.heap.size = b := ⟨_, rfl⟩
  rw [hbAA] at a3 hlAA lbAA lzAA lcAA ⊢
  clear hbAA
  go_wp2_with fail
  have hSn := C3.size
  refine (D1 _ c3).mono ?_
  rintro e w4 ⟨R, rfl, hRw0, r4, hc4⟩
  have b4 := hkeep (hc4) b3
  have z4 := hkeep (hc4) z3
  have c4 := hkeep (hc4) c3
  have a4 := hkeep (hc4) a3
  have C4 := C3.trans (hc4)
  clear b3 z3 c3 a3 C3 hc4 
  have hRw := Nat.le_trans hSn hRw0
  clear D1
  skip
  have nb := ns b4
  have nz : ¬ (B + 1) = w4.heap.size := by have := zae z4; omega
  have nc := ns c4
  have na := ns a4
  have nr := ns r4
  go_upto_region 9 with (fail)
  clear nb nz nc na nr
  have hcp4 := zbr (N x) true w4
  have b5 := hkeep (hcp4) b4
  have z5 := hkeep (hcp4) z4
  have c5 := hkeep (hcp4) c4
  have a5 := hkeep (hcp4) a4
  have r5 := hkeep (hcp4) r4
  have C5 := C4.trans (hcp4)
  have y5 := seen_put (N x) true w4
  have lbYY := zae b4
  have lzYY := zae z4
  have lcYY := zae c4
  have laYY := zae a4
  have lrYY := zae r4
  have hlYY := C4.size
  clear b4 z4 c4 a4 r4 C4 hcp4
  obtain ⟨w5, hw5⟩ : ∃ W, World.onObj (w4.alloc (.cells (seenC 0 false) 93)) w4.heap.size (laidAt 0 (seenC (N x) true)) = W := ⟨_, rfl⟩
  rw [hw5] at b5 z5 c5 a5 r5 y5 C5  ⊢
  clear hw5
  obtain ⟨YY, hbYY⟩ : ∃ b, w4.heap.size = b := ⟨_, rfl⟩
  rw [hbYY] at y5 hlYY lbYY lzYY lcYY laYY lrYY ⊢
  clear hbYY
  go_wp2_with fail
  refine (T1 _).mono ?_
  rintro e w6 ⟨rfl, hc6⟩
  have b6 := hkeep (hc6) b5
  have z6 := hkeep (hc6) z5
  have c6 := hkeep (hc6) c5
  have a6 := hkeep (hc6) a5
  have r6 := hkeep (hc6) r5
  have y6 := hkeep (hc6) y5
  have C6 := C5.trans (hc6)
  clear b5 z5 c5 a5 r5 y5 C5 hc6 
  clear T1
  have nb := ns b6
  have nz : ¬ (B + 1) = w6.heap.size := by have := zae z6; omega
  have nc := ns c6
  have na := ns a6
  have nr := ns r6
  have ny := ns y6
  go_upto_region 12 with (fail)
  clear nb nz nc na nr ny
  have hcp6 := zaf p2 w6
  have b7 := hkeep (hcp6) b6
  have z7 := hkeep (hcp6) z6
  have c7 := hkeep (hcp6) c6
  have a7 := hkeep (hcp6) a6
  have r7 := hkeep (hcp6) r6
  have y7 := hkeep (hcp6) y6
  have C7 := C6.trans (hcp6)
  have t7 := zcm p2 w6
  have lbTT := zae b6
  have lzTT := zae z6
  have lcTT := zae c6
  have laTT := zae a6
  have lrTT := zae r6
  have lyTT := zae y6
  have hlTT := C6.size
  clear b6 z6 c6 a6 r6 y6 C6 hcp6
  obtain ⟨w7, hw7⟩ : ∃ W, World.onObj (w6.alloc (.cells (layC zeroLay) 72)) w6.heap.size (laidAt 0 (layC p2)) = W := ⟨_, rfl⟩
  rw [hw7] at b7 z7 c7 a7 r7 y7 t7 C7  ⊢
  clear hw7
  obtain ⟨TT, hbTT⟩ : ∃ b, w6.heap.size = b := ⟨_, rfl⟩
  rw [hbTT] at t7 hlTT lbTT lzTT lcTT laTT lrTT lyTT ⊢
  clear hbTT
  have s1 : (fun W' : World => W'.heap[TT]? = some (.cells (layC p2) 72 (0, 0))) w7.drew := t7
  have z1 : w7.drew.heap[B + 1]? = some (.cells (layC zeroLay) 72 (0, 0)) := z7
  have r1 : w7.drew.heap[R]? = _ := r7
  have C1 : Ch [] w w7.drew := C7.drew
  refine wp_region_held_drew (S := fun W' => W'.heap[TT]? = some (.cells (layC p2) 72 (0, 0))) (by kernel_rfl) s1 ?_
  intro _
  simp only [List.size_toArray, List.length_cons, List.length_nil, Nat.reduceAdd]
  clear b7 z7 c7 a7 r7 y7 t7 C7
  generalize w7.drew = w1 at *
  have hRz : ¬ R = B + 1 := zdb r1 z1 (by decide)
  have hTz : ¬ TT = B + 1 := by omega
  refine tk 0 49 ?_ rfl s1 ?_ ?_; rotate_left
  · intro _ _; go_simp; try with_reducible rfl
  try go_frame
  refine tk 1 50 ?_ rfl s1 ?_ ?_; rotate_left
  · intro _ _; go_simp; try with_reducible rfl
  try go_frame
  refine tk 2 51 ?_ rfl s1 ?_ ?_; rotate_left
  · intro _ _; go_simp; try with_reducible rfl
  try go_frame
  refine tk 3 4 ?_ rfl s1 ?_ ?_; rotate_left
  · intro _ _; go_simp; try with_reducible rfl
  try go_frame
  refine rd 4 rfl (fun K hK => ?_); go_simp
  have s3 : (World.onObj w1 (B + 1) (laidAt 0 (layC p2))).heap[TT]? = some (.cells (layC p2) 72 (0, 0)) := by rw [zab, if_neg hTz]; exact s1
  have z3 : (World.onObj w1 (B + 1) (laidAt 0 (layC p2))).heap[B + 1]? = some (.cells (layC p2) 72 (0, 0)) := by rw [zab, if_pos rfl, z1, Option.map_some, zaj]
  have r3 := (zbv (w := w1) (F := B + 1) (laidAt 0 (layC p2)) hRz).trans r1
  have C3 : Ch [] w (World.onObj w1 (B + 1) (laidAt 0 (layC p2))) := C1.onObj (.inr (by omega)) _
  refine hK.out _ _ s3 (fun _ => ?_)
  clear hK K s1 z1 r1 C1
  generalize (World.onObj w1 (B + 1) (laidAt 0 (layC p2))) = w3 at *
  refine tk 5 6 ?_ rfl s3 ?_ ?_; rotate_left
  · intro _ _; go_simp; try with_reducible rfl
  try go_frame
  refine wpAnyH_done (by kernel_rfl) ?_ _
  go_wp2
  exact bodyPost_ret (lstep_results Tryz.results63 _ (B + 1) _ p2 _ _ rfl rfl rfl z3) rfl ⟨R, rfl, hRw, r3, C3⟩
end
end Go.Proofs.Hc
