/- Package split: Begin. -/
import Derived.Test.YtcikopeddljgkaaGreatKPu
set_option linter.unusedSimpArgs false
set_option linter.unusedVariables false
set_option maxHeartbeats 4000000
set_option maxRecDepth 100000
namespace Go.Proofs.Hc
open Go.RowKit
attribute [local go_sem] zbr zcd zat zaz zbn zax zbm zbo zbw signed64 signed8 zar BitVec.ofInt_add BitVec.ofInt_mul ofInt_sub' zav zaw wide8 eqN neN zcc shr1 shr7 shr56
attribute [local go_sem high] zay zbv
attribute [local go_sem] zau zbx zai zal zac zbd zan zah zbk zaj zbc zbe
attribute [local go_sem] load26 load73 load23 store26 build73
attribute [local go_sem ↓] lrow26 lrow73 lrow23 srow26 zero26 brow73 zab zba zbb zaa zae
attribute [local go_sem] zag zap zaf zbf zbi zbp zam zaq zbq zbh zbg
attribute [local go_sem] nn2 nm2 nn3 nm3 nn4 nm4 nn5 nm5 nn6 nm6 nn7 nm7 nn8 nm8
section
attribute [local go_sem] zar zbj
attribute [local go_sem] Oper.semAt_some zak
attribute [local go_sem] zci pacell0 pacell1 pacell2 pacell3 pacell4 pacell5 pacell6 pacell7 pacell42
attribute [local go_sem] zcv zdi zdc zcy zcx zdb zdh zda zcf zct part_s6 zdg zco zbl zch zcj boxPart loadPart storePart zce zcq buildPart0 buildPart4
attribute [local go_sem ↓] lrowPart srowPart browPart zck zbs
attribute [local go_sem high] zas
attribute [local irreducible] partC
theorem checkS_yes {p : PartT} (h : rightS p = true) : checkS p = 0 := by unfold checkS; rw [if_pos h]
theorem checkS_no {p : PartT} (h : rightS p = false) : checkS p = 320 := by unfold checkS; rw [if_neg (by rw [h]; decide)]
theorem part_results {fn : Func} {p q : Tmp} (h : fn.results = #[.cell p 51, .tmp q]) (tmps : Array Value) (b : Nat) (w : World) (d : PartT) (v : Value) (hp : tmps.getD p undef = .pointer (some ⟨b, 0, none⟩)) (hq : tmps.getD q undef = v)
    (hb : w.heap[b]? = some (.cells (partC d) 51 (0, 0))) : (results fn tmps).run Tryz.prog w = .ok (.tuple #[.agg (partC d), v]) w := by
  have hl := run_loadVar_row (P := Tryz.prog) w b 51 51 (partC d) (0, 0) _ hb Tryz.underlying51 rfl (by rw [zbl]; kernel_rfl)
  have hp' : tmps[p]?.getD undef = .pointer (some ⟨b, 0, none⟩) := by simpa using hp
  have hq' : tmps[q]?.getD undef = v := by simpa using hq
  simp [results, h, hp', hq', asAddr, hl]
def begin22E (who sl a b : Int) (seed : BitVec 64) : Except Int PartT := if rightS (firstP22 who sl a b seed) then .ok (firstP22 who sl a b seed) else .error 2
theorem part_put (q : PartT) (w : World) : (World.onObj (w.alloc (.cells (partC zeroPart) 51)) w.heap.size (laidAt 0 (partC q))).heap[w.heap.size]? = some (.cells (partC q) 51 (0, 0)) := by
  rw [zae, if_pos rfl, zab, if_pos rfl, Option.map_some, zas]
theorem part_put_ch (q : PartT) (w : World) : Ch [] w (World.onObj (w.alloc (.cells (partC zeroPart) 51)) w.heap.size (laidAt 0 (partC q))) := ((Ch.refl [] w).alloc _).onObj (.inr (Nat.le_refl _)) _
theorem s22Begin_any (who sl a b : Int) (seed : BitVec 64) (w : World) : Calls Tryz.prog 24 #[I who, I sl, .agg #[I a, I b], U seed] w fun e w' => e = .returned (tupOr (fun v => .agg (partC v)) (.agg (partC zeroPart)) (begin22E who sl a b seed)) ∧ Ch [] w w' := by
  have R1 := fun w => pCheck_any (firstP22 who sl a b seed) w
  have z0 : ((w.alloc (.cells #[I a, I b] 45)).alloc (.cells (partC zeroPart) 51)).heap[w.heap.size + 1]? = some (.cells (partC zeroPart) 51 (0, 0)) := by rw [zab, if_pos (by simp)]
  have a0 : ((w.alloc (.cells #[I a, I b] 45)).alloc (.cells (partC zeroPart) 51)).heap[w.heap.size]? = some (.cells #[I a, I b] 45 (0, 0)) := by rw [zab, if_neg (by simp), zab, if_pos rfl]
  have C0 : Ch [] w ((w.alloc (.cells #[I a, I b] 45)).alloc (.cells (partC zeroPart) 51)) := ((Ch.refl [] w).alloc _).alloc _
  obtain ⟨q, hq⟩ : ∃ q, firstP22 who sl a b seed = q := ⟨_, rfl⟩
  have BB := fun w => buildPart4 who sl a b seed w
  unfold begin22E
  rw [hq] at R1 BB ⊢
  clear hq
  cases hr : rightS q with
  | true =>
    rw [checkS_yes hr] at R1
    simp only [if_true, tupOr]
    clear hr
    go_enter Tryz.func24, Tryz.ntmps24
    go_upto_region 1 with (fail)
    obtain ⟨w0, hw0⟩ : ∃ W, (w.alloc (.cells #[I a, I b] 45)).alloc (.cells (partC zeroPart) 51) = W := ⟨_, rfl⟩
    rw [hw0] at z0 a0 C0 ⊢
    clear hw0
    obtain ⟨B, hB⟩ : ∃ B, w.heap.size + 1 = B := ⟨_, rfl⟩
    rw [hB] at z0 ⊢
    have hBw : w.heap.size ≤ B := by omega
    clear hB
    have hBn : ¬ B = w0.heap.size := by have := (Array.getElem?_eq_some_iff.1 z0).1; omega
    go_upto_region 2 with (fail)
    have q1 := part_put q w0
    have hc1 := part_put_ch q w0
    have z1 := hkeep hc1 z0
    have C1 := C0.trans hc1
    clear z0 C0 hc1 a0
    obtain ⟨w1, hw1⟩ : ∃ W, World.onObj (w0.alloc (.cells (partC zeroPart) 51)) w0.heap.size (laidAt 0 (partC q)) = W := ⟨_, rfl⟩
    rw [hw1] at q1 z1 C1 ⊢
    clear hw1
    obtain ⟨D, hD⟩ : ∃ D, w0.heap.size = D := ⟨_, rfl⟩
    rw [hD] at q1 hBn ⊢
    clear hD
    go_wp2_with fail
    refine (R1 _).mono ?_
    rintro e w2 ⟨rfl, hc2⟩
    have q2 := hkeep hc2 q1
    have z2 := hkeep hc2 z1
    have C2 := C1.trans hc2
    clear q1 z1 C1 hc2
    go_wp2
    refine bodyPost_ret (part_results Tryz.results24 _ B _ q _ rfl rfl ?_) rfl ⟨rfl, C2.onObj (p := B) (.inr hBw) _⟩
    rw [zae, if_pos rfl, z2, Option.map_some, zas]
  | false =>
    rw [checkS_no hr] at R1
    simp only [Bool.false_eq_true, if_false, tupOr]
    clear hr
    go_enter Tryz.func24, Tryz.ntmps24
    go_upto_region 1 with (fail)
    obtain ⟨w0, hw0⟩ : ∃ W, (w.alloc (.cells #[I a, I b] 45)).alloc (.cells (partC zeroPart) 51) = W := ⟨_, rfl⟩
    rw [hw0] at z0 a0 C0 ⊢
    clear hw0
    obtain ⟨B, hB⟩ : ∃ B, w.heap.size + 1 = B := ⟨_, rfl⟩
    rw [hB] at z0 ⊢
    have hBw : w.heap.size ≤ B := by omega
    clear hB
    have hBn : ¬ B = w0.heap.size := by have := (Array.getElem?_eq_some_iff.1 z0).1; omega
    go_upto_region 2 with (fail)
    have q1 := part_put q w0
    have hc1 := part_put_ch q w0
    have z1 := hkeep hc1 z0
    have C1 := C0.trans hc1
    clear z0 C0 hc1 a0
    obtain ⟨w1, hw1⟩ : ∃ W, World.onObj (w0.alloc (.cells (partC zeroPart) 51)) w0.heap.size (laidAt 0 (partC q)) = W := ⟨_, rfl⟩
    rw [hw1] at q1 z1 C1 ⊢
    clear hw1
    go_wp2_with fail
    refine (R1 _).mono ?_
    rintro e w2 ⟨rfl, hc2⟩
    have z2 := hkeep hc2 z1
    have C2 := C1.trans hc2
    clear q1 z1 C1 hc2
    go_wp2
    refine bodyPost_ret (part_results Tryz.results24 _ B _ zeroPart _ rfl rfl ?_) rfl ⟨rfl, C2.onObj (p := B) (.inr hBw) _⟩
    rw [zae, if_pos rfl, z2, Option.map_some, zas]
end
section
attribute [local go_sem] zar zbj
attribute [local go_sem] Oper.semAt_some zak
attribute [local go_sem] zci pacell0 pacell1 pacell2 pacell3 pacell4 pacell5 pacell6 pacell7 pacell42
attribute [local go_sem] zcv zdi zdc zcy zcx zdb zdh zda zcf zct part_s6 zdg zco zbl zch zcj boxPart loadPart storePart zce zcq buildPart0 buildPart4
attribute [local go_sem ↓] lrowPart srowPart browPart zck zbs
attribute [local go_sem high] zas
attribute [local irreducible] partC
theorem s22some_any (a : Option Addr) (n c : Nat) (w : World) : Calls Tryz.prog 97 #[.slice a n c] w fun e w' => e = .returned (.bool (decide (1 ≤ n) && decide (n ≤ 8192))) ∧ w = w' := by
  obtain ⟨r, hr⟩ : ∃ r, (decide (1 ≤ n) && decide (n ≤ 8192)) = r := ⟨_, rfl⟩
  rw [hr]
  have hcs : n < 1 ∧ r = false ∨ 1 ≤ n ∧ n ≤ 8192 ∧ r = true ∨ 1 ≤ n ∧ ¬ n ≤ 8192 ∧ r = false := by
    rw [← hr]
    by_cases h1 : 1 ≤ n
    · by_cases h2 : n ≤ 8192
      · right; left; exact ⟨h1, h2, by rw [decide_eq_true h1, decide_eq_true h2]; rfl⟩
      · right; right; exact ⟨h1, h2, by rw [decide_eq_false h2, Bool.and_false]⟩
    · left; exact ⟨by omega, by rw [decide_eq_false h1, Bool.false_and]⟩
  clear hr
  rcases hcs with ⟨h1, rfl⟩ | ⟨h1, h2, rfl⟩ | ⟨h1, h2, rfl⟩
  · have h1' : ¬ (1 : Int) ≤ n := by omega
    go_enter Tryz.func97, Tryz.ntmps97
    go_wp2
    go_ret
    exact ⟨rfl, rfl⟩
  · have h1' : (1 : Int) ≤ n := by omega
    have h2' : (n : Int) ≤ 8192 := by omega
    go_enter Tryz.func97, Tryz.ntmps97
    go_wp2
    go_ret
    exact ⟨rfl, rfl⟩
  · have h1' : (1 : Int) ≤ n := by omega
    have h2' : ¬ (n : Int) ≤ 8192 := by omega
    go_enter Tryz.func97, Tryz.ntmps97
    go_wp2
    go_ret
    exact ⟨rfl, rfl⟩
theorem s22own_any (l : List (BitVec 64)) (g c : Nat) (cur : Array Value) (w : World) (hl : l.length ≤ 9000) (hb : w.heap[g]? = some (.cells cur 22 (0, 0))) (hw : WordsAt cur l) :
    Calls Tryz.prog 98 #[.slice (some ⟨g, 0, none⟩) l.length c] w fun e w' => e = .returned (.slice (some ⟨w.heap.size, 0, none⟩) l.length l.length) ∧ w'.heap[w.heap.size]? = some (.cells (wcells l) 22 (0, 0)) ∧ Ch [] w w' := by
  have hm := fun w => run_make_row' (P := Tryz.prog) 44 22 (.int .u64 0) 8 Tryz.underlying44 infoU rfl .i64 .i64 l.length (by omega) (by omega) w
  have hgn : ¬ g = w.heap.size := by have := (Array.getElem?_eq_some_iff.1 hb).1; omega
  have hn : (w.alloc (.cells (madeCells #[.int .u64 0] l.length) 22)).heap[w.heap.size]? = some (.cells (madeCells #[.int .u64 0] l.length) 22 (0, 0)) := by rw [zab, if_pos rfl]
  have hlen : (l.map fun x => U x).length = l.length := List.length_map ..
  have hcp := run_copy_row (P := Tryz.prog) (w.alloc (.cells (madeCells #[.int .u64 0] l.length) 22)) 44 44 3 22 w.heap.size 0 l.length l.length ⟨g, 0, none⟩ l.length c (madeCells #[.int .u64 0] l.length) 22 (l.map fun x => U x) Tryz.underlying44 (by kernel_rfl) hn (by rw [hlen]; exact (Nat.min_self _).symm) (by
    intro j v hj
    rw [List.getElem?_map] at hj
    obtain ⟨x, hx, rfl⟩ := Option.map_eq_some_iff.1 hj
    rw [Addr.add_lit, zau, zab, if_neg hgn, hb, Option.bind_some, zai, Nat.zero_add]
    exact hw j x hx) (by rw [hlen, size_madeCells]; omega) (words_one l)
  have hrow : ((madeCells #[.int .u64 0] l.length).toList.take 0 ++ (l.map fun x => U x) ++ (madeCells #[.int .u64 0] l.length).toList.drop (0 + (l.map fun x => U x).length)).toArray = wcells l := by
    rw [List.take_zero, List.nil_append, List.drop_eq_nil_of_le (by rw [hlen, Array.length_toList, size_madeCells]; omega), List.append_nil]; rfl
  rw [hrow, hlen] at hcp
  have hh := setRow_heap (w.alloc (.cells (madeCells #[.int .u64 0] l.length) 22)) w.heap.size _ (wcells l) 22 (0, 0) hn
  have hC : Ch [] w ((w.alloc (.cells (madeCells #[.int .u64 0] l.length) 22)).setRow w.heap.size (wcells l)) := by
    refine ((Ch.refl [] w).alloc (.cells (madeCells #[.int .u64 0] l.length) 22)).trans2 (T := [w.heap.size]) ⟨rfl, rfl, rfl, by simp [World.setRow], fun k _ hk => setRow_other _ _ _ _ (by simpa using hk)⟩ (by simp)
  generalize (w.alloc (.cells (madeCells #[.int .u64 0] l.length) 22)).setRow w.heap.size (wcells l) = W2 at *
  clear hrow hn hb hw hgn
  go_enter Tryz.func98, Tryz.ntmps98
  go_wp2
  go_ret
  exact ⟨rfl, hh, hC⟩
theorem s22Many_any (p : PartT) (w : World) : Calls Tryz.prog 49 #[.agg (partC p)] w fun e w' => e = .returned (I (manyS p)) ∧ Ch [] w w' := by
  have R1 := fun w => pCheck_any p w
  have C0 : Ch [] w (w.alloc (.cells (partC p) 51)) := (Ch.refl [] w).alloc _
  have b0 : (w.alloc (.cells (partC p) 51)).heap[w.heap.size]? = some (.cells (partC p) 51 (0, 0)) := by rw [zab, if_pos rfl]
  have hcs : checkS p = 320 ∧ manyS p = 0 ∨ checkS p = 0 ∧ (p.ph = 5 ∧ manyS p = 81 ∨ (p.ph == 5) = false ∧ (p.ph = 6 ∧ (0 ≤ p.at_ ∧ p.at_ < 80) ∧ manyS p = 80 - p.at_ ∨ (p.ph == 6) = false ∧ manyS p = 0)) := by
    cases hr : rightS p with
    | false => left; refine ⟨checkS_no hr, ?_⟩; unfold manyS; rw [hr, if_neg (by decide)]
    | true =>
      right
      refine ⟨checkS_yes hr, ?_⟩
      have R := (rightS_iff p).1 hr
      unfold manyS
      rw [if_pos hr]
      by_cases h5 : p.ph = 5
      · left; exact ⟨h5, if_pos h5⟩
      · right
        refine ⟨beq_eq_false_iff_ne.2 h5, ?_⟩
        rw [if_neg h5]
        by_cases h6 : p.ph = 6
        · left; exact ⟨h6, R.at6 h6, if_pos h6⟩
        · right; exact ⟨beq_eq_false_iff_ne.2 h6, if_neg h6⟩
  obtain ⟨m, hm⟩ : ∃ m, manyS p = m := ⟨_, rfl⟩
  rw [hm] at hcs ⊢
  clear hm
  generalize checkS p = r at *
  rcases hcs with ⟨rfl, rfl⟩ | ⟨rfl, ⟨h5, rfl⟩ | ⟨h5, ⟨h6, ⟨ha0, ha1⟩, rfl⟩ | ⟨h6, rfl⟩⟩⟩
  all_goals
    first
    | have h5' : ¬ p.ph = 5 := beq_eq_false_iff_ne.1 h5
    | skip
    first
    | have h6' : ¬ p.ph = 6 := beq_eq_false_iff_ne.1 h6
    | skip
    first
    | have hw : IntKind.i64.wrap (80 - p.at_) = 80 - p.at_ := by rw [IntKind.wrap_i64]; omega
    | skip
    go_enter Tryz.func49, Tryz.ntmps49
    go_wp2_with fail
    refine (R1 _).mono ?_
    rintro e w1 ⟨rfl, hc1⟩
    have b1 := hkeep hc1 b0
    have C1 := C0.trans hc1
    clear b0 C0 hc1 R1
    go_wp2
    go_ret
    exact ⟨by first | rfl | (simp; done) | (simp; omega), C1⟩
end
section
attribute [local go_sem] acc_g0 acc_g1 acc_g2 acc_g4 acc_s0 acc_s1 acc_s2 acc_s4 accC_size accC_one accC_all loadAcc storeAcc bacc0 bacc2 bacc3 bacc3u bacc4
attribute [local go_sem ↓] lrowAcc srowAcc browAcc zeroAcc_run
attribute [local go_sem high] laidAt_acc
attribute [local go_sem] seenC_size seenC_one seenC_all seenC_g0 loadSeen storeSeen buildSeen buildSeen0
attribute [local go_sem ↓] lrowSeen srowSeen browSeen zeroSeen_run
attribute [local go_sem high] laidAt_seen
attribute [local irreducible] seenC
attribute [local go_sem] zar zbj
attribute [local go_sem] Oper.semAt_some zak
attribute [local go_sem] layC_idx lcell0 lcell1 lcell2 lcell3 lcell4 lcell5 lcell46
attribute [local go_sem] lay_g0 lay_g1 lay_g2 lay_g3 lay_g4 lay_g5 lay_g46 lay_s0 lay_s4 lay_s5 lay_s46 layC_size layC_one layC_all layC_ws boxLay loadLay storeLay build_lay box_lay buildLay0 buildLay2 buildLay3
attribute [local go_sem ↓] lrowLay srowLay browLay brow_lay zeroLay_run
attribute [local go_sem high] laidAt_lay
attribute [local irreducible] layC
attribute [local irreducible] accC
attribute [local go_sem high] tmod2_64w bit64w bit64zw
theorem boxSeen (x : Int) (b : Bool) (w : World) : (Instr.box 93 (.agg (seenC x b))).run Tryz.prog w = .ok (.pointer (some ⟨w.heap.size, 0, none⟩)) (w.alloc (.cells (seenC x b) 93)) := rfl
attribute [local go_sem] boxSeen
end
section
attribute [local go_sem] seenC_size seenC_one seenC_all seenC_g0 loadSeen storeSeen buildSeen buildSeen0
attribute [local go_sem ↓] lrowSeen srowSeen browSeen zeroSeen_run
attribute [local go_sem high] laidAt_seen
attribute [local irreducible] seenC
attribute [local go_sem] zar zbj
attribute [local go_sem] Oper.semAt_some zak
attribute [local go_sem] zci pacell0 pacell1 pacell2 pacell3 pacell4 pacell5 pacell6 pacell7 pacell42
attribute [local go_sem] zcv zdi zdc zcy zcx zdb zdh zda zcf zct part_s6 zdg zco zbl zch zcj boxPart loadPart storePart zce zcq buildPart0 buildPart4
attribute [local go_sem ↓] lrowPart srowPart browPart zck zbs
attribute [local go_sem high] zas
attribute [local irreducible] partC
attribute [local go_sem] boxSeen
theorem take_world22 (p : PartT) (x : Int) (b : Bool) (w : World) : ∃ W, ((w.alloc (.cells (partC p) 51)).alloc (.cells (seenC x b) 93)).alloc (.cells (partC zeroPart) 51) = W ∧ Ch [] w W ∧ W.heap[w.heap.size]? = some (.cells (partC p) 51 (0, 0)) ∧ W.heap[w.heap.size + 1]? = some (.cells (seenC x b) 93 (0, 0)) ∧ W.heap[w.heap.size + 1 + 1]? = some (.cells (partC zeroPart) 51 (0, 0)) :=
  ⟨_, rfl, (((Ch.refl [] w).alloc _).alloc _).alloc _, by rw [zab, if_neg (by simp; omega), zab, if_neg (by simp), zab, if_pos rfl], by rw [zab, if_neg (by simp), zab, if_pos (by simp)], by rw [zab, if_pos (by simp)]⟩
theorem s22Take_yes (p : PartT) (hr : rightS p = true) (h6 : p.ph ≤ 6) (x : BitVec 64) (b : Bool) (w : World) : Calls Tryz.prog 50 #[.agg (partC p), .agg (seenC (N x) b)] w fun e w' => e = .returned (.tuple #[.agg (partC (takeS p x)), I 0]) ∧ Ch [] w w' := by
  have R1 := fun w => pCheck_any p w
  rw [checkS_yes hr] at R1
  have X1 := fun g w hg => s22take_any p hr h6 g x w hg
  generalize takeS p x = p2 at *
  obtain ⟨W0, hW0, C0, b0, y0, z0⟩ := take_world22 p (N x) b w
  clear hr
  go_enter Tryz.func50, Tryz.ntmps50
  go_wp2_with fail
  try rw [hW0]
  refine (R1 _).mono ?_
  rintro e w1 ⟨rfl, hc1⟩
  have b1 := hkeep hc1 b0
  have y1 := hkeep hc1 y0
  have z1 := hkeep hc1 z0
  have C1 := C0.trans hc1
  clear b0 y0 z0 C0 hc1 hW0 R1
  go_upto_region 7 with (fail)
  obtain ⟨B, hB⟩ : ∃ B, w.heap.size = B := ⟨_, rfl⟩
  have hBw : w.heap.size ≤ B := by omega
  rw [hB] at b1 y1 z1 ⊢
  clear hB
  have hc2 : Ch [] w1 (w1.alloc (.cells (partC p) 179)) := (Ch.refl [] w1).alloc _
  have g2 : (w1.alloc (.cells (partC p) 179)).heap[w1.heap.size]? = some (.cells (partC p) 179 (0, 0)) := by rw [zab, if_pos rfl]
  have b2 := hkeep hc2 b1
  have y2 := hkeep hc2 y1
  have z2 := hkeep hc2 z1
  have C2 := C1.trans hc2
  have k1 := (Array.getElem?_eq_some_iff.1 b1).1
  have k2 := (Array.getElem?_eq_some_iff.1 y1).1
  have k3 := (Array.getElem?_eq_some_iff.1 z1).1
  have hCw := C1.size
  clear b1 y1 z1 C1 hc2
  obtain ⟨w2, hw2⟩ : ∃ W, w1.alloc (.cells (partC p) 179) = W := ⟨_, rfl⟩
  rw [hw2] at g2 b2 y2 z2 C2 ⊢
  clear hw2
  obtain ⟨G, hG⟩ : ∃ G, w1.heap.size = G := ⟨_, rfl⟩
  rw [hG] at g2 k1 k2 k3 hCw ⊢
  clear hG
  have n3 : ¬ B + 1 + 1 = G := by omega
  clear k1 k2 k3 b2
  go_wp2_with fail
  refine (X1 _ _ g2).mono ?_
  rintro e w5 ⟨rfl, g5, hc5⟩
  have z5 : w5.heap[B + 1 + 1]? = some (.cells (partC zeroPart) 51 (0, 0)) := (hc5.block _ (zad z2) (by simpa using n3)).trans z2
  have C5 : Ch [] w w5 := C2.trans2 hc5 (by intro t ht; right; simp at ht; omega)
  clear hc5 y2 g2 z2 C2 X1
  go_wp2
  refine bodyPost_ret (part_results Tryz.results50 _ (B + 1 + 1) _ p2 _ rfl rfl ?_) rfl ⟨rfl, C5.onObj (p := B + 1 + 1) (.inr (by omega)) _⟩
  rw [zae, if_pos rfl, z5, Option.map_some, zas]
end
section
attribute [local go_sem] acc_g0 acc_g1 acc_g2 acc_g4 acc_s0 acc_s1 acc_s2 acc_s4 accC_size accC_one accC_all loadAcc storeAcc bacc0 bacc2 bacc3 bacc3u bacc4
attribute [local go_sem ↓] lrowAcc srowAcc browAcc zeroAcc_run
attribute [local go_sem high] laidAt_acc
attribute [local go_sem] seenC_size seenC_one seenC_all seenC_g0 loadSeen storeSeen buildSeen buildSeen0
attribute [local go_sem ↓] lrowSeen srowSeen browSeen zeroSeen_run
attribute [local go_sem high] laidAt_seen
attribute [local irreducible] seenC
attribute [local go_sem] zar zbj
attribute [local go_sem] Oper.semAt_some zak
attribute [local go_sem] zci pacell0 pacell1 pacell2 pacell3 pacell4 pacell5 pacell6 pacell7 pacell42
attribute [local go_sem] zcv zdi zdc zcy zcx zdb zdh zda zcf zct part_s6 zdg zco zbl zch zcj boxPart loadPart storePart zce zcq buildPart0 buildPart4
attribute [local go_sem ↓] lrowPart srowPart browPart zck zbs
attribute [local go_sem high] zas
attribute [local irreducible] partC
attribute [local irreducible] accC
attribute [local go_sem] boxSeen
theorem accv_put22 (a b c d : Int) (w : World) : (World.onObj (w.alloc (.cells (accC 0 0 0 0) 87)) w.heap.size (laidAt 0 (accC a b c d))).heap[w.heap.size]? = some (.cells (accC a b c d) 87 (0, 0)) := by
  rw [zae, if_pos rfl, zab, if_pos rfl, Option.map_some, laidAt_acc]
theorem accv_put22_ch (a b c d : Int) (w : World) : Ch [] w (World.onObj (w.alloc (.cells (accC 0 0 0 0) 87)) w.heap.size (laidAt 0 (accC a b c d))) := ((Ch.refl [] w).alloc _).onObj (.inr (Nat.le_refl _)) _
end
section
attribute [local go_sem] acc_g0 acc_g1 acc_g2 acc_g4 acc_s0 acc_s1 acc_s2 acc_s4 accC_size accC_one accC_all loadAcc storeAcc bacc0 bacc2 bacc3 bacc3u bacc4
attribute [local go_sem ↓] lrowAcc srowAcc browAcc zeroAcc_run
attribute [local go_sem high] laidAt_acc
attribute [local go_sem] seenC_size seenC_one seenC_all seenC_g0 loadSeen storeSeen buildSeen buildSeen0
attribute [local go_sem ↓] lrowSeen srowSeen browSeen zeroSeen_run
attribute [local go_sem high] laidAt_seen
attribute [local irreducible] seenC
attribute [local go_sem] zar zbj
attribute [local go_sem] Oper.semAt_some zak
attribute [local go_sem] zci pacell0 pacell1 pacell2 pacell3 pacell4 pacell5 pacell6 pacell7 pacell42
attribute [local go_sem] zcv zdi zdc zcy zcx zdb zdh zda zcf zct part_s6 zdg zco zbl zch zcj boxPart loadPart storePart zce zcq buildPart0 buildPart4
attribute [local go_sem ↓] lrowPart srowPart browPart zck zbs
attribute [local go_sem high] zas
attribute [local irreducible] partC
attribute [local irreducible] accC
attribute [local go_sem] boxSeen
theorem doP_lenS {l : List (BitVec 64)} {a : AccT} {y : List (BitVec 64) × BitVec 64} (hd : doP l a = some y) : y.1.length = l.length := by
  unfold doP at hd
  split at hd
  · cases hd
  · have hd := Option.some.inj hd
    subst hd
    dsimp only
    split
    · rfl
    · split <;> simp
theorem wp_scope_jumps22 {P : Program} {a : Act} {w : World} {Q : Exit → Act → World → Prop} {c rest : Code} (l : Nat) (J : Act → World → Prop) (μ : Act → World → Nat) (hf : findLabel c l = some (Code.skip.seq rest))
    (pass : ∀ a w, J a w → rest.wp P (Exit.jump l (fun a' w' => J a' w' ∧ μ a' w' < μ a w) Q) a w)
    (first : (∀ a w, J a w → rest.wp P (Exit.jump l J Q) a w) → c.wp P (Exit.jump l J Q) a w) : (Code.scope c).wp P Q a w :=
  wp_scope_jumps l J μ hf (first fun a w h => wp_mono (pass a w h) (fun e a w h => by cases e <;> first | exact h | exact ⟨h.1, h.2.1⟩)) (fun a w h => wp_seq (wp_skip (pass a w h)))
theorem jump_ret22 (l : Nat) (J : Act → World → Prop) (Q : Exit → Act → World → Prop) (a : Act) (w : World) : Exit.jump l J Q .ret a w = Q .ret a w := rfl
theorem index3_0 (a b c : Value) (w : World) : (Instr.index 158 (.agg #[a, b, c]) (.int .i64 0)).run Tryz.prog w = .ok a w := by kernel_rfl
theorem index3_1 (a b c : Value) (w : World) : (Instr.index 158 (.agg #[a, b, c]) (.int .i64 1)).run Tryz.prog w = .ok b w := by kernel_rfl
theorem index3_2 (a b c : Value) (w : World) : (Instr.index 158 (.agg #[a, b, c]) (.int .i64 2)).run Tryz.prog w = .ok c w := by kernel_rfl
attribute [local go_sem] index3_0 index3_1 index3_2
theorem run22_results {fn : Func} {p q u v : Tmp} (h : fn.results = #[.tmp p, .cell q 51, .tmp u, .tmp v]) (tmps : Array Value) (b : Nat) (w : World) (d : PartT) (x y z : Value) (hp : tmps.getD p undef = x) (hq : tmps.getD q undef = .pointer (some ⟨b, 0, none⟩)) (hu : tmps.getD u undef = y) (hv : tmps.getD v undef = z)
    (hb : w.heap[b]? = some (.cells (partC d) 51 (0, 0))) : (results fn tmps).run Tryz.prog w = .ok (.tuple #[x, .agg (partC d), y, z]) w := by
  have hl := run_loadVar_row (P := Tryz.prog) w b 51 51 (partC d) (0, 0) _ hb Tryz.underlying51 rfl (by rw [zbl]; kernel_rfl)
  have hp' : tmps[p]?.getD undef = x := by simpa using hp
  have hq' : tmps[q]?.getD undef = .pointer (some ⟨b, 0, none⟩) := by simpa using hq
  have hu' : tmps[u]?.getD undef = y := by simpa using hu
  have hv' : tmps[v]?.getD undef = z := by simpa using hv
  simp [results, h, hp', hq', hu', hv', asAddr, hl]
theorem run22_b (p : PartT) (w : World) : ((w.alloc (.cells (partC p) 51)).alloc (.cells (partC zeroPart) 51)).heap[w.heap.size]? = some (.cells (partC p) 51 (0, 0)) := by
  rw [zab, if_neg (by simp), zab, if_pos rfl]
theorem run22_z (p : PartT) (w : World) : ((w.alloc (.cells (partC p) 51)).alloc (.cells (partC zeroPart) 51)).heap[w.heap.size + 1]? = some (.cells (partC zeroPart) 51 (0, 0)) := by
  rw [zab, if_pos (by simp)]
theorem cell_there (s : Int) (s0 : 0 ≤ s) (s1 : s < 128) : ∃ z : Int, z = 55 + 40 * s ∧ ∀ w, Calls Tryz.prog 44 #[I s, I 39] w fun e w' => e = .returned (.tuple #[I z, I 0]) ∧ w = w' :=
  ⟨16 + 40 * s + 39, by omega, fun w => cell_ok s 39 s0 s1 (by omega) (by omega) w⟩
end
end Go.Proofs.Hc
