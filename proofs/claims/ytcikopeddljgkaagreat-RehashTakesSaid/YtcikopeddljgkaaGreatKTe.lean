/- The reference of layer 16: Same, ReadTable. -/
import Derived.Test.YtcikopeddljgkaaGreatKTa
import Derived.Test.YtcikopeddljgkaaGreatK0
set_option linter.unusedSimpArgs false
set_option linter.unusedVariables false
set_option maxHeartbeats 2000000
set_option maxRecDepth 100000
namespace Go.Proofs.Hc
open Go.RowKit
attribute [local go_sem] zbs zca zax zbc zbn zba zbm zbo zbu signed64 signed8 zar BitVec.ofInt_add BitVec.ofInt_mul ofInt_sub' zay zaz wide8 eqN neN zbz shr1 shr7 shr56
attribute [local go_sem high] zbb zbt
attribute [local go_sem] zag zbw zah zas zad zbe zaq zal zbl zan zbd zbf
attribute [local go_sem] load26 load73 load23 store26 build73
attribute [local go_sem ↓] lrow26 lrow73 lrow23 srow26 zero26 brow73 zac zaw zbg zaa zab
attribute [local go_sem] zai zav zat zbj zbk zbp zao zau zbq zbi zbh
attribute [local go_sem] nn2 nm2 nn3 nm3 nn4 nm4 nn5 nm5 nn6 nm6 nn7 nm7 nn8 nm8
section
attribute [local go_sem] loadA loadT2 storeA storeT2 zdj zdk zcj zdi zcd zce zct zcl zcy zco zcg zcz zcp zdh zdg
attribute [local go_sem ↓] lrowA lrowT2 srowA srowT2 browA zdf zcx
attribute [local go_sem] Oper.semAt_some zap
theorem r16Same_any (l m : List (BitVec 64)) (n g k c d : Nat) (cur cur2 : Array Value) (w : World) (hn : n ≤ 900000) (hl : l.length = n) (hm : m.length = n)
    (hp : WordsAt cur l) (hg : w.heap[g]? = some (.cells cur 22 (0, 0))) (hq : WordsAt cur2 m) (hk : w.heap[k]? = some (.cells cur2 22 (0, 0))) :
    Calls Tryz.prog 240 #[.slice (some ⟨g, 0, none⟩) n c, .slice (some ⟨k, 0, none⟩) n d] w fun e w' => e = .returned (.bool (decide (l = m))) ∧ Ch [] w w' := by
  have HP := Lib.hid hp
  have HQ := Lib.hid hq
  have HG := Lib.hid hg
  have HK := Lib.hid hk
  have HL := Lib.hid hl
  have HM := Lib.hid hm
  have HD : Hid ((∀ i, i < n → l[i]? = m[i]?) → decide (l = m) = true) := Lib.hid fun h => by
    rw [decide_eq_true_iff]
    apply List.ext_getElem?
    intro i
    by_cases hi : i < n
    · exact h i hi
    · rw [List.getElem?_eq_none (by omega), List.getElem?_eq_none (by omega)]
  have HE : Hid ((∃ i : Nat, l[i]? ≠ m[i]?) → decide (l = m) = false) := Lib.hid fun hx => by
    obtain ⟨i, h⟩ := hx
    rw [decide_eq_false_iff_not]
    intro e
    exact h (by rw [e])
  clear hp hq hg hk hl hm
  obtain ⟨b, hb⟩ : ∃ b, decide (l = m) = b := ⟨_, rfl⟩
  rw [hb] at HD HE ⊢
  clear hb
  go_enter Tryz.func240, Tryz.ntmps240
  go_wp2
  go_loopw [14] (fun i wr => ∃ j : Nat, i = .int .i64 j ∧ j ≤ n ∧ (∀ i, i < j → l[i]? = m[i]?) ∧ Ch [] w wr) (fun i _ => n - (intOf i).toNat)
  case atStart => exact ⟨0, rfl, Nat.zero_le _, fun i h => absurd h (by omega), Ch.refl _ _⟩
  case round =>
    obtain ⟨j, hj, hjl, hsm, hcr⟩ := hrel
    subst hj
    by_cases hlt : j < n
    · obtain ⟨x, hx⟩ : ∃ x, l[j]? = some x := ⟨l[j]'(by have := HL.out; omega), List.getElem?_eq_getElem _⟩
      obtain ⟨y, hy⟩ : ∃ y, m[j]? = some y := ⟨m[j]'(by have := HM.out; omega), List.getElem?_eq_getElem _⟩
      have hrow : cur[j]? = some (U x) := HP.out j x hx
      have hrow2 : cur2[j]? = some (U y) := HQ.out j y hy
      have hrr := hkeep hcr HG.out
      have hqq := hkeep hcr HK.out
      have hltI : (j : Int) < n := by omega
      by_cases hxy : x = y
      · subst hxy
        have HS : Hid (∀ i, i < j + 1 → l[i]? = m[i]?) := Lib.hid fun i hi => by
          by_cases h : i = j
          · subst h; rw [hx, hy]
          · exact hsm i (by omega)
        clear hsm hx hy
        go_wp2
        go_roundw
        case rel => exact ⟨j + 1, by go_num, hlt, HS.out, hcr⟩
        case measure => simp [intOf]; omega
      · have hb : b = false := HE.out ⟨j, by rw [hx, hy]; simpa using hxy⟩
        have hne : (x != y) = true := by simpa using hxy
        clear hsm hx hy
        go_wp2
        go_ret
        exact ⟨by rw [hb]; rfl, hcr⟩
    · have hb : b = true := HD.out fun i hi => hsm i (by omega)
      have hltI : ¬ (j : Int) < n := by omega
      clear hsm
      go_wp2
      go_ret
      exact ⟨by first | rfl | (rw [hb]; rfl), hcr⟩
theorem tmod256w (x : BitVec 64) : (N x).tmod 256 = N (x % 256#64) := by
  rw [Int.tmod_eq_emod_of_nonneg (N_nonneg x)]
  unfold N
  rw [BitVec.toNat_umod]
  rfl
theorem tdiv256w (x : BitVec 64) : (N x).tdiv 256 = N (x / 256#64) := by
  rw [Int.tdiv_eq_ediv_of_nonneg (N_nonneg x)]
  unfold N
  rw [BitVec.toNat_udiv]
  rfl
theorem mod256_lt (x : BitVec 64) : N (x % 256#64) < 256 := by
  unfold N
  rw [BitVec.toNat_umod]
  have e : (256#64 : BitVec 64).toNat = 256 := rfl
  rw [e]
  omega
theorem wrap256 (x : BitVec 64) : IntKind.i64.wrap (N (x % 256#64)) = N (x % 256#64) := by
  rw [IntKind.wrap_i64]
  have := mod256_lt x
  have := N_nonneg (x % 256#64)
  omega
def readB (c : BitVec 64) (d : Int) (p : BitVec 64) (e f : Int) : Tab := ⟨c, d, p, e, f, fun _ => 0#64, fun _ => 0#64, fun _ => 0#64⟩
theorem build_read (c : BitVec 64) (d : Int) (p : BitVec 64) (e f : Int) (w : World) : (buildRow 26 #[(0, U c), (1, I d), (2, U p), (3, I e), (4, I f)]).run Tryz.prog w = .ok (.agg (tcells (readB c d p e f))) w := by kernel_rfl
def readP (ws : Nat → BitVec 64) (n : Nat) : Tab := ⟨ws 0, N (ws 1 % 256#64), ws 1 / 256#64, N (ws 2 % 256#64), N (ws 3 % 256#64), fun g => if g = 1 then ws 5 else if g = 0 then ws 4 else 0#64, fun j => if j < n then ws (6 + j) else 0#64, fun j => if j < n then ws (22 + j) else 0#64⟩
theorem readP_all (ws : Nat → BitVec 64) : readP ws 16 = readR ws := by
  unfold readP readR
  congr 1
  funext g
  by_cases h1 : g = 1
  · subst h1; rfl
  · rw [if_neg h1]
    by_cases h0 : g = 0
    · subst h0; rfl
    · rw [if_neg h0, if_neg (by omega)]
theorem readP_next (ws : Nat → BitVec 64) (j : Nat) : { readP ws j with k := (fun i => if i = j then ws (6 + j) else (readP ws j).k i), v := (fun i => if i = j then ws (22 + j) else (readP ws j).v i) } = readP ws (j + 1) := by
  unfold readP
  dsimp only
  congr 1
  · funext i
    by_cases h : i = j
    · subst h; rw [if_pos rfl, if_pos (by omega)]
    · rw [if_neg h]
      by_cases h2 : i < j
      · rw [if_pos h2, if_pos (by omega)]
      · rw [if_neg h2, if_neg (by omega)]
  · funext i
    by_cases h : i = j
    · subst h; rw [if_pos rfl, if_pos (by omega)]
    · rw [if_neg h]
      by_cases h2 : i < j
      · rw [if_pos h2, if_pos (by omega)]
      · rw [if_neg h2, if_neg (by omega)]
attribute [local irreducible] tcells
attribute [local go_sem] tmod256w tdiv256w wrap256 build_read build_zero
attribute [local go_sem ↓] brow26
theorem read00_put (ws : Nat → BitVec 64) : ((tcells (readB (ws 0) (N (ws 1 % 256#64)) (ws 1 / 256#64) (N (ws 2 % 256#64)) (N (ws 3 % 256#64)))).setIfInBounds 5 (U (ws 4))).setIfInBounds 6 (U (ws 5)) = tcells (readP ws 0) := by
  rw [tset5, tset6]
  congr 1
theorem readP_put (ws : Nat → BitVec 64) (j : Nat) (hj : j < 16) : ((tcells (readP ws j)).setIfInBounds (7 + j) (U (ws (6 + j)))).setIfInBounds (23 + j) (U (ws (22 + j))) = tcells (readP ws (j + 1)) := by
  rw [tset_key _ j hj, tset_val _ j hj, ← readP_next]
theorem tabt_results {fn : Func} {p q : Tmp} (h : fn.results = #[.cell p 26, .tmp q]) (tmps : Array Value) (b : Nat) (w : World) (d : Tab) (v : Value) (hp : tmps.getD p undef = .pointer (some ⟨b, 0, none⟩)) (hq : tmps.getD q undef = v)
    (hb : w.heap[b]? = some (.cells (tcells d) 26 (0, 0))) : (results fn tmps).run Tryz.prog w = .ok (.tuple #[.agg (tcells d), v]) w := by
  have hl := run_loadVar_row (P := Tryz.prog) w b 26 26 (tcells d) (0, 0) _ hb Tryz.underlying26 rfl (by rw [zai]; kernel_rfl)
  have hp' : tmps[p]?.getD undef = .pointer (some ⟨b, 0, none⟩) := by simpa using hp
  have hq' : tmps[q]?.getD undef = v := by simpa using hq
  simp [results, h, hp', hq', asAddr, hl]
theorem r16Read_any (ws : Nat → BitVec 64) (g c : Nat) (cur : Array Value) (w : World) (hb : w.heap[g]? = some (.cells cur 22 (0, 0))) (hw : WordsAt cur (wsL ws)) :
    Calls Tryz.prog 201 #[.slice (some ⟨g, 0, none⟩) 40 c] w fun e w' => e = .returned (.tuple #[.agg (tcells (readR ws)), .bool (readOk ws)]) ∧ Ch [] w w' := by
  have hat : ∀ j, j < 40 → cur[j]? = some (U (ws j)) := fun j hj => hw j _ (wsL_get ws j hj)
  have h0 := hat 0 (by omega)
  have h1 := hat 1 (by omega)
  have h2 := hat 2 (by omega)
  have h3 := hat 3 (by omega)
  have h4 := hat 4 (by omega)
  have h5 := hat 5 (by omega)
  have C0 : Ch [] w (w.alloc (.cells (tcells zeroT) 26)) := (Ch.refl [] w).alloc _
  have z0 : (w.alloc (.cells (tcells zeroT) 26)).heap[w.heap.size]? = some (.cells (tcells zeroT) 26 (0, 0)) := by rw [zac, if_pos rfl]
  have g0 := hkeep C0 hb
  have HB := Lib.hid hb
  have HA := Lib.hid hat
  have HWS := Lib.hid hw
  clear hb hat hw
  go_enter Tryz.func201, Tryz.ntmps201
  go_upto_region 3 with (fail)
  obtain ⟨w0, hw0⟩ : ∃ W, w.alloc (.cells (tcells zeroT) 26) = W := ⟨_, rfl⟩
  rw [hw0] at C0 z0 g0 ⊢
  clear hw0
  obtain ⟨B, hB⟩ : ∃ B, w.heap.size = B := ⟨_, rfl⟩
  rw [hB] at z0 ⊢
  have hBw : w.heap.size ≤ B := by omega
  clear hB
  have s1 : (fun W' : World => W'.heap[g]? = some (.cells cur 22 (0, 0))) w0.drew := g0
  have z1 : w0.drew.heap[B]? = some (.cells (tcells zeroT) 26 (0, 0)) := z0
  have C1 : Ch [] w w0.drew := C0.drew
  refine wp_region_held_drew (S := fun W' => W'.heap[g]? = some (.cells cur 22 (0, 0))) (by kernel_rfl) s1 ?_
  intro _
  simp only [List.size_toArray, List.length_cons, List.length_nil, Nat.reduceAdd]
  clear z0 g0 C0
  generalize w0.drew = w1 at *
  refine tk 0 10 ?_ rfl s1 ?_ ?_; rotate_left
  · intro _ _; go_simp; try with_reducible rfl
  try go_frame
  refine tk 1 11 ?_ rfl s1 ?_ ?_; rotate_left
  · intro _ _; go_simp; try with_reducible rfl
  try go_frame
  refine tk 2 12 ?_ rfl s1 ?_ ?_; rotate_left
  · intro _ _; go_simp; try with_reducible rfl
  try go_frame
  refine tk 3 13 ?_ rfl s1 ?_ ?_; rotate_left
  · intro _ _; go_simp; try with_reducible rfl
  try go_frame
  refine tk 4 14 ?_ rfl s1 ?_ ?_; rotate_left
  · intro _ _; go_simp; try with_reducible rfl
  try go_frame
  refine tk 5 15 ?_ rfl s1 ?_ ?_; rotate_left
  · intro _ _; go_simp; try with_reducible rfl
  try go_frame
  refine tk 6 16 ?_ rfl s1 ?_ ?_; rotate_left
  · intro _ _; go_simp; try with_reducible rfl
  try go_frame
  refine tk 7 17 ?_ rfl s1 ?_ ?_; rotate_left
  · intro _ _; go_simp; try with_reducible rfl
  try go_frame
  refine tk 8 18 ?_ rfl s1 ?_ ?_; rotate_left
  · intro _ _; go_simp; try with_reducible rfl
  try go_frame
  refine tk 9 19 ?_ rfl s1 ?_ ?_; rotate_left
  · intro _ _; go_simp; try with_reducible rfl
  try go_frame
  refine tk 10 20 ?_ rfl s1 ?_ ?_; rotate_left
  · intro _ _; go_simp; try with_reducible rfl
  try go_frame
  refine tk 11 21 ?_ rfl s1 ?_ ?_; rotate_left
  · intro _ _; go_simp; try with_reducible rfl
  try go_frame
  refine tk 12 22 ?_ rfl s1 ?_ ?_; rotate_left
  · intro _ _; go_simp; try with_reducible rfl
  try go_frame
  refine tk 13 23 ?_ rfl s1 ?_ ?_; rotate_left
  · intro _ _; go_simp; try with_reducible rfl
  try go_frame
  refine tk 14 24 ?_ rfl s1 ?_ ?_; rotate_left
  · intro _ _; go_simp; try with_reducible rfl
  try go_frame
  refine tk 15 25 ?_ rfl s1 ?_ ?_; rotate_left
  · intro _ _; go_simp; try with_reducible rfl
  try go_frame
  refine tk 16 26 ?_ rfl s1 ?_ ?_; rotate_left
  · intro _ _; go_simp; try with_reducible rfl
  try go_frame
  refine tk 17 27 ?_ rfl s1 ?_ ?_; rotate_left
  · intro _ _; go_simp; try with_reducible rfl
  try go_frame
  refine tk 18 28 ?_ rfl s1 ?_ ?_; rotate_left
  · intro _ _; go_simp; try with_reducible rfl
  try go_frame
  refine tk 19 29 ?_ rfl s1 ?_ ?_; rotate_left
  · intro _ _; go_simp; try with_reducible rfl
  try go_frame
  refine tk 20 30 ?_ rfl s1 ?_ ?_; rotate_left
  · intro _ _; go_simp; try with_reducible rfl
  try go_frame
  refine tk 21 31 ?_ rfl s1 ?_ ?_; rotate_left
  · intro _ _; go_simp; try with_reducible rfl
  try go_frame
  refine tk 22 32 ?_ rfl s1 ?_ ?_; rotate_left
  · intro _ _; go_simp; try with_reducible rfl
  try go_frame
  refine rd (o := ⟨some 4, _, _, _, _, none⟩) 23 rfl (fun K hK => ?_); go_simp
  have hc2 : Ch [] w1 (w1.alloc (.cells (tcells zeroT) 26)) := (Ch.refl [] w1).alloc _
  have s2 := hkeep hc2 s1
  have z2 := hkeep hc2 z1
  have d2 : (w1.alloc (.cells (tcells zeroT) 26)).heap[w1.heap.size]? = some (.cells (tcells zeroT) 26 (0, 0)) := by rw [zac, if_pos rfl]
  have C2 := C1.trans hc2
  have ng := ns s1
  have nz := ns z1
  have hDw : w.heap.size ≤ w1.heap.size := C1.size
  refine hK.out _ _ s2 (fun _ => ?_)
  clear hK K hc2 s1 z1 C1
  obtain ⟨w2, hw2⟩ : ∃ W, w1.alloc (.cells (tcells zeroT) 26) = W := ⟨_, rfl⟩
  rw [hw2] at s2 z2 C2 d2 ⊢
  clear hw2
  obtain ⟨D, hD⟩ : ∃ D, w1.heap.size = D := ⟨_, rfl⟩
  rw [hD] at d2 ng nz hDw ⊢
  clear hD
  refine rd 24 rfl (fun K hK => ?_); go_simp
  have d3 : (World.onObj w2 D (laidAt 0 (tcells (readB (ws 0) (N (ws 1 % 256#64)) (ws 1 / 256#64) (N (ws 2 % 256#64)) (N (ws 3 % 256#64)))))).heap[D]? = some (.cells (tcells (readB (ws 0) (N (ws 1 % 256#64)) (ws 1 / 256#64) (N (ws 2 % 256#64)) (N (ws 3 % 256#64)))) 26 (0, 0)) := by rw [zab, if_pos rfl, d2, Option.map_some, zcb]
  have s3 : (World.onObj w2 D (laidAt 0 (tcells (readB (ws 0) (N (ws 1 % 256#64)) (ws 1 / 256#64) (N (ws 2 % 256#64)) (N (ws 3 % 256#64)))))).heap[g]? = some (.cells cur 22 (0, 0)) := by rw [zab, if_neg ng]; exact s2
  have z3 : (World.onObj w2 D (laidAt 0 (tcells (readB (ws 0) (N (ws 1 % 256#64)) (ws 1 / 256#64) (N (ws 2 % 256#64)) (N (ws 3 % 256#64)))))).heap[B]? = some (.cells (tcells zeroT) 26 (0, 0)) := by rw [zab, if_neg nz]; exact z2
  have C3 : Ch [] w (World.onObj w2 D (laidAt 0 (tcells (readB (ws 0) (N (ws 1 % 256#64)) (ws 1 / 256#64) (N (ws 2 % 256#64)) (N (ws 3 % 256#64)))))) := C2.onObj (.inr hDw) _
  refine hK.out _ _ s3 (fun _ => ?_)
  clear hK K s2 z2 C2 d2
  obtain ⟨w3, hw3⟩ : ∃ W, World.onObj w2 D (laidAt 0 (tcells (readB (ws 0) (N (ws 1 % 256#64)) (ws 1 / 256#64) (N (ws 2 % 256#64)) (N (ws 3 % 256#64))))) = W := ⟨_, rfl⟩
  rw [hw3] at s3 z3 C3 d3 ⊢
  clear hw3
  refine wpAnyH_done (by kernel_rfl) ?_ _
  go_upto_region 4 with (fail)
  have s4 : (fun W' : World => W'.heap[g]? = some (.cells cur 22 (0, 0))) w3.drew := s3
  have z4 : w3.drew.heap[B]? = some (.cells (tcells zeroT) 26 (0, 0)) := z3
  have d4 : w3.drew.heap[D]? = some (.cells (tcells (readB (ws 0) (N (ws 1 % 256#64)) (ws 1 / 256#64) (N (ws 2 % 256#64)) (N (ws 3 % 256#64)))) 26 (0, 0)) := d3
  have C4 : Ch [] w w3.drew := C3.drew
  refine wp_region_held_drew (S := fun W' => W'.heap[g]? = some (.cells cur 22 (0, 0))) (by kernel_rfl) s4 ?_
  intro _
  simp only [List.size_toArray, List.length_cons, List.length_nil, Nat.reduceAdd]
  clear s3 z3 d3 C3
  generalize w3.drew = w4 at *
  refine tk 0 33 ?_ rfl s4 ?_ ?_; rotate_left
  · intro _ _; go_simp; try with_reducible rfl
  try go_frame
  refine tk 1 34 ?_ rfl s4 ?_ ?_; rotate_left
  · intro _ _; go_simp; try with_reducible rfl
  try go_frame
  refine tk 2 35 ?_ rfl s4 ?_ ?_; rotate_left
  · intro _ _; go_simp; try with_reducible rfl
  try go_frame
  refine tk 3 36 ?_ rfl s4 ?_ ?_; rotate_left
  · intro _ _; go_simp; try with_reducible rfl
  try go_frame
  refine tk 4 37 ?_ rfl s4 ?_ ?_; rotate_left
  · intro _ _; go_simp; try with_reducible rfl
  try go_frame
  refine tk 5 38 ?_ rfl s4 ?_ ?_; rotate_left
  · intro _ _; go_simp; try with_reducible rfl
  try go_frame
  refine tk 6 39 ?_ rfl s4 ?_ ?_; rotate_left
  · intro _ _; go_simp; try with_reducible rfl
  try go_frame
  refine tk 7 40 ?_ rfl s4 ?_ ?_; rotate_left
  · intro _ _; go_simp; try with_reducible rfl
  try go_frame
  refine tk 9 41 ?_ rfl s4 ?_ ?_; rotate_left
  · intro _ _; go_simp; try with_reducible rfl
  try go_frame
  refine rd 8 rfl (fun K hK => ?_); go_simp
  have d5 : (w4.setCell ⟨D, 5, none⟩ (U (ws 4))).heap[D]? = some (.cells ((tcells (readB (ws 0) (N (ws 1 % 256#64)) (ws 1 / 256#64) (N (ws 2 % 256#64)) (N (ws 3 % 256#64)))).setIfInBounds 5 (U (ws 4))) 26 (0, 0)) := by rw [zaa, if_pos rfl, d4, Option.map_some, zad]
  have s5 : (w4.setCell ⟨D, 5, none⟩ (U (ws 4))).heap[g]? = some (.cells cur 22 (0, 0)) := by rw [zaa, if_neg ng]; exact s4
  have z5 : (w4.setCell ⟨D, 5, none⟩ (U (ws 4))).heap[B]? = some (.cells (tcells zeroT) 26 (0, 0)) := by rw [zaa, if_neg nz]; exact z4
  have C5 : Ch [] w (w4.setCell ⟨D, 5, none⟩ (U (ws 4))) := C4.setCell (p := ⟨D, 5, none⟩) (.inr hDw) _
  refine hK.out _ _ s5 (fun _ => ?_)
  clear hK K s4 z4 C4 d4
  generalize w4.setCell ⟨D, 5, none⟩ (U (ws 4)) = w5 at *
  refine tk 10 42 ?_ rfl s5 ?_ ?_; rotate_left
  · intro _ _; go_simp; try with_reducible rfl
  try go_frame
  refine rd 11 rfl (fun K hK => ?_); go_simp
  have d6 : (w5.setCell ⟨D, 6, none⟩ (U (ws 5))).heap[D]? = some (.cells (tcells (readP ws 0)) 26 (0, 0)) := by rw [zaa, if_pos rfl, d5, Option.map_some, zad, read00_put]
  have s6 : (w5.setCell ⟨D, 6, none⟩ (U (ws 5))).heap[g]? = some (.cells cur 22 (0, 0)) := by rw [zaa, if_neg ng]; exact s5
  have z6 : (w5.setCell ⟨D, 6, none⟩ (U (ws 5))).heap[B]? = some (.cells (tcells zeroT) 26 (0, 0)) := by rw [zaa, if_neg nz]; exact z5
  have C6 : Ch [] w (w5.setCell ⟨D, 6, none⟩ (U (ws 5))) := C5.setCell (p := ⟨D, 6, none⟩) (.inr hDw) _
  refine hK.out _ _ s6 (fun _ => ?_)
  clear hK K s5 z5 C5 d5 h0 h1 h2 h3 h4 h5
  generalize w5.setCell ⟨D, 6, none⟩ (U (ws 5)) = w6 at *
  refine wpAnyH_done (by kernel_rfl) ?_ _
  have HS6 := Lib.hid s6
  have HZ6 := Lib.hid z6
  have HD6 := Lib.hid d6
  have HC6 := Lib.hid C6
  clear s6 z6 d6 C6 HB
  go_wp2
  go_loopw [43] (fun i wr => ∃ j : Nat, i = .int .i64 j ∧ j ≤ 16 ∧ wr.heap[g]? = some (.cells cur 22 (0, 0)) ∧ wr.heap[B]? = some (.cells (tcells zeroT) 26 (0, 0)) ∧ wr.heap[D]? = some (.cells (tcells (readP ws j)) 26 (0, 0)) ∧ Ch [] w wr) (fun i _ => 16 - (intOf i).toNat)
  case atStart => exact ⟨0, rfl, by omega, HS6.out, HZ6.out, HD6.out, HC6.out⟩
  case round =>
    obtain ⟨j, hj, hjl, sr, zr, dr, cr⟩ := hrel
    subst hj
    clear HS6 HZ6 HD6 HC6
    by_cases hlt : j < 16
    · have hk1 : cur[6 + j]? = some (U (ws (6 + j))) := HA.out _ (by omega)
      have hk2 : cur[22 + j]? = some (U (ws (22 + j))) := HA.out _ (by omega)
      have hltI : (j : Int) < 16 := by omega
      have hj0 : (0 : Int) ≤ j := by omega
      have x1 : IntKind.i64.wrap (6 + (j : Int)) = 6 + (j : Int) := by rw [IntKind.wrap_i64]; omega
      have x2 : IntKind.i64.wrap (22 + (j : Int)) = 22 + (j : Int) := by rw [IntKind.wrap_i64]; omega
      have x3 : (0 : Int) ≤ 6 + (j : Int) := by omega
      have x4 : (6 : Int) + (j : Int) < 40 := by omega
      have x5 : (0 : Int) ≤ 22 + (j : Int) := by omega
      have x6 : (22 : Int) + (j : Int) < 40 := by omega
      have x7 : ((6 : Int) + (j : Int)).toNat = 6 + j := by omega
      have x8 : ((22 : Int) + (j : Int)).toNat = 22 + j := by omega
      have HPP := Lib.hid (readP_put ws j hlt)
      obtain ⟨o1, ho1⟩ : ∃ v, (tcells (readP ws j))[7 + j]? = some v := ⟨_, tcells_key _ j hlt⟩
      obtain ⟨o2, ho2⟩ : ∃ v, (tcells (readP ws j))[23 + j]? = some v := ⟨_, tcells_val _ j hlt⟩
      obtain ⟨cp, hcp⟩ : ∃ c, tcells (readP ws j) = c := ⟨_, rfl⟩
      rw [hcp] at dr HPP ho1 ho2
      clear hcp
      obtain ⟨k1, hkk1⟩ : ∃ x, ws (6 + j) = x := ⟨_, rfl⟩
      obtain ⟨k2, hkk2⟩ : ∃ x, ws (22 + j) = x := ⟨_, rfl⟩
      rw [hkk1] at hk1 HPP
      rw [hkk2] at hk2 HPP
      clear hkk1 hkk2
      go_upto_region 8 with (fail)
      have s7 : (fun W' : World => W'.heap[g]? = some (.cells cur 22 (0, 0))) wr.drew := sr
      have z7 : wr.drew.heap[B]? = some (.cells (tcells zeroT) 26 (0, 0)) := zr
      have d7 : wr.drew.heap[D]? = some (.cells cp 26 (0, 0)) := dr
      have C7 : Ch [] w wr.drew := cr.drew
      refine wp_region_held_drew (S := fun W' => W'.heap[g]? = some (.cells cur 22 (0, 0))) (by kernel_rfl) s7 ?_
      intro _
      simp only [List.size_toArray, List.length_cons, List.length_nil, Nat.reduceAdd]
      obtain ⟨w7, hw7⟩ : ∃ W, wr.drew = W := ⟨_, rfl⟩
      rw [hw7] at s7 z7 d7 C7 ⊢
      clear hw7 sr zr dr cr
      refine tk 0 46 ?_ rfl s7 ?_ ?_; rotate_left
      · intro _ _; go_simp; try with_reducible rfl
      try go_frame
      refine tk 1 47 ?_ rfl s7 ?_ ?_; rotate_left
      · intro _ _; go_simp; try with_reducible rfl
      try go_frame
      refine tk 2 48 ?_ rfl s7 ?_ ?_; rotate_left
      · intro _ _; go_simp; try with_reducible rfl
      try go_frame
      refine tk 3 49 ?_ rfl s7 ?_ ?_; rotate_left
      · intro _ _; go_simp; try with_reducible rfl
      try go_frame
      refine tk 4 50 ?_ rfl s7 ?_ ?_; rotate_left
      · intro _ _; go_simp; try with_reducible rfl
      try go_frame
      refine tk 5 51 ?_ rfl s7 ?_ ?_; rotate_left
      · intro _ _; go_simp; try with_reducible rfl
      try go_frame
      refine tk 6 52 ?_ rfl s7 ?_ ?_; rotate_left
      · intro _ _; go_simp; try with_reducible rfl
      try go_frame
      refine tk 7 53 ?_ rfl s7 ?_ ?_; rotate_left
      · intro _ _; go_simp; try with_reducible rfl
      try go_frame
      refine tk 8 54 ?_ rfl s7 ?_ ?_; rotate_left
      · intro _ _; go_simp; try with_reducible rfl
      try go_frame
      refine tk 9 55 ?_ rfl s7 ?_ ?_; rotate_left
      · intro _ _; go_simp; try with_reducible rfl
      try go_frame
      refine tk 10 56 ?_ rfl s7 ?_ ?_; rotate_left
      · intro _ _; go_simp; try with_reducible rfl
      try go_frame
      refine tk 11 57 ?_ rfl s7 ?_ ?_; rotate_left
      · intro _ _; go_simp; try with_reducible rfl
      try go_frame
      refine tk 12 58 ?_ rfl s7 ?_ ?_; rotate_left
      · intro _ _; go_simp; try with_reducible rfl
      try go_frame
      refine tk 13 59 ?_ rfl s7 ?_ ?_; rotate_left
      · intro _ _; go_simp; try with_reducible rfl
      try go_frame
      refine tk 15 60 ?_ rfl s7 ?_ ?_; rotate_left
      · intro _ _; go_simp; try with_reducible rfl
      try go_frame
      refine rd 14 rfl (fun K hK => ?_); go_simp
      have d8 : (w7.setCell ⟨D, 7 + j, none⟩ (U k1)).heap[D]? = some (.cells (cp.setIfInBounds (7 + j) (U k1)) 26 (0, 0)) := by rw [zaa, if_pos rfl, d7, Option.map_some, zad]
      have s8 : (w7.setCell ⟨D, 7 + j, none⟩ (U k1)).heap[g]? = some (.cells cur 22 (0, 0)) := by rw [zaa, if_neg ng]; exact s7
      have z8 : (w7.setCell ⟨D, 7 + j, none⟩ (U k1)).heap[B]? = some (.cells (tcells zeroT) 26 (0, 0)) := by rw [zaa, if_neg nz]; exact z7
      have C8 : Ch [] w (w7.setCell ⟨D, 7 + j, none⟩ (U k1)) := C7.setCell (p := ⟨D, 7 + j, none⟩) (.inr hDw) _
      have ho3 : (cp.setIfInBounds (7 + j) (U k1))[23 + j]? = some o2 := by rw [Array.getElem?_setIfInBounds, if_neg (by omega)]; exact ho2
      refine hK.out _ _ s8 (fun _ => ?_)
      clear hK K s7 z7 C7 d7 ho1 ho2
      generalize w7.setCell ⟨D, 7 + j, none⟩ (U k1) = w8 at *
      obtain ⟨cq, hcq⟩ : ∃ c, cp.setIfInBounds (7 + j) (U k1) = c := ⟨_, rfl⟩
      rw [hcq] at d8 HPP ho3
      clear hcq
      refine tk 16 61 ?_ rfl s8 ?_ ?_; rotate_left
      · intro _ _; go_simp; try with_reducible rfl
      try go_frame
      refine rd 17 rfl (fun K hK => ?_); go_simp
      have d9 : (w8.setCell ⟨D, 23 + j, none⟩ (U k2)).heap[D]? = some (.cells (tcells (readP ws (j + 1))) 26 (0, 0)) := by rw [zaa, if_pos rfl, d8, Option.map_some, zad, HPP.out]
      have s9 : (w8.setCell ⟨D, 23 + j, none⟩ (U k2)).heap[g]? = some (.cells cur 22 (0, 0)) := by rw [zaa, if_neg ng]; exact s8
      have z9 : (w8.setCell ⟨D, 23 + j, none⟩ (U k2)).heap[B]? = some (.cells (tcells zeroT) 26 (0, 0)) := by rw [zaa, if_neg nz]; exact z8
      have C9 : Ch [] w (w8.setCell ⟨D, 23 + j, none⟩ (U k2)) := C8.setCell (p := ⟨D, 23 + j, none⟩) (.inr hDw) _
      refine hK.out _ _ s9 (fun _ => ?_)
      clear hK K s8 z8 C8 d8 ho3 HPP
      generalize w8.setCell ⟨D, 23 + j, none⟩ (U k2) = w9 at *
      refine wpAnyH_done (by kernel_rfl) ?_ _
      go_wp2
      go_roundw
      case rel => exact ⟨j + 1, by go_num, hlt, s9, z9, d9, C9⟩
      case measure => simp [intOf]; omega
    · have hj16 : j = 16 := by omega
      subst hj16
      rw [readP_all] at dr
      clear hlt HA
      have T1 := fun w => rTable_any (readR ws) w
      have RS := read_same ws
      go_upto_region 10 with (fail)
      have s7 : (fun W' : World => W'.heap[g]? = some (.cells cur 22 (0, 0)) ∧ W'.heap[D]? = some (.cells (tcells (readR ws)) 26 (0, 0))) wr.drew := ⟨sr, dr⟩
      have z7 : wr.drew.heap[B]? = some (.cells (tcells zeroT) 26 (0, 0)) := zr
      have C7 : Ch [] w wr.drew := cr.drew
      refine wp_region_held_drew (S := fun W' => W'.heap[g]? = some (.cells cur 22 (0, 0)) ∧ W'.heap[D]? = some (.cells (tcells (readR ws)) 26 (0, 0))) (by kernel_rfl) s7 ?_
      intro _
      simp only [List.size_toArray, List.length_cons, List.length_nil, Nat.reduceAdd]
      obtain ⟨w7, hw7⟩ : ∃ W, wr.drew = W := ⟨_, rfl⟩
      rw [hw7] at s7 z7 C7 ⊢
      clear hw7 sr zr dr cr
      refine tk 0 63 ?_ rfl s7 ?_ ?_; rotate_left
      · intro wq hSq; obtain ⟨q1, q2⟩ := hSq; go_simp; try with_reducible rfl
      try go_frame
      refine tk 1 64 ?_ rfl s7 ?_ ?_; rotate_left
      · intro wq hSq; obtain ⟨q1, q2⟩ := hSq; go_simp; try with_reducible rfl
      try go_frame
      refine rd 2 rfl (fun K hK => ?_); go_simp
      cases hf : flatT (readR ws) with
      | false =>
        rw [hf, Bool.false_and] at RS
        rw [hf] at T1
        refine (T1 _).mono ?_
        rintro e w8 ⟨rfl, hc8⟩
        have s8 := (⟨hkeep hc8 s7.1, hkeep hc8 s7.2⟩ : w8.heap[g]? = some (.cells cur 22 (0, 0)) ∧ w8.heap[D]? = some (.cells (tcells (readR ws)) 26 (0, 0)))
        have z8 := hkeep hc8 z7
        have C8 := C7.trans hc8
        refine hK.out _ _ s8 (fun _ => ?_)
        clear hK K s7 z7 C7 hc8 T1
        refine tk 3 66 ?_ rfl s8 ?_ ?_; rotate_left
        · intro wq hSq; obtain ⟨q1, q2⟩ := hSq; go_simp; try with_reducible rfl
        try go_frame
        refine wpAnyH_take (i := 4) (oi := ⟨some 67, _, _, _, _, _⟩) (v := undef) rfl (by kernel_rfl) (by kernel_rfl) (by kernel_rfl) (fun _ _ _ h => h) (Or.inr ⟨by rfl, rfl⟩) s8 ?_
        try simp only [Act.put, List.setIfInBounds_toArray, List.set_cons_zero, List.set_cons_succ]
        refine wpAnyH_take (i := 5) (oi := ⟨some 68, _, _, _, _, _⟩) (v := undef) rfl (by kernel_rfl) (by kernel_rfl) (by kernel_rfl) (fun _ _ _ h => h) (Or.inr ⟨by rfl, rfl⟩) s8 ?_
        try simp only [Act.put, List.setIfInBounds_toArray, List.set_cons_zero, List.set_cons_succ]
        refine rd 6 rfl (fun K hK => ?_); go_simp
        refine hK.out _ _ s8 (fun _ => ?_)
        clear hK K
        refine rd 7 rfl (fun K hK => ?_); go_simp
        refine hK.out _ _ s8 (fun _ => ?_)
        clear hK K
        refine tk 8 71 ?_ rfl s8 ?_ ?_; rotate_left
        · intro wq hSq; obtain ⟨q1, q2⟩ := hSq; go_simp; try with_reducible rfl
        try go_frame
        refine rd 9 rfl (fun K hK => ?_); go_simp
        have z9 : (World.onObj w8 B (laidAt 0 (tcells (readR ws)))).heap[B]? = some (.cells (tcells (readR ws)) 26 (0, 0)) := by rw [zab, if_pos rfl, z8, Option.map_some, zcb]
        have s9 : (World.onObj w8 B (laidAt 0 (tcells (readR ws)))).heap[g]? = some (.cells cur 22 (0, 0)) ∧ (World.onObj w8 B (laidAt 0 (tcells (readR ws)))).heap[D]? = some (.cells (tcells (readR ws)) 26 (0, 0)) :=
          ⟨(zbv _ (zdb s8.1 z8 (by decide))).trans s8.1, (zbv _ (fun e => nz e.symm)).trans s8.2⟩
        have C9 : Ch [] w (World.onObj w8 B (laidAt 0 (tcells (readR ws)))) := C8.onObj (.inr hBw) _
        refine hK.out _ _ s9 (fun _ => ?_)
        clear hK K s8 z8 C8
        generalize World.onObj w8 B (laidAt 0 (tcells (readR ws))) = w9 at *
        refine tk 10 3 ?_ rfl s9 ?_ ?_; rotate_left
        · intro _ _; go_simp; try with_reducible rfl
        try go_frame
        refine wpAnyH_done (by kernel_rfl) ?_ _
        go_wp2
        refine bodyPost_ret (tabt_results Tryz.results201 _ B _ (readR ws) _ rfl rfl z9) rfl ⟨by rw [RS]; rfl, C9⟩
      | true =>
        rw [hf, Bool.true_and] at RS
        rw [hf] at T1
        have P1 := fun w => r16Words_any (readR ws) w
        have HW := Lib.hid (show WordsAt cur (wsL ws) from HWS.out)
        obtain ⟨b, hb⟩ : ∃ b, decide (wsL ws = rlist (readR ws)) = b := ⟨_, rfl⟩
        have S1 := fun k c d cur2 w hg hq hk => r16Same_any (wsL ws) (rlist (readR ws)) 40 g k c d cur cur2 w (by omega) (wsL_len ws) (rlist_len _) HW.out hg hq hk
        rw [hb] at RS S1
        clear hb
        refine (T1 _).mono ?_
        rintro e w8 ⟨rfl, hc8⟩
        have s8 := (⟨hkeep hc8 s7.1, hkeep hc8 s7.2⟩ : w8.heap[g]? = some (.cells cur 22 (0, 0)) ∧ w8.heap[D]? = some (.cells (tcells (readR ws)) 26 (0, 0)))
        have z8 := hkeep hc8 z7
        have C8 := C7.trans hc8
        refine hK.out _ _ s8 (fun _ => ?_)
        clear hK K s7 z7 C7 hc8 T1
        refine tk 3 66 ?_ rfl s8 ?_ ?_; rotate_left
        · intro wq hSq; obtain ⟨q1, q2⟩ := hSq; go_simp; try with_reducible rfl
        try go_frame
        refine tk 4 67 ?_ rfl s8 ?_ ?_; rotate_left
        · intro wq hSq; obtain ⟨q1, q2⟩ := hSq; go_simp; try with_reducible rfl
        try go_frame
        refine tk 5 68 ?_ rfl s8 ?_ ?_; rotate_left
        · intro wq hSq; obtain ⟨q1, q2⟩ := hSq; go_simp; try with_reducible rfl
        try go_frame
        refine rd 6 rfl (fun K hK => ?_); go_simp
        refine (P1 _).mono ?_
        rintro e w10 ⟨v, rfl, ho, hc10⟩
        obtain ⟨R, c2, cur2, rfl, _, _, hcur2, hR⟩ := row_out (show (rlist (readR ws)).length = 40 from rlist_len _) (by omega) ho
        have s10 := (⟨hkeep hc10 s8.1, hkeep hc10 s8.2⟩ : w10.heap[g]? = some (.cells cur 22 (0, 0)) ∧ w10.heap[D]? = some (.cells (tcells (readR ws)) 26 (0, 0)))
        have z10 := hkeep hc10 z8
        have C10 := C8.trans hc10
        refine hK.out _ _ s10 (fun _ => ?_)
        clear hK K s8 z8 C8 hc10 P1 ho
        refine rd 7 rfl (fun K hK => ?_); go_simp
        refine (S1 R _ _ cur2 _ s10.1 hcur2 hR).mono ?_
        rintro e w11 ⟨rfl, hc11⟩
        have s11 := (⟨hkeep hc11 s10.1, hkeep hc11 s10.2⟩ : w11.heap[g]? = some (.cells cur 22 (0, 0)) ∧ w11.heap[D]? = some (.cells (tcells (readR ws)) 26 (0, 0)))
        have z11 := hkeep hc11 z10
        have C11 := C10.trans hc11
        refine hK.out _ _ s11 (fun _ => ?_)
        clear hK K s10 z10 C10 hc11 S1 hR hcur2
        refine tk 8 71 ?_ rfl s11 ?_ ?_; rotate_left
        · intro wq hSq; obtain ⟨q1, q2⟩ := hSq; go_simp; try with_reducible rfl
        try go_frame
        refine rd 9 rfl (fun K hK => ?_); go_simp
        have z9 : (World.onObj w11 B (laidAt 0 (tcells (readR ws)))).heap[B]? = some (.cells (tcells (readR ws)) 26 (0, 0)) := by rw [zab, if_pos rfl, z11, Option.map_some, zcb]
        have s9 : (World.onObj w11 B (laidAt 0 (tcells (readR ws)))).heap[g]? = some (.cells cur 22 (0, 0)) ∧ (World.onObj w11 B (laidAt 0 (tcells (readR ws)))).heap[D]? = some (.cells (tcells (readR ws)) 26 (0, 0)) :=
          ⟨(zbv _ (zdb s11.1 z11 (by decide))).trans s11.1, (zbv _ (fun e => nz e.symm)).trans s11.2⟩
        have C9 : Ch [] w (World.onObj w11 B (laidAt 0 (tcells (readR ws)))) := C11.onObj (.inr hBw) _
        refine hK.out _ _ s9 (fun _ => ?_)
        clear hK K s11 z11 C11
        generalize World.onObj w11 B (laidAt 0 (tcells (readR ws))) = w9 at *
        refine tk 10 3 ?_ rfl s9 ?_ ?_; rotate_left
        · intro _ _; go_simp; try with_reducible rfl
        try go_frame
        refine wpAnyH_done (by kernel_rfl) ?_ _
        go_wp2
        refine bodyPost_ret (tabt_results Tryz.results201 _ B _ (readR ws) _ rfl rfl z9) rfl ⟨by rw [RS]; rfl, C9⟩
end
end Go.Proofs.Hc
