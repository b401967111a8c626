/- The reference of layer 22: on. -/
import Derived.Test.YtcikopeddljgkaaGreatJPt
import Derived.Test.YtcikopeddljgkaaGreatJWb
import Derived.Test.YtcikopeddljgkaaGreatJ0
set_option linter.unusedSimpArgs false
set_option linter.unusedVariables false
set_option maxHeartbeats 4000000
set_option maxRecDepth 100000
namespace Go.Proofs.Hc
open Go.RowKit
attribute [local go_sem] zbu zcc zax zbf zbo zbd zbn zbp zbw signed64 signed8 zap BitVec.ofInt_add BitVec.ofInt_mul ofInt_sub' zbb zbc wide8 eqN neN zca shr1 shr7 shr56
attribute [local go_sem high] zbe zbv
attribute [local go_sem] zaw zby zaj zas zaf zaz zar zak zbm zal zay zba
attribute [local go_sem] load26 load73 load23 store26 build73
attribute [local go_sem ↓] lrow26 lrow73 lrow23 srow26 zero26 brow73 zae zbk zbg zaa zab
attribute [local go_sem] zai zav zat zbj zbl zbr zaq zau zbs zbi zbh
attribute [local go_sem] nn2 nm2 nn3 nm3 nn4 nm4 nn5 nm5 nn6 nm6 nn7 nm7 nn8 nm8
section
attribute [local go_sem] loadA loadT2 storeA storeT2 buildA_ts buildA_sm zdd make_func zda zcd acells_get zcz acells_one t2cells_one zcy acells_all t2cells_all t2cells_l t2cells_r
attribute [local go_sem ↓] lrowA lrowT2 srowA srowT2 browA zeroA_run zeroT2_run
attribute [local go_sem] zap zbq
attribute [local go_sem] Oper.semAt_some zao
attribute [local go_sem] zcj pacell0 pacell1 pacell2 pacell3 pacell4 pacell5 pacell6 pacell7 pacell42
attribute [local go_sem] zcs zcx zcp zcw zcv zdg zcu zdf zce zcr zdj zdc zch zbt zci zck boxPart loadPart storePart zcf zct buildPart0 buildPart4
attribute [local go_sem ↓] lrowPart srowPart browPart zcl zbz
attribute [local go_sem high] zag
attribute [local irreducible] partC
attribute [local go_sem high] zco laidAt_t2
attribute [local irreducible] tcells t2cells
theorem on_bad (p : PartT) (f : Nat) (h : toldS (gotS p) f 16 = []) (h2 : halvesS p = none) : onS p f = { p with ph := 9 } := by
  rw [on_none p f h, h2]
theorem on_good (p : PartT) (f : Nat) (ws : Nat → BitVec 64) (h : toldS (gotS p) f 16 = []) (h2 : halvesS p = some ws) : onS p f = { p with ws := ws, ph := 5 } := by
  rw [on_none p f h, h2]
theorem zde {fn : Func} {q : Tmp} (h : fn.results = #[.cell q 51]) (tmps : Array Value) (b : Nat) (w : World) (d : PartT) (hq : tmps.getD q undef = .pointer (some ⟨b, 0, none⟩))
    (hb : w.heap[b]? = some (.cells (partC d) 51 (0, 0))) : (results fn tmps).run Tryz.prog w = .ok (.agg (partC d)) w := by
  have hl := run_loadVar_row (P := Tryz.prog) w b 51 51 (partC d) (0, 0) _ hb Tryz.underlying51 rfl (by rw [zbt]; kernel_rfl)
  have hq' : tmps[q]?.getD undef = .pointer (some ⟨b, 0, none⟩) := by simpa using hq
  simp [results, h, hq', asAddr, hl]
theorem part_zz (p : PartT) (w : World) : ∃ W, (w.alloc (.cells (partC p) 51)).alloc (.cells (partC zeroPart) 51) = W ∧ Ch [] w W ∧ W.heap[w.heap.size]? = some (.cells (partC p) 51 (0, 0)) ∧ W.heap[w.heap.size + 1]? = some (.cells (partC zeroPart) 51 (0, 0)) :=
  ⟨_, rfl, ((Ch.refl [] w).alloc _).alloc _, by rw [zae, if_neg (by simp), zae, if_pos rfl], by rw [zae, if_pos (by simp)]⟩
def putS (ws t : Nat → BitVec 64) (n : Nat) : Nat → BitVec 64 := fun i => if i < n then t i else ws i
theorem putS_next (ws t : Nat → BitVec 64) (n : Nat) : updW (putS ws t n) n (t n) = putS ws t (n + 1) := by
  funext i
  unfold updW putS
  by_cases h : i = n
  · subst h; rw [if_pos rfl, if_pos (by omega)]
  · rw [if_neg h]
    by_cases h2 : i < n
    · rw [if_pos h2, if_pos (by omega)]
    · rw [if_neg h2, if_neg (by omega)]
theorem putS_zero (ws t : Nat → BitVec 64) : putS ws t 0 = ws := by funext i; unfold putS; rw [if_neg (by omega)]
theorem putS_part (p : PartT) (ws t : Nat → BitVec 64) (n i k : Nat) (x : BitVec 64) (hk : k < 40) (hi : i < 2) (hn : 40 * i + k = n) (hx : t n = x) : (partC { p with ws := putS ws t n }).setIfInBounds (43 + i * 40 + k) (U x) = partC { p with ws := putS ws t (n + 1) } := by
  rw [show 43 + i * 40 + k = 43 + n by omega, part_sw _ n (by omega), ← putS_next, hx]
theorem putS_all (p : PartT) (t : Nat → BitVec 64) : partC { p with ws := putS p.ws t 80 } = partC { p with ws := t } :=
  partC_same p _ _ fun i hi => by unfold putS; rw [if_pos hi]
theorem words22 (t : Tab) (hf : flatT t = true) (w : World) : Calls Tryz.prog 182 #[.agg (tcells t)] w fun e w' => ∃ R c cur, e = .returned (.slice (some ⟨R, 0, none⟩) 40 c) ∧ WordsAt cur (twords t) ∧ w'.heap[R]? = some (.cells cur 22 (0, 0)) ∧ Ch [] w w' := by
  refine (r16Words_any t w).mono ?_
  rintro e w' ⟨v, rfl, ho, hc⟩
  rw [show (rwords t 16 16 ++ [0#64, 0#64]) = twords t from rlist_flat hf] at ho
  obtain ⟨R, c, cur, rfl, _, _, hcur, hR⟩ := row_out (by unfold twords; simp) (by omega) ho
  exact ⟨R, c, cur, rfl, hcur, hR, hc⟩
def halfOf (x : T2) (i : Nat) : Tab := if i = 0 then x.l else x.r
theorem index_half (x : T2) (i : Nat) (hi : i < 2) (w : World) : (Instr.index 35 (.agg (t2cells x)) (.int .i64 (i : Int))).run Tryz.prog w = .ok (.agg (tcells (halfOf x i))) w := by
  rcases (show i = 0 ∨ i = 1 by omega) with rfl | rfl
  · exact index35_0 x w
  · exact index35_1 x w
theorem half_word (x : T2) (i k : Nat) (hi : i < 2) (hk : k < 40) : tword (halfOf x i) k = wordsS x (40 * i + k) := by
  unfold wordsS halfOf
  rcases (show i = 0 ∨ i = 1 by omega) with rfl | rfl
  · rw [if_pos rfl, if_pos (by omega), Nat.mul_zero, Nat.zero_add]
  · rw [if_neg (by omega), if_neg (by omega), show 40 * 1 + k - 40 = k by omega]
theorem tab22_block (W : World) (a b : Tab) : (World.onObj (W.alloc (.cells (tcells a) 26)) W.heap.size (laidAt 0 (tcells b))).heap[W.heap.size]? = some (.cells (tcells b) 26 (0, 0)) := by
  rw [zab, if_pos rfl, zae, if_pos rfl, Option.map_some, zco]
theorem tab22_ch (W : World) (a b : Tab) : Ch [] W (World.onObj (W.alloc (.cells (tcells a) 26)) W.heap.size (laidAt 0 (tcells b))) := ((Ch.refl [] W).alloc _).onObj (.inr (Nat.le_refl _)) _
theorem r22on_any (p : PartT) (f : Nat) (hf : f ≤ 16) (w : World) : Calls Tryz.prog 117 #[.agg (partC p), I (f : Int)] w fun e w' => e = .returned (.agg (partC (onS p f))) ∧ Ch [] w w' := by
  have HS := Lib.hid (on_some p f)
  have HB := Lib.hid (on_bad p f)
  have HG := Lib.hid (on_good p f)
  have HV := fun w => r22halves_any p w
  have F1 := fun n hn w => r22Full_any p n hn w
  have TY := Lib.hid (fun j hj h => told_yes (gotS p) j h 16 hj)
  have TN := Lib.hid (fun j h => told_no (gotS p) j 16 h)
  have TE : Hid (toldS (gotS p) 16 16 = []) := Lib.hid (toldS_low _ _ _ (Nat.le_refl _))
  obtain ⟨q, hq⟩ : ∃ q, onS p f = q := ⟨_, rfl⟩
  rw [hq] at HS HB HG ⊢
  clear hq
  obtain ⟨hv, hhv⟩ : ∃ v, halvesS p = v := ⟨_, rfl⟩
  rw [hhv] at HB HG HV
  clear hhv
  obtain ⟨tl, htl⟩ : ∃ t, toldS (gotS p) = t := ⟨_, rfl⟩
  rw [htl] at TY TN TE HS HB HG
  clear htl
  obtain ⟨fj, hfj⟩ : ∃ t, fullJ (gotS p) = t := ⟨_, rfl⟩
  rw [hfj] at F1 TY TN
  clear hfj
  obtain ⟨w0, hw0, C0, b0, z0⟩ := part_zz p w
  go_enter Tryz.func117, Tryz.ntmps117
  go_upto_region 1 with (fail)
  try rw [hw0]
  clear hw0
  obtain ⟨B, hB⟩ : ∃ B, w.heap.size = B := ⟨_, rfl⟩
  rw [hB] at b0 z0 ⊢
  have hBw : w.heap.size ≤ B := by omega
  clear hB
  go_wp2
  go_loopw [5] (fun i wr => ∃ m : Nat, i = .int .i64 m ∧ m ≤ 16 ∧ tl f 16 = tl m 16 ∧ wr.heap[B]? = some (.cells (partC p) 51 (0, 0)) ∧ wr.heap[B + 1]? = some (.cells (partC zeroPart) 51 (0, 0)) ∧ Ch [] w wr) (fun i _ => 16 - (intOf i).toNat)
  case atStart => exact ⟨f, rfl, hf, rfl, b0, z0, C0⟩
  case round =>
    obtain ⟨m, hm, hm16, ht, b1, z1, C1⟩ := hrel
    subst hm
    have HT := Lib.hid ht
    clear b0 z0 C0 ht
    rcases (show m = 16 ∨ m < 16 by omega) with rfl | hlt
    · clear HS TY TN F1
      have HE : Hid (tl f 16 = []) := Lib.hid (HT.out.trans TE.out)
      clear TE HT
      go_wp2_with fail
      refine (HV _).mono ?_
      rintro e w2 ⟨x, ok, rfl, hok, hno, hc2⟩
      have HO := Lib.hid hok
      have HN := Lib.hid hno
      have b2 := hkeep hc2 b1
      have z2 := hkeep hc2 z1
      have C2 := C1.trans hc2
      clear b1 z1 C1 hc2 HV hok hno
      have nb := nsz b2
      have nz : ¬ B + 1 = w2.heap.size := by have := zad z2; omega
      have hTB : B + 1 < w2.heap.size := zad z2
      go_upto_region 8 with (fail)
      have hc3 := t22_ch w2 zeroT2 x
      have t3 := t22_block w2 zeroT2 x
      have b3 := hkeep hc3 b2
      have z3 := hkeep hc3 z2
      have C3 := C2.trans hc3
      clear b2 z2 C2 hc3
      obtain ⟨w3, hw3⟩ : ∃ W, World.onObj (w2.alloc (.cells (t2cells zeroT2) 35)) w2.heap.size (laidAt 0 (t2cells x)) = W := ⟨_, rfl⟩
      rw [hw3] at t3 b3 z3 C3 ⊢
      clear hw3
      obtain ⟨T, hT⟩ : ∃ T, w2.heap.size = T := ⟨_, rfl⟩
      rw [hT] at t3 nb nz hTB ⊢
      clear hT
      cases ok with
      | false =>
        have HQ := Lib.hid (HB.out HE.out (HN.out (by simp)))
        clear HB HG HO HN HE
        go_wp2
        refine bodyPost_ret (zde Tryz.results117 _ (B + 1) _ { p with ph := 9 } rfl ?_) rfl ⟨by rw [HQ.out], (C3.setCell (p := ⟨B, 0, none⟩) (.inr hBw) _).onObj (p := B + 1) (.inr (by omega)) _⟩
        simp [go_sem, b3, z3]
      | true =>
        have HX := HO.out (by simp)
        have HQ := Lib.hid (HG.out (wordsS x) HE.out HX.1)
        have W1 : ∀ i, i < 2 → ∀ w, Calls Tryz.prog 182 #[.agg (tcells (halfOf x i))] w fun e w' => ∃ R c cur, e = .returned (.slice (some ⟨R, 0, none⟩) 40 c) ∧ (∀ k, k < 40 → cur[k]? = some (U (wordsS x (40 * i + k)))) ∧ w'.heap[R]? = some (.cells cur 22 (0, 0)) ∧ Ch [] w w' := fun i hi w => by
          have hfl : flatT (halfOf x i) = true := by
            unfold halfOf
            rcases (show i = 0 ∨ i = 1 by omega) with rfl | rfl
            · exact HX.2.1
            · exact HX.2.2
          refine (words22 _ hfl w).mono ?_
          rintro e w' ⟨R, c, cur, rfl, hcur, hR, hC⟩
          exact ⟨R, c, cur, rfl, fun k hk => by rw [← half_word x i k hi hk]; exact hcur k _ (twords_get _ k hk), hR, hC⟩
        have X1 := Lib.hid (fun i hi w => index_half x i hi w)
        have HP := Lib.hid (fun n i k y hk hi hn hx => putS_part p p.ws (wordsS x) n i k y hk hi hn hx)
        have HA := Lib.hid (putS_all p (wordsS x))
        have b4 : w3.heap[B]? = some (.cells (partC { p with ws := putS p.ws (wordsS x) 0 }) 51 (0, 0)) := by rw [putS_zero]; exact b3
        have B4 := Lib.hid b4
        clear HB HG HO HN HE HX
        obtain ⟨g, hg⟩ : ∃ g, wordsS x = g := ⟨_, rfl⟩
        rw [hg] at HQ W1 HP HA B4
        obtain ⟨tb, htb⟩ : ∃ t, halfOf x = t := ⟨_, rfl⟩
        rw [htb] at W1 X1
        clear hg htb b3 b4
        go_wp2
        go_loopw [34] (fun i wr => ∃ k : Nat, i = .int .i64 k ∧ k ≤ 2 ∧ wr.heap[B]? = some (.cells (partC { p with ws := putS p.ws g (40 * k) }) 51 (0, 0)) ∧ wr.heap[B + 1]? = some (.cells (partC zeroPart) 51 (0, 0)) ∧ Ch [] w wr) (fun i _ => 2 - (intOf i).toNat)
        case atStart => exact ⟨0, rfl, by omega, B4.out, z3, C3⟩
        case round =>
          obtain ⟨i, hi, hi2, b5, z5, C5⟩ := hrel
          subst hi
          clear B4 t3 z3 C3
          rcases (show i = 2 ∨ i < 2 by omega) with rfl | hlt2
          · rw [show 40 * 2 = 80 from rfl, HA.out] at b5
            clear W1 X1 HP HA
            go_wp2
            refine bodyPost_ret (zde Tryz.results117 _ (B + 1) _ { p with ws := g, ph := 5 } rfl ?_) rfl ⟨by rw [HQ.out], (C5.setCell (p := ⟨B, 0, none⟩) (.inr hBw) _).onObj (p := B + 1) (.inr (by omega)) _⟩
            simp [go_sem, b5, z5]
          · have hiI : (i : Int) < 2 := by omega
            have hi0 : (0 : Int) ≤ i := by omega
            have X2 := X1.out i hlt2
            have W2 := W1 i hlt2
            have b5h := Lib.hid b5
            have nb5 := nsz b5
            have nz5 : ¬ B + 1 = wr.heap.size := by have := zad z5; omega
            clear X1 W1 HA HQ
            obtain ⟨c5, hc5⟩ : ∃ c, partC { p with ws := putS p.ws g (40 * i) } = c := ⟨_, rfl⟩
            have HC5 := Lib.hid hc5
            rw [hc5] at b5
            clear hc5 b5h
            obtain ⟨ti, hti⟩ : ∃ t, tb i = t := ⟨_, rfl⟩
            rw [hti] at X2 W2
            clear hti
            go_upto_region 14 with (fail)
            have hc6 := tab22_ch wr zeroT ti
            have t6 := tab22_block wr zeroT ti
            have b6 := hkeep hc6 b5
            have z6 := hkeep hc6 z5
            have C6 := C5.trans hc6
            clear b5 z5 C5 hc6
            obtain ⟨w6, hw6⟩ : ∃ W, World.onObj (wr.alloc (.cells (tcells zeroT) 26)) wr.heap.size (laidAt 0 (tcells ti)) = W := ⟨_, rfl⟩
            rw [hw6] at t6 b6 z6 C6 ⊢
            clear hw6
            obtain ⟨E, hE⟩ : ∃ E, wr.heap.size = E := ⟨_, rfl⟩
            rw [hE] at t6 nb5 nz5 ⊢
            clear hE X2
            go_wp2_with fail
            refine (W2 _).mono ?_
            rintro e w7 ⟨R, c, cur, rfl, hcur, hR, hc7⟩
            have HCU := Lib.hid hcur
            have B7 : Hid (w7.heap[B]? = some (.cells (partC { p with ws := putS p.ws g (40 * i + 0) }) 51 (0, 0))) := Lib.hid (by rw [Nat.add_zero, HC5.out]; exact hkeep hc7 b6)
            have Z7 := Lib.hid (hkeep hc7 z6)
            have R7 := Lib.hid hR
            have C7 := Lib.hid (C6.trans hc7)
            clear b6 z6 t6 C6 hc7 W2 hcur hR HC5
            go_wp2
            go_loopw [41] (fun v wr => ∃ k : Nat, v = .int .i64 k ∧ k ≤ 40 ∧ wr.heap[B]? = some (.cells (partC { p with ws := putS p.ws g (40 * i + k) }) 51 (0, 0)) ∧ wr.heap[B + 1]? = some (.cells (partC zeroPart) 51 (0, 0)) ∧ wr.heap[R]? = some (.cells cur 22 (0, 0)) ∧ Ch [] w wr) (fun v _ => 40 - (intOf v).toNat)
            case atStart => exact ⟨0, rfl, by omega, B7.out, Z7.out, R7.out, C7.out⟩
            case round =>
              obtain ⟨k, hk, hk40, b8, z8, r8, C8⟩ := hrel
              subst hk
              clear B7 Z7 R7 C7
              by_cases hlt3 : k < 40
              · have hkI : (k : Int) < 40 := by omega
                have hk0 : (0 : Int) ≤ k := by omega
                have ek := HCU.out k hlt3
                have hRB : ¬ R = B := zcq r8 b8 (by decide)
                have hRB2 : ¬ B = R := fun e => hRB e.symm
                have hz : ¬ B + 1 = B := by omega
                have HN := Lib.hid (HP.out (40 * i + k) i k _ hlt3 hlt2 rfl rfl)
                obtain ⟨o1, ho1⟩ : ∃ v, (partC { p with ws := putS p.ws g (40 * i + k) })[43 + i * 40 + k]? = some v := ⟨_, by rw [show 43 + i * 40 + k = 43 + (40 * i + k) by omega]; exact part_gw _ _ (by omega)⟩
                obtain ⟨cp, hcp⟩ : ∃ c, partC { p with ws := putS p.ws g (40 * i + k) } = c := ⟨_, rfl⟩
                rw [hcp] at b8 HN ho1
                clear hcp HCU HP
                obtain ⟨xj, hxj⟩ : ∃ y, g (40 * i + k) = y := ⟨_, rfl⟩
                rw [hxj] at ek HN
                clear hxj
                go_wp2
                go_roundw
                case rel => exact ⟨k + 1, by go_num, hlt3, by rw [zaa, if_pos rfl, b8, Option.map_some, zaf, HN.out]; rfl, by rw [zaa, if_neg hz]; exact z8, by rw [zaa, if_neg hRB]; exact r8, C8.setCell (p := ⟨B, 43 + i * 40 + k, none⟩) (.inr hBw) _⟩
                case measure => simp [intOf]; omega
              · have hk4 : k = 40 := by omega
                subst hk4
                have B9 : Hid (wr.heap[B]? = some (.cells (partC { p with ws := putS p.ws g (40 * (i + 1)) }) 51 (0, 0))) := Lib.hid b8
                clear hlt3 HCU HP r8 b8
                go_wp2
                go_roundw
                case rel => exact ⟨i + 1, by go_num, by omega, B9.out, z8, C8⟩
                case measure => simp [intOf]; omega
    · clear HB HG HV TE
      have F2 := F1 m hlt
      have hmI : (m : Int) < 16 := by omega
      cases hfu : fj m with
      | false =>
        rw [hfu] at F2
        have HN : Hid (tl f 16 = tl (m + 1) 16) := Lib.hid (HT.out.trans (TN.out m hfu))
        clear hfu HT TN TY F1 HS
        go_wp2_with fail
        refine (F2 _).mono ?_
        rintro e w2 ⟨rfl, hc2⟩
        have b2 := hkeep hc2 b1
        have z2 := hkeep hc2 z1
        have C2 := C1.trans hc2
        clear b1 z1 C1 hc2 F2
        go_wp2
        go_roundw
        case rel => exact ⟨m + 1, by go_num, by omega, HN.out, b2, z2, C2⟩
        case measure => simp [intOf]; omega
      | true =>
        rw [hfu] at F2
        have HQ := Lib.hid (HS.out m (tl (m + 1) 16) (HT.out.trans (TY.out m hlt hfu)))
        clear hfu HT TN TY F1 HS
        go_wp2_with fail
        refine (F2 _).mono ?_
        rintro e w2 ⟨rfl, hc2⟩
        have b2 := hkeep hc2 b1
        have z2 := hkeep hc2 z1
        have C2 := C1.trans hc2
        clear b1 z1 C1 hc2 F2
        go_wp2
        refine bodyPost_ret (zde Tryz.results117 _ (B + 1) _ { p with at_ := (m : Int), ph := 3 } rfl ?_) rfl ⟨by rw [HQ.out], ((C2.setCell (p := ⟨B, 42, none⟩) (.inr hBw) _).setCell (p := ⟨B, 0, none⟩) (.inr hBw) _).onObj (p := B + 1) (.inr (by omega)) _⟩
        simp [go_sem, b2, z2]
end
end Go.Proofs.Hc
