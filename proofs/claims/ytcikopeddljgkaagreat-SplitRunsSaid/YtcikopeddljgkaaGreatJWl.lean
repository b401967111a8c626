/- Law 22: its arguments opened, own, and what the walks of SplitTakes and SplitRuns want. -/
import Derived.Test.YtcikopeddljgkaaGreatJUb
set_option linter.unusedSimpArgs false
set_option linter.unusedVariables false
set_option maxHeartbeats 1000000
set_option maxRecDepth 100000
namespace Go.Proofs.Hc
open Go.ChangeShapes Go.WideShapes Go.ChangeAt Go.RowKit
section
variable {H : Type} {enc : TypeId × Value → H} {w : World} {base : Nat} {spare : Nat → Bool} {held : Bool}
theorem cells_part : Tryz.prog.cellsOf 51 = 123 := by kernel_rfl
theorem rows_u64 {fuel : Nat} {cs : List Value} {x : DataW H × List MemPlace} (h : DataW.trod enc Tryz.prog w base spare held fuel 49 cs = some x) :
    ∀ i, i < 80 → ∃ m, cs[i]? = some (.int .u64 m) ∧ (Lit.int .u64 m).wf = true := by
  obtain ⟨xs, m, _, _, _, hl, hx⟩ := DataW.trod_array Tryz.underlying49 h
  intro i hi
  have h1 := hx (i / 40) (by omega)
  rw [c40s_cells, List.getElem?_eq_getElem (by omega)] at h1
  obtain ⟨k, hk, hw⟩ := row_u64 Tryz.underlying48 h1 (i % 40) (by omega)
  have hk := drop_take_get hk
  rw [show i / 40 * 40 + i % 40 = i by omega] at hk
  exact ⟨k, hk, hw⟩
theorem row_ints {fuel : Nat} {cs : List Value} {x : DataW H × List MemPlace} (h : DataW.trod enc Tryz.prog w base spare held fuel 45 cs = some x) :
    ∀ i, i < 2 → ∃ m, cs[i]? = some (I m) := by
  obtain ⟨xs, m, _, _, _, hl, hx⟩ := DataW.trod_array Tryz.underlying45 h
  intro i hi
  have h1 := hx i hi
  rw [cells_int, Nat.mul_one, List.getElem?_eq_getElem (by omega)] at h1
  obtain ⟨k, hk, _, hw⟩ := DataW.trod_int Tryz.underlying3 h1
  exact ⟨k, one_cell hk⟩
theorem part_cellsOf {fuel : Nat} {cs : List Value} {x : DataW H × List MemPlace} (h : DataW.trod enc Tryz.prog w base spare held fuel 51 cs = some x) : ∃ p : PartT, cs = (partC p).toList := by
  obtain ⟨xs, n, _, _, hlen, hxl, hx⟩ := DataW.trod_struct part_under h
  have rd := fields_at (n := n) (cs := cs) part_fields hxl hx
  have hlen := hlen.trans cells_part
  obtain ⟨y0, e0⟩ := rd 0 _ _ rfl
  obtain ⟨m0, h0, _⟩ := rd_int Tryz.underlying3 cells_int e0
  obtain ⟨y1, e1⟩ := rd 1 _ _ rfl
  obtain ⟨m1, h1, _⟩ := rd_int Tryz.underlying3 cells_int e1
  obtain ⟨y2, e2⟩ := rd 2 _ _ rfl
  obtain ⟨m2, h2, _⟩ := rd_int Tryz.underlying3 cells_int e2
  obtain ⟨y3, e3⟩ := rd 3 _ _ rfl
  have h3 := row_ints e3
  obtain ⟨y5, e5⟩ := rd 4 _ _ rfl
  obtain ⟨m5, h5, w5⟩ := rd_int Tryz.underlying22 cells_u64 e5
  obtain ⟨y6, e6⟩ := rd 5 _ _ rfl
  obtain ⟨m6, h6, w6⟩ := rd_int Tryz.underlying22 cells_u64 e6
  obtain ⟨y7, e7⟩ := rd 6 _ _ rfl
  obtain ⟨m7, h7, w7⟩ := rd_int Tryz.underlying22 cells_u64 e7
  obtain ⟨y8, e8⟩ := rd 7 _ _ rfl
  have h8 := row_u64 Tryz.underlying23 e8
  obtain ⟨y9, e9⟩ := rd 8 _ _ rfl
  have h9 := row_u64 Tryz.underlying24 e9
  obtain ⟨y10, e10⟩ := rd 9 _ _ rfl
  have h10 := row_u64 Tryz.underlying24 e10
  obtain ⟨y11, e11⟩ := rd 10 _ _ rfl
  obtain ⟨m11, h11, _⟩ := rd_int Tryz.underlying3 cells_int e11
  obtain ⟨y12, e12⟩ := rd 11 _ _ rfl
  have h12 := rows_u64 e12
  obtain ⟨m3, h3a⟩ := h3 0 (by omega)
  obtain ⟨m4, h3b⟩ := h3 1 (by omega)
  have h3a := drop_take_get h3a
  have h3b := drop_take_get h3b
  refine ⟨⟨m0, m1, m2, m3, m4, BitVec.ofInt 64 m5, BitVec.ofInt 64 m6, BitVec.ofInt 64 m7, fun j => BitVec.ofInt 64 (intAt cs (8 + j)), fun j => BitVec.ofInt 64 (intAt cs (10 + j)), fun j => BitVec.ofInt 64 (intAt cs (26 + j)), m11, fun j => BitVec.ofInt 64 (intAt cs (43 + j))⟩, ?_⟩
  apply List.ext_getElem?
  intro i
  have e : ∀ (q : PartT), (partC q).toList[i]? = if i < 123 then some (q.cell i) else none := fun q => by rw [Array.getElem?_toList, zdl]
  rw [e]
  clear e
  by_cases hi : i < 123
  · rw [if_pos hi]
    match i, hi with
    | 0, _ => exact h0
    | 1, _ => exact h1
    | 2, _ => exact h2
    | 3, _ => exact h3a
    | 4, _ => exact h3b
    | 5, _ => exact h5.trans (congrArg some (U_of w5).symm)
    | 6, _ => exact h6.trans (congrArg some (U_of w6).symm)
    | 7, _ => exact h7.trans (congrArg some (U_of w7).symm)
    | i + 8, hi =>
      show cs[i + 8]? = some (if i < 2 then U (BitVec.ofInt 64 (intAt cs (8 + i))) else if i < 18 then U (BitVec.ofInt 64 (intAt cs (10 + (i - 2)))) else if i < 34 then U (BitVec.ofInt 64 (intAt cs (26 + (i - 18)))) else if i < 35 then I m11 else U (BitVec.ofInt 64 (intAt cs (43 + (i - 35)))))
      by_cases a : i < 2
      · rw [if_pos a]
        obtain ⟨m, hm, hw⟩ := h8 i a
        have hm := drop_take_get hm
        rw [intAt_eq hm, U_of hw, Nat.add_comm]
        exact hm
      · rw [if_neg a]
        by_cases b : i < 18
        · rw [if_pos b]
          obtain ⟨m, hm, hw⟩ := h9 (i - 2) (by omega)
          have hm := drop_take_get hm
          rw [intAt_eq hm, U_of hw, show i + 8 = 10 + (i - 2) by omega]
          exact hm
        · rw [if_neg b]
          by_cases c : i < 34
          · rw [if_pos c]
            obtain ⟨m, hm, hw⟩ := h10 (i - 18) (by omega)
            have hm := drop_take_get hm
            rw [intAt_eq hm, U_of hw, show i + 8 = 26 + (i - 18) by omega]
            exact hm
          · rw [if_neg c]
            by_cases d : i < 35
            · rw [if_pos d]
              obtain rfl : i = 34 := by omega
              exact h11
            · rw [if_neg d]
              obtain ⟨m, hm, hw⟩ := h12 (i - 35) (by omega)
              have hm := drop_take_get hm
              rw [intAt_eq hm, U_of hw, show i + 8 = 43 + (i - 35) by omega]
              exact hm
  · rw [if_neg hi, List.getElem?_eq_none (by omega)]
theorem open_part {r : Reach} {b0 : Nat} {v : Value} {d : DataW H} {p : List MemPlace} (hv : Value.okWide Tryz.prog w r b0 51 v) (h : DataW.Trod enc Tryz.prog w base spare held 51 v d p) : ∃ q : PartT, v = .agg (partC q) := by
  obtain ⟨cs, rfl, hsz⟩ := okWide_struct part_under hv
  obtain ⟨fuel, hf⟩ := h
  have hf' : DataW.trod enc Tryz.prog w base spare held fuel 51 cs.toList = some (d, p) := hf
  obtain ⟨q, hq⟩ := part_cellsOf hf'
  exact ⟨q, congrArg Value.agg (Array.ext' hq)⟩
end
attribute [local go_sem] zbu zcc zax zbf zbo zbd zbn zbp zbw signed64 signed8 zap BitVec.ofInt_add BitVec.ofInt_mul ofInt_sub' zbb zbc wide8 eqN neN zca shr1 shr7 shr56
attribute [local go_sem high] zbe zbv
attribute [local go_sem] zaw zby zaj zas zaf zaz zar zak zbm zal zay zba
attribute [local go_sem] load26 load73 load23 store26 build73
attribute [local go_sem ↓] lrow26 lrow73 lrow23 srow26 zero26 brow73 zae zbk zbg zaa zab
attribute [local go_sem] zai zav zat zbj zbl zbr zaq zau zbs zbi zbh
attribute [local go_sem] nn2 nm2 nn3 nm3 nn4 nm4 nn5 nm5 nn6 nm6 nn7 nm7 nn8 nm8
attribute [local go_sem] nn2 nm2 nn3 nm3 nn4 nm4 nn5 nm5 nn6 nm6 nn7 nm7 nn8 nm8
attribute [local go_sem] Oper.semAt_some zao
theorem own22_some (l : List (BitVec 64)) (x : Addr) (n c : Nat) (w : World) (hn : n ≤ 9223372036854775807) (hc : n ≤ c) (hl : l.length = min n 180) (h : ∀ w', Ch [] w w' → ∀ j u, (l.map fun x => U x)[j]? = some u → w'.cell? (x.add j) = some u) :
    Calls Tryz.prog 23 #[.slice (some x) n c] w fun e w' => ∃ a' c', e = .returned (.slice a' l.length c') ∧ w'.ownsRow w.heap.size 22 1 (.slice a' l.length c') l.length (l.map fun x => U x) ∧ Ch [] w w' := by
  have K1 := fun (w' : World) (hw : Ch [] w w') => cloneWords_any l x c w' (by omega) (fun w'' h'' => h w'' (hw.trans h''))
  generalize hm : l.length = m at *
  have hm0 : (0 : Int) ≤ m := by omega
  have hmc : m ≤ c := by omega
  have hm200 : (m : Int) ≤ 180 := by omega
  have HK := Lib.hid K1
  have HM : Hid ((min (n : Int) 180).toNat = m) := Lib.hid (by omega)
  have hnc : (n : Int) ≤ c := by omega
  clear hl K1 hm h hn
  go_enter Tryz.func23, Tryz.ntmps23
  go_wp2_with fail
  rw [HM.out]
  refine (HK.out _ (Ch.refl _ _)).mono ?_
  rintro e w1 ⟨a', c', rfl, ho, hc1⟩
  have HO := Lib.hid ho
  clear ho
  go_wp2
  go_ret
  exact ⟨a', c', rfl, HO.out, hc1⟩
theorem own22_none (w : World) : Calls Tryz.prog 23 #[.slice none 0 0] w fun e w' => e = .returned (.slice none 0 0) ∧ w = w' := by
  have K1 := fun w => cloneWords_none 0 w
  go_enter Tryz.func23, Tryz.ntmps23
  go_wp2_with fail
  refine (K1 _).mono ?_
  rintro e w' ⟨rfl, rfl⟩
  go_wp2
  go_ret
  exact ⟨rfl, rfl⟩
theorem own22_words (a : Option Addr) (n c : Nat) (ks : Nat → BitVec 64) (w : World) (hn : n ≤ c) (hc : c ≤ 9223372036854775807) (ha : a = none → n = 0 ∧ c = 0) (h : KeysIn w a n ks) :
    Calls Tryz.prog 23 #[.slice a n c] w fun e w' => ∃ a' c', e = .returned (.slice a' (min n 180) c') ∧ w'.ownsRow w.heap.size 22 1 (.slice a' (min n 180) c') (min n 180) ((frontW ks (min n 180)).map fun x => U x) ∧ Ch [] w w' := by
  cases a with
  | none =>
    obtain ⟨rfl, rfl⟩ := ha rfl
    refine (own22_none w).mono ?_
    rintro e w' ⟨rfl, rfl⟩
    exact ⟨none, 0, rfl, World.ownsRow_nil _ _ _ _, Ch.refl _ _⟩
  | some x =>
    have := own22_some (frontW ks (min n 180)) x n c w (by omega) hn (by rw [frontW_len]) (by
      intro w' c1 j u hj
      have hlt := (List.getElem?_eq_some_iff.1 hj).1
      rw [List.length_map, frontW_len] at hlt
      obtain ⟨kb, ko, hka, hkb, hrow⟩ := h j (by omega)
      obtain rfl : x = ⟨kb, ko, none⟩ := by simpa using hka
      rw [List.getElem?_map] at hj
      unfold frontW at hj
      rw [List.getElem?_map, List.getElem?_range hlt] at hj
      have hj : U (ks j) = u := by simpa using hj
      subst hj
      have hadd : (⟨kb, ko, none⟩ : Addr).add j = ⟨kb, ko + j, none⟩ := by unfold Addr.add; split <;> simp_all
      rw [hadd, zaw, c1.block kb hkb (by simp)]
      exact hrow)
    rw [frontW_len] at this
    exact this
theorem own22_row (a : Option Addr) (n c : Nat) (ks : Nat → BitVec 64) (w : World) (hn : n ≤ c) (hc : c ≤ 9223372036854775807) (ha : a = none → n = 0 ∧ c = 0) (h : KeysIn w a n ks) (m : Nat) (hm : min n 180 = m) (h1 : 1 ≤ m) :
    Calls Tryz.prog 23 #[.slice a n c] w fun e w' => ∃ R c2 cur, e = .returned (.slice (some ⟨R, 0, none⟩) m c2) ∧ w.heap.size ≤ R ∧ WordsAt cur (frontW ks m) ∧ w'.heap[R]? = some (.cells cur 22 (0, 0)) ∧ Ch [] w w' := by
  refine (own22_words a n c ks w hn hc ha h).mono ?_
  rintro e w' ⟨a', c', rfl, ho, hC⟩
  rw [hm] at ho ⊢
  obtain ⟨R, c2, cur, hv, hR, _, hcur, hW⟩ := row_out (frontW_len ks m) h1 ho
  exact ⟨R, c2, cur, by rw [hv], hR, hcur, hW, hC⟩
theorem own22_empty (a : Option Addr) (n c : Nat) (ks : Nat → BitVec 64) (w : World) (hn : n ≤ c) (hc : c ≤ 9223372036854775807) (ha : a = none → n = 0 ∧ c = 0) (h : KeysIn w a n ks) (hm : min n 180 = 0) :
    Calls Tryz.prog 23 #[.slice a n c] w fun e w' => ∃ a' c', e = .returned (.slice a' 0 c') ∧ Ch [] w w' := by
  refine (own22_words a n c ks w hn hc ha h).mono ?_
  rintro e w' ⟨a', c', rfl, ho, hC⟩
  rw [hm]
  exact ⟨a', c', rfl, hC⟩
end Go.Proofs.Hc
namespace Go.Proofs.Hc
open Go.RowKit
theorem by_x (wh sl a b : Int) (sd : BitVec 64) : (#[I wh, I sl, I a, I b, U sd] : Array Value).extract 2 4 = #[I a, I b] := rfl
theorem by_world (wh sl a b : Int) (sd : BitVec 64) (s : PartT) (w : World) : ∃ W, (w.alloc (.cells #[I wh, I sl, I a, I b, U sd] 47)).alloc (.cells (partC s) 51) = W ∧ Ch [] w W ∧ W.heap[w.heap.size]? = some (.cells #[I wh, I sl, I a, I b, U sd] 47 (0, 0)) ∧ W.heap[w.heap.size + 1]? = some (.cells (partC s) 51 (0, 0)) :=
  ⟨_, rfl, ((Ch.refl [] w).alloc _).alloc _, by rw [zae, if_neg (by simp), zae, if_pos rfl], by rw [zae, if_pos (by simp)]⟩
theorem box_by22 (xs : Array Value) (w : World) : (Instr.box 47 (.agg xs)).run Tryz.prog w = .ok (.pointer (some ⟨w.heap.size, 0, none⟩)) (w.alloc (.cells xs 47)) := rfl
def twoP (a b : PartT) : Array Value := partC a ++ partC b
theorem brow_2p (ps : Array (Nat × Value)) : Instr.build 56 ps = buildRow 56 ps := rfl
theorem build_2p (a b : PartT) (w : World) : (buildRow 56 #[(0, .agg (partC a)), (1, .agg (partC b))]).run Tryz.prog w = .ok (.agg (twoP a b)) w := by kernel_rfl
theorem index_2p0 (a b : PartT) (w : World) : (Instr.index 56 (.agg (twoP a b)) (.int .i64 0)).run Tryz.prog w = .ok (.agg (partC a)) w := by kernel_rfl
theorem index_2p1 (a b : PartT) (w : World) : (Instr.index 56 (.agg (twoP a b)) (.int .i64 1)).run Tryz.prog w = .ok (.agg (partC b)) w := by kernel_rfl
def nthP (a b : PartT) (i : Nat) : PartT := if i = 0 then a else b
theorem index_2p (a b : PartT) (i : Nat) (hi : i < 2) (w : World) : (Instr.index 56 (.agg (twoP a b)) (.int .i64 (i : Int))).run Tryz.prog w = .ok (.agg (partC (nthP a b i))) w := by
  rcases (show i = 0 ∨ i = 1 by omega) with rfl | rfl
  · exact index_2p0 a b w
  · exact index_2p1 a b w
theorem begin22_ok {wh sl a b : Int} (w0 : 0 ≤ wh) (w7 : wh < 8) (hs : slabsS sl a b = true) (sd : BitVec 64) : begin22E wh sl a b sd = .ok (firstP22 wh sl a b sd) := by
  obtain ⟨h1, h2, h3, h4, h5, h6⟩ := (slabsS_iff _ _ _).1 hs
  unfold begin22E
  rw [if_pos ((zdk _).2 ⟨by show (0 : Int) ≤ 0; decide, by show (0 : Int) ≤ 9; decide, w0, w7, h1.1, h1.2, h2.1, h2.2, h3.1, h3.2, h4, h5, h6, (by show oddB 0#64 = false; decide), fun h => absurd h (show ¬ (0 : Int) = 2 by decide), fun h => absurd h (show ¬ ((0 : Int) = 3 ∨ (0 : Int) = 4) by decide), fun h => absurd h (show ¬ (0 : Int) = 6 by decide)⟩)]
theorem begin22_no {wh sl a b : Int} (h : wh < 0 ∨ 8 ≤ wh ∨ slabsS sl a b = false) (sd : BitVec 64) : begin22E wh sl a b sd = .error 2 := by
  unfold begin22E
  rw [if_neg]
  intro hr
  have R := (zdk _).1 hr
  have e0 : (0 : Int) ≤ wh := R.who0
  have e7 : wh < 8 := R.who7
  rcases h with h | h | h
  · omega
  · omega
  · have : slabsS sl a b = true := (slabsS_iff _ _ _).2 ⟨⟨R.sl0, R.sl1⟩, ⟨R.a0, R.a1⟩, ⟨R.b0, R.b1⟩, R.sa, R.sb, R.ab⟩
    rw [h] at this; cases this
theorem run22_exists {l : List (BitVec 64)} {p : PartT} {n : Nat} (hn : l.length = n) (hr : rightS p = true) (hT : thereB n p = true) : ∃ k l' p', k ≤ 117 ∧ RunsS l p k l' p' ∧ l'.length = n := by
  have R := (zdk p).1 hr
  obtain ⟨k, l', p', hk, hrun, hl⟩ := runsS_any (measS p) l p (Nat.le_refl _) R (by rw [hn]; exact (thereB_iff n p).1 hT)
  exact ⟨k, l', p', by have := measS_le R; omega, hrun, hl.trans hn⟩
theorem s22Run_short {a : Option Addr} {n c : Nat} {p : PartT} (h1 : 1 ≤ n) (h2 : n ≤ 8192) (hr : rightS p = true) (hT : thereB n p = false) (w : World) : Calls Tryz.prog 26 #[.slice a n c, .agg (partC p)] w fun e w' => e = .returned (.tuple #[.slice none 0 0, .agg (partC zeroPart), I 0, I 2]) ∧ Ch [] w w' := by
  have hn : (decide (1 ≤ n) && decide (n ≤ 8192)) = true := by rw [decide_eq_true h1, decide_eq_true h2]; rfl
  by_cases h0 : 56 + 40 * p.sl ≤ (n : Int)
  · by_cases ha : 56 + 40 * p.t0 ≤ (n : Int)
    · by_cases hb : 56 + 40 * p.t1 ≤ (n : Int)
      · exfalso
        have : thereB n p = true := (thereB_iff n p).2 ⟨h0, ha, hb⟩
        rw [hT] at this; cases this
      · exact s22Run_short2 a n c p hn hr h0 ha (by omega) w
    · exact s22Run_short1 a n c p hn hr h0 (by omega) w
  · exact s22Run_short0 a n c p hn hr (by omega) w
end Go.Proofs.Hc
