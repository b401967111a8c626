/- The reference of layer 3: Takes, Call, Right. -/
import Derived.Test.YtfoicjijngfhbaaGreatDoorKBc
import Derived.Test.YtfoicjijngfhbaaGreatDoorKBf
import Derived.Test.YtfoicjijngfhbaaGreatDoorKBh
import Derived.Test.YtfoicjijngfhbaaGreatDoorKBk
import Derived.Test.YtfoicjijngfhbaaGreatDoorKBo
import Derived.Test.YtfoicjijngfhbaaGreatDoorKBr
import Derived.Test.YtfoicjijngfhbaaGreatDoorKDa
import Derived.Test.YtfoicjijngfhbaaGreatDoorKEf
import Derived.Test.YtfoicjijngfhbaaGreatDoorKEk
import Derived.Test.YtfoicjijngfhbaaGreatDoorKHm
import Derived.Test.YtfoicjijngfhbaaGreatDoorKHr
import Derived.Below
import Derived.BigQuiet
import Derived.Deep.Cut
import Derived.Deep.Draws
import Derived.Deep.QuietTactic
import Derived.Deep.RegionHeld
import Derived.Laws.AppendOwn
import Derived.Laws.CopyRow
import Derived.Laws.EntriesVeiled
import Derived.Laws.Tables
import Derived.Lib.AppendZerosOnto
import Derived.Lib.Hide
import Derived.LoopIn
import Derived.LoopNIn
import Derived.Maps.RangeWalk
import Derived.Maps.Views
import Derived.OwnWalkIn
import Derived.RangeFuncCalls
import Derived.RangeFuncRecord
import Derived.RangeFuncSeq
import Derived.Recover
import Derived.TacticsInMore
import Derived.Test.YtfoicjijngfhbaaGreatDoorProg
import Derived.WalkKit
import Derived.WalkLawsBesides
set_option linter.unusedSimpArgs false
set_option linter.unusedVariables false
namespace Go.Proofs.Hc
open Go.RowKit
set_option linter.unusedVariables false
set_option linter.unusedSimpArgs false
attribute [local go_sem] wrap_u64 wrap_u8 bits_xor64 bits_and64 bits_or64 bits_not64 bits_xor8 bits_and8 bits_or8 signed64 signed8 ofInt_N BitVec.ofInt_add BitVec.ofInt_mul ofInt_sub' ofInt8_N64 ofInt64_N8 wide8 eqN neN shr_pow shr1 shr7 shr56
attribute [local go_sem high] bits_com64 shl_wrap
attribute [local go_sem] nn2 nm2 nn3 nm3 nn4 nm4 nn5 nm5 nn6 nm6 nn7 nm7 nn8 nm8
attribute [local go_sem] Oper.semAt_some make_func1 make_funcB
attribute [local go_sem] cell_heap ice_heap cellAt_cells iceAt_cells setAt_cells size_setCell rowAt_cells canLay_cells laidAt_cells size_onObj rowRes_some layRes_true
attribute [local go_sem ↓] heap_alloc heap_drew heap_drewN heap_setCell heap_putObj heap_onObj
attribute [local go_sem] loadS box_sc loadC storeC oneC zeroCall_size box_call
attribute [local go_sem ↓] lrowS lrowC srowC zeroC
theorem rTakes3_any (op : Int) (w : World) : Calls Tryz.prog 49 #[I op] w fun e w' => e = .returned (I (takesE op)) ∧ w = w' := by
  rcases (show op = 1 ∨ op = 2 ∨ op = 3 ∨ op = 4 ∨ op = 5 ∨ op = 6 ∨ op = 7 ∨ (¬ op = 1 ∧ ¬ op = 2 ∧ ¬ op = 3 ∧ ¬ op = 4 ∧ ¬ op = 5 ∧ ¬ op = 6 ∧ ¬ op = 7) by omega) with rfl | rfl | rfl | rfl | rfl | rfl | rfl | ⟨h1, h2, h3, h4, h5, h6, h7⟩
  · go_enter Tryz.func49, Tryz.ntmps49
    go_wp2
    go_ret
    exact ⟨rfl, rfl⟩
  · go_enter Tryz.func49, Tryz.ntmps49
    go_wp2
    go_ret
    exact ⟨rfl, rfl⟩
  · go_enter Tryz.func49, Tryz.ntmps49
    go_wp2
    go_ret
    exact ⟨rfl, rfl⟩
  · go_enter Tryz.func49, Tryz.ntmps49
    go_wp2
    go_ret
    exact ⟨rfl, rfl⟩
  · go_enter Tryz.func49, Tryz.ntmps49
    go_wp2
    go_ret
    exact ⟨rfl, rfl⟩
  · go_enter Tryz.func49, Tryz.ntmps49
    go_wp2
    go_ret
    exact ⟨rfl, rfl⟩
  · go_enter Tryz.func49, Tryz.ntmps49
    go_wp2
    go_ret
    exact ⟨rfl, rfl⟩
  · have e : takesE op = -1 := by
      unfold takesE
      split
      · next h =>
        have : op = 0 := by omega
        rw [this]
        rfl
      · rfl
    have b1 : (op == 1) = false := by simpa using h1
    have b2 : (op == 2) = false := by simpa using h2
    have b3 : (op == 3) = false := by simpa using h3
    have b4 : (op == 4) = false := by simpa using h4
    have b5 : (op == 5) = false := by simpa using h5
    have b6 : (op == 6) = false := by simpa using h6
    have b7 : (op == 7) = false := by simpa using h7
    rw [e]
    clear h1 h2 h3 h4 h5 h6 h7 e
    go_enter Tryz.func49, Tryz.ntmps49
    go_wp2
    go_ret
    exact ⟨rfl, rfl⟩
theorem zeroN (k : BitVec 64) : (N k == 0) = decide (k = 0#64) := by
  rw [Bool.eq_iff_iff, beq_iff_eq, decide_eq_true_iff]
  exact N_inj k 0#64
theorem rightC_eq (op : Int) (k x y : BitVec 64) : rightC op k x y = (decide (0 ≤ takesE op) && (decide (1 ≤ takesE op) || (N k == 0)) && (decide (2 ≤ takesE op) || (N x == 0)) && (decide (3 ≤ takesE op) || (N y == 0))) := by
  unfold rightC
  rw [zeroN, zeroN, zeroN]
  rcases takesE_is op with e | e | e | e | e <;> rw [e]
  · rfl
  · rw [Bool.eq_iff_iff]
    simp only [Bool.and_eq_true, Bool.or_eq_true, decide_eq_true_eq]
    constructor
    · rintro ⟨-, h⟩
      exact ⟨⟨⟨by decide, .inr (h 0 (by decide))⟩, .inr (h 1 (by decide))⟩, .inr (h 2 (by decide))⟩
    · rintro ⟨⟨⟨-, h1 | h1⟩, h2 | h2⟩, h3 | h3⟩ <;> first | (exfalso; omega) | skip
      refine ⟨by decide, fun i hi => ?_⟩
      have hi : i < 3 := hi
      rcases (show i = 0 ∨ i = 1 ∨ i = 2 by omega) with rfl | rfl | rfl
      · exact h1
      · exact h2
      · exact h3
  · rw [Bool.eq_iff_iff]
    simp only [Bool.and_eq_true, Bool.or_eq_true, decide_eq_true_eq]
    constructor
    · rintro ⟨-, h⟩
      exact ⟨⟨⟨by decide, .inl (by decide)⟩, .inr (h 0 (by decide))⟩, .inr (h 1 (by decide))⟩
    · rintro ⟨⟨⟨-, -⟩, h2 | h2⟩, h3 | h3⟩ <;> first | (exfalso; omega) | skip
      refine ⟨by decide, fun i hi => ?_⟩
      have hi : i < 2 := hi
      rcases (show i = 0 ∨ i = 1 by omega) with rfl | rfl
      · exact h2
      · exact h3
  · rw [Bool.eq_iff_iff]
    simp only [Bool.and_eq_true, Bool.or_eq_true, decide_eq_true_eq]
    constructor
    · rintro ⟨-, h⟩
      exact ⟨⟨⟨by decide, .inl (by decide)⟩, .inl (by decide)⟩, .inr (h 0 (by decide))⟩
    · rintro ⟨⟨⟨-, -⟩, -⟩, h3 | h3⟩ <;> first | (exfalso; omega) | skip
      refine ⟨by decide, fun i hi => ?_⟩
      have hi : i < 1 := hi
      obtain rfl : i = 0 := by omega
      exact h3
  · rw [Bool.eq_iff_iff]
    simp only [Bool.and_eq_true, Bool.or_eq_true, decide_eq_true_eq]
    exact ⟨fun _ => ⟨⟨⟨by decide, .inl (by decide)⟩, .inl (by decide)⟩, .inl (by decide)⟩, fun _ => ⟨by decide, fun i hi => absurd hi (by simp)⟩⟩
set_option maxHeartbeats 4000000 in
theorem rCall3_any (c : CallT) (w : World) : Calls Tryz.prog 30 #[.agg #[I c.op, U c.k, U c.x, U c.y]] w fun e w' => e = .returned (.bool c.right) ∧ Ch [] w w' := by
  obtain ⟨op, k, x, y⟩ := c
  show Calls Tryz.prog _ #[.agg #[I op, U k, U x, U y]] w fun e w' => e = .returned (.bool (rightC op k x y)) ∧ Ch [] w w'
  obtain ⟨W, hW, C, hB⟩ := callbox op k x y w
  have T1 := fun w => rTakes3_any op w
  rw [rightC_eq]
  obtain ⟨bk, hbk⟩ : ∃ b, (N k == 0) = b := ⟨_, rfl⟩
  obtain ⟨bx, hbx⟩ : ∃ b, (N x == 0) = b := ⟨_, rfl⟩
  obtain ⟨by', hby⟩ : ∃ b, (N y == 0) = b := ⟨_, rfl⟩
  rw [hbk, hbx, hby]
  obtain ⟨B, hBe⟩ : ∃ B, w.heap.size = B := ⟨_, rfl⟩
  rw [hBe] at hB
  rcases takesE_is op with e | e | e | e | e
  all_goals
    rw [e] at T1 ⊢
    clear e
    cases bk <;> cases bx <;> cases by'
  all_goals
    go_enter Tryz.func30, Tryz.ntmps30
    go_upto_region 1 with (fail)
    try rw [hW]
    try rw [hBe]
    clear hW hBe
    go_wp2_with (go_at_call 49; refine (T1 _).mono ?_; rintro e w' ⟨rfl, rfl⟩)
    go_ret
    exact ⟨rfl, C⟩
set_option maxHeartbeats 4000000 in
set_option maxRecDepth 100000 in
theorem rRight3_size (s : ScT) (w : World) (h : ¬ sizeSc s) : Calls Tryz.prog 8 #[.agg (scC s)] w fun e w' => e = .returned (.bool false) ∧ Ch [] w w' := by
  obtain ⟨W, hW, C, hB⟩ := scbox s w
  unfold sizeSc at h
  obtain ⟨g, sl, sd, la, lc, ls, pa, pn, pc⟩ := s
  dsimp only at h
  unfold scC at hB hW ⊢
  dsimp only at hB hW ⊢
  obtain ⟨n, hn⟩ : ∃ n, ls.length = n := ⟨_, rfl⟩
  obtain ⟨aa, haa⟩ : ∃ a, adr la = a := ⟨_, rfl⟩
  rw [hn, haa] at hB hW ⊢
  rw [hn] at h
  obtain ⟨B, hBe⟩ : ∃ B, w.heap.size = B := ⟨_, rfl⟩
  rw [hBe] at hB
  clear hn haa
  rcases (show g < 1 ∨ (¬ g < 1 ∧ (8 < g ∨ (¬ 8 < g ∧ (sl < 2 ∨ (¬ sl < 2 ∧ (128 < sl ∨ (¬ 128 < sl ∧ (¬ (n : Int) = g ∨ ((n : Int) = g ∧ (4096 : Int) < pn))))))))) by omega) with h1 | ⟨h1, h2 | ⟨h2, h3 | ⟨h3, h4 | ⟨h4, h5 | ⟨h5, h6⟩⟩⟩⟩⟩
  all_goals
    first
      | (have e5 : ((n : Int) != g) = true := by simpa using h5)
      | (subst h5)
      | skip
    clear h
    go_enter Tryz.func8, Tryz.ntmps8
    go_upto_region 1 with (fail)
    try rw [hW]
    try rw [hBe]
    clear hW hBe
    go_wp2
    go_ret
    exact ⟨rfl, C⟩
set_option maxHeartbeats 4000000 in
set_option maxRecDepth 100000 in
theorem rRight3_any (s : ScT) (w : World) (R : AnySc w s) : Calls Tryz.prog 8 #[.agg (scC s)] w fun e w' => e = .returned (.bool (checkB s)) ∧ Ch [] w w' := by
  by_cases hs : sizeSc s
  rotate_left
  · have : checkB s = false := by unfold checkB; rw [decide_eq_false hs]; rfl
    rw [this]
    exact rRight3_size s w hs
  have hck : checkB s = (decide ((catL s.ls).length ≤ 64) && (catL s.ls).all CallT.right) := by unfold checkB; rw [decide_eq_true hs]; rfl
  obtain ⟨W, hW, C, hB⟩ := scbox s w
  obtain ⟨g1, g8, s2, s128, hlen, pn⟩ := hs
  obtain ⟨L, o, hla, hls⟩ : ∃ L o, s.la = some (L, o) ∧ ListsAt w L o s.ls := by
    rcases R.lists with ⟨_, h0⟩ | h
    · rw [h0] at hlen
      simp at hlen
      omega
    · exact h
  have hfew := R.few
  clear R
  have HLS := Lib.hid hls
  clear hls
  obtain ⟨res, hres⟩ : ∃ b, checkB s = b := ⟨_, rfl⟩
  rw [hres] at hck ⊢
  obtain ⟨g, sl, sd, la, lc, ls, pa, pn', pc⟩ := s
  dsimp only at *
  subst hla
  unfold scC at hB hW ⊢
  dsimp only [adr] at hB hW ⊢
  obtain ⟨n, hn⟩ : ∃ n, ls.length = n := ⟨_, rfl⟩
  rw [hn] at hB hW hlen ⊢
  obtain ⟨B, hBe⟩ : ∃ B, w.heap.size = B := ⟨_, rfl⟩
  rw [hBe] at hB
  have hne : ((n : Int) != g) = false := by simpa using hlen
  have k1 : ¬ g < 1 := by omega
  have k2 : ¬ 8 < g := by omega
  have k3 : ¬ sl < 2 := by omega
  have k4 : ¬ 128 < sl := by omega
  have k5 : ¬ (4096 : Int) < pn' := by omega
  have hn8 : n ≤ 8 := by omega
  have HN := Lib.hid hn
  have HCK := Lib.hid hck
  have HFEW := Lib.hid hfew
  clear hn hck hfew hres hlen
  go_enter Tryz.func8, Tryz.ntmps8
  go_upto_region 1 with (fail)
  try rw [hW]
  try rw [hBe]
  clear hW hBe
  go_wp2
  go_loopw [43, 3] (fun i v wr => ∃ j : Nat, i = I j ∧ j ≤ n ∧ v = I (catL (ls.take j)).length ∧ (catL (ls.take j)).all CallT.right = true ∧ Ch [] w wr) (fun i _ _ => n - (intOf i).toNat)
  case atStart => exact ⟨0, rfl, by omega, rfl, rfl, C⟩
  case round =>
    obtain ⟨j, hi, hj, hv, hall, c1⟩ := hrel
    subst hi hv
    clear C hB
    rcases (show j = n ∨ j < n by omega) with rfl | hlt
    · rw [List.take_of_length_le (by have := HN.out; omega)] at hall ⊢
      have HE := Lib.hid (show res = decide ((catL ls).length ≤ 64) by rw [HCK.out, hall, Bool.and_true])
      obtain ⟨m, hm⟩ : ∃ m, (catL ls).length = m := ⟨_, rfl⟩
      rw [hm] at HE ⊢
      have hmi : decide ((m : Int) ≤ 64) = decide (m ≤ 64) := decide_eq_decide.2 (by omega)
      clear hall hm
      go_wp2
      go_ret
      exact ⟨by rw [HE.out, ← hmi]; rfl, c1⟩
    · obtain ⟨s, hs⟩ : ∃ s, ls[j]? = some s := ⟨_, List.getElem?_eq_getElem (by have := HN.out; omega)⟩
      have hLr := And.intro ((HLS.out.ch c1) j s hs).1 (HLS.out j s hs).2
      have hcl := catL_take_le ls (j + 1)
      have E1 : catL (ls.take (j + 1)) = catL (ls.take j) ++ s.l := by rw [take_snoc hs, catL_snoc]
      rw [E1, List.length_append] at hcl
      have hsub : ∀ c, c ∈ s.l → c ∈ catL ls := fun c hc => by
        unfold catL
        exact List.mem_flatMap.2 ⟨s, List.mem_of_getElem? hs, hc⟩
      obtain ⟨q0, hq0⟩ : ∃ q, catL (ls.take j) = q := ⟨_, rfl⟩
      rw [hq0] at hall E1 hcl ⊢
      obtain ⟨ql, hql⟩ : ∃ n, q0.length = n := ⟨_, rfl⟩
      rw [hql] at hcl ⊢
      obtain ⟨sa, sc, sl'⟩ := s
      dsimp only [ListT.val] at hLr hcl E1 hsub
      obtain ⟨hcell, hrow⟩ := hLr
      rw [cell_heap] at hcell
      obtain ⟨m, hm⟩ : ∃ m, sl'.length = m := ⟨_, rfl⟩
      rw [hm] at hcell hcl
      have hbig : ql + m ≤ 1048576 := Nat.le_trans hcl HFEW.out
      have HE := Lib.hid E1
      have HSUB := Lib.hid hsub
      have HALL := Lib.hid hall
      have HQL := Lib.hid hql
      have hjn : (j : Int) < n := by omega
      clear hs hq0 E1 hsub hall hql hcl
      rcases hrow with hl0 | ⟨xb, xo, hsa, hrow⟩
      · try dsimp only at hl0
        subst hl0
        have hm0 : m = 0 := hm.symm
        subst hm0
        rw [List.append_nil] at HE
        have HC1 := Lib.hid c1
        clear c1 hm
        go_wp2
        refine wp_loop_rounds 1 ?_
        rw [rounds_succ]
        go_wp2
        go_roundw
        case rel => exact ⟨j + 1, by go_num, by omega, by rw [HE.out, HQL.out], by rw [HE.out]; exact HALL.out, HC1.out⟩
        case measure => simp [intOf]; omega
      · try dsimp only at hsa
        subst hsa
        have HRW := Lib.hid (fun wr2 (c : Ch [] w wr2) q c' hq => row_in (w := wr2) (b := xb) (o := xo) (i := q) (c := c') (RowIn.ch hrow c) hq)
        obtain ⟨W1, hW1⟩ : ∃ W, wr = W := ⟨_, rfl⟩
        rw [hW1] at c1 hcell ⊢
        clear hrow hW1
        go_wp2
        clear hcell
        go_loopw [49, 3] (fun i v wr => ∃ q : Nat, i = I q ∧ q ≤ m ∧ v = I (ql + q : Nat) ∧ (sl'.take q).all CallT.right = true ∧ Ch [] w wr) (fun i _ _ => m - (intOf i).toNat)
        case atStart => exact ⟨0, rfl, by omega, rfl, rfl, c1⟩
        case round =>
          obtain ⟨q, hi, hq, hv, hall, c2⟩ := hrel
          subst hi hv
          clear c1
          rcases (show q = m ∨ q < m by omega) with rfl | hlt2
          · have e : sl'.take q = sl' := List.take_of_length_le (by omega)
            rw [e] at hall
            have HA2 := Lib.hid hall
            have HC2 := Lib.hid c2
            have hm' := Lib.hid hm
            clear hall c2 hm e
            go_wp2
            go_roundw
            case rel => exact ⟨j + 1, by go_num, by omega, by rw [HE.out, List.length_append, HQL.out, hm'.out], by rw [HE.out, List.all_append, HALL.out, HA2.out]; rfl, HC2.out⟩
            case measure => simp [intOf]; omega
          · obtain ⟨c, hc⟩ : ∃ c, sl'[q]? = some c := ⟨_, List.getElem?_eq_getElem (by omega)⟩
            have hr4 := HRW.out wr c2 q c hc
            have hqm : (q : Int) < m := by omega
            have one := oneC c.op c.k c.x c.y
            have htk : (sl'.take (q + 1)).all CallT.right = ((sl'.take q).all CallT.right && c.right) := by rw [take_snoc hc, List.all_append]; simp
            rw [hall, Bool.true_and] at htk
            have HTK := Lib.hid htk
            have HCM := Lib.hid (HSUB.out c (List.mem_of_getElem? hc))
            have HM2 := Lib.hid hm
            have HC2 := Lib.hid c2
            clear hc hm c2 htk hall
            go_upto_region 10 with (fail)
            have hcz := call_put_ch #[I c.op, U c.k, U c.x, U c.y] wr
            have hV := call_put c.op c.k c.x c.y wr
            have C3 := HC2.out.trans hcz
            obtain ⟨w3, hw3⟩ : ∃ W, World.onObj (wr.alloc (.cells zeroCall 44)) wr.heap.size (laidAt 0 #[I c.op, U c.k, U c.x, U c.y]) = W := ⟨_, rfl⟩
            rw [hw3] at hV C3 ⊢
            obtain ⟨V, hVe⟩ : ∃ b, wr.heap.size = b := ⟨_, rfl⟩
            rw [hVe] at hV ⊢
            have K1 := rCall3_any c w3
            obtain ⟨cb, hcb⟩ : ∃ b, c.right = b := ⟨_, rfl⟩
            rw [hcb] at K1 HTK
            have HCB := Lib.hid hcb
            clear hw3 hVe hcz hr4 one hcb
            cases cb with
            | true =>
              go_wp2_with fail
              refine K1.mono ?_
              rintro e w4 ⟨rfl, hc4⟩
              have C4 := C3.trans hc4
              clear K1 C3 hV hc4
              go_wp2
              go_roundw
              case rel => exact ⟨q + 1, by go_num, by omega, by go_num, HTK.out, C4⟩
              case measure => simp [intOf]; omega
            | false =>
              have hno : res = false := by
                rw [HCK.out]
                cases hh : (catL ls).all CallT.right with
                | false => rw [Bool.and_false]
                | true =>
                  have := List.all_eq_true.1 hh c HCM.out
                  rw [HCB.out] at this
                  cases this
              have HNO := Lib.hid hno
              clear hno
              go_wp2_with fail
              refine K1.mono ?_
              rintro e w4 ⟨rfl, hc4⟩
              have C4 := C3.trans hc4
              clear K1 C3 hV hc4
              go_wp2
              go_ret
              exact ⟨by rw [HNO.out]; rfl, C4⟩
end Go.Proofs.Hc
