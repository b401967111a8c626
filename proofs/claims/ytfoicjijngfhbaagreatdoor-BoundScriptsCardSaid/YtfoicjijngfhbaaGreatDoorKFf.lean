/- The reference 29: Comes (printed by gen_comes29.py). -/
import Derived.Test.YtfoicjijngfhbaaGreatDoorKBc
import Derived.Test.YtfoicjijngfhbaaGreatDoorKBd
import Derived.Test.YtfoicjijngfhbaaGreatDoorKBf
import Derived.Test.YtfoicjijngfhbaaGreatDoorKBk
import Derived.Test.YtfoicjijngfhbaaGreatDoorKBo
import Derived.Test.YtfoicjijngfhbaaGreatDoorKBr
import Derived.Test.YtfoicjijngfhbaaGreatDoorKBu
import Derived.Test.YtfoicjijngfhbaaGreatDoorKDa
import Derived.Test.YtfoicjijngfhbaaGreatDoorKDf
import Derived.Test.YtfoicjijngfhbaaGreatDoorKDn
import Derived.Test.YtfoicjijngfhbaaGreatDoorKEf
import Derived.Test.YtfoicjijngfhbaaGreatDoorKEk
import Derived.Test.YtfoicjijngfhbaaGreatDoorKFb
import Derived.Test.YtfoicjijngfhbaaGreatDoorKFe
import Derived.Test.YtfoicjijngfhbaaGreatDoorKHm
import Derived.Test.YtfoicjijngfhbaaGreatDoorKHr
import Derived.Below
import Derived.BigQuiet
import Derived.Deep.Cut
import Derived.Deep.CutRange
import Derived.Deep.Draws
import Derived.Deep.OwnRows
import Derived.Deep.QuietTactic
import Derived.Deep.RegionHeld
import Derived.Laws.AppendOwn
import Derived.Laws.Bits64
import Derived.Laws.Bits64b
import Derived.Laws.CopyOwn
import Derived.Laws.CopyRow
import Derived.Laws.EntriesVeiled
import Derived.Laws.IdiomCopy
import Derived.Laws.Tables
import Derived.Lib.AppendZerosOnto
import Derived.Lib.BitFns
import Derived.Lib.Hide
import Derived.Lib.Slices
import Derived.Lib.Small
import Derived.Lib.Strings
import Derived.Lib.Tables
import Derived.Lib.Walk
import Derived.LoopIn
import Derived.LoopNIn
import Derived.Maps.RangeWalk
import Derived.Maps.Views
import Derived.OwnWalkIn
import Derived.RangeFuncCalls
import Derived.RangeFuncRecord
import Derived.RangeFuncSeq
import Derived.Recover
import Derived.Sort.AssemblyPlain
import Derived.Sort.Defs
import Derived.Sort.LotC
import Derived.Sort.LotD1
import Derived.Sort.LotD5
import Derived.Sort.LotD6
import Derived.Sort.Walk13a
import Derived.StillTail
import Derived.TacticsInMore
import Derived.Test.YtfoicjijngfhbaaGreatDoorProg
import Derived.WalkKit
import Derived.WalkLawsBesides
set_option linter.unusedSimpArgs false
set_option linter.unusedVariables false
namespace Go.Proofs.Hc
open Go.RowKit
set_option linter.unusedVariables false
set_option linter.unusedSimpArgs false
attribute [local go_sem] wrap_u64 wrap_u8 bits_xor64 bits_and64 bits_or64 bits_not64 bits_xor8 bits_and8 bits_or8 signed64 signed8 ofInt_N BitVec.ofInt_add BitVec.ofInt_mul ofInt_sub' ofInt8_N64 ofInt64_N8 wide8 eqN neN shr_pow shr1 shr7 shr56
attribute [local go_sem high] bits_com64 shl_wrap
attribute [local go_sem] nn2 nm2 nn3 nm3 nn4 nm4 nn5 nm5 nn6 nm6 nn7 nm7 nn8 nm8
attribute [local go_sem] Oper.semAt_some make_func1 make_funcB
attribute [local go_sem] cell_heap ice_heap cellAt_cells iceAt_cells setAt_cells size_setCell rowAt_cells canLay_cells laidAt_cells size_onObj rowRes_some layRes_true
attribute [local go_sem ↓] heap_alloc heap_drew heap_drewN heap_setCell heap_putObj heap_onObj
attribute [local go_sem] loadS box_sc loadC storeC oneC zeroCall_size
attribute [local go_sem ↓] lrowS lrowC srowC zeroC
theorem KW.take {w : World} {a : Option Addr} {ks : List (BitVec 64)} (h : KW w a ks) (k : Nat) : KW w a (ks.take k) := by
  rcases h with rfl | ⟨q, o, h1, h2⟩
  · exact .inl (by simp)
  · exact .inr ⟨q, o, h1, fun j x hj => h2 j x (by
      have := (List.getElem?_eq_some_iff.1 hj).1
      rw [List.length_take] at this
      rwa [List.getElem?_take_of_lt (by omega)] at hj)⟩
/-- append of words that lie anywhere. -/
theorem append_kw (W : World) (base : Nat) (v : Value) (n : Nat) (xs : List (BitVec 64)) (hown : W.ownsRow base 22 1 v n (xs.map fun k => U k)) (a : Option Addr) (m c : Nat) (ys : List (BitVec 64)) (hm : ys.length = m) (hk : KW W a ys) (hnm : n + m ≤ 1000000) (hbase : base ≤ W.heap.size) :
    ∃ v' w', (Builtin.append_ #[24, 24] 24 #[v, .slice a m c]).run Tryz.prog W = .ok v' w' ∧ w'.ownsRow base 22 1 v' (n + m) ((xs ++ ys).map fun k => U k) ∧ Ch (match v.ownBlock with | some b => [b] | none => []) W w' := by
  obtain ⟨i0, hi, hz0, hz1, hz2⟩ := info_parts infoU
  subst hm
  rcases hk with rfl | ⟨q, o, rfl, hk⟩
  · obtain ⟨b, cap, rfl, hle⟩ : ∃ b cap, v = .slice b n cap ∧ n ≤ cap := by
      obtain ⟨k1, ⟨rfl, k0⟩ | ⟨g, cap, cur, rfl, _, _, hle, _⟩⟩ := id hown
      · exact ⟨none, 0, by rw [k0], by omega⟩
      · exact ⟨_, cap, rfl, hle⟩
    exact ⟨_, W, append_none W _ _ _ i0 Tryz.underlying24 hi b a n cap c hle, by rw [List.append_nil]; exact hown, Ch.refl _ _⟩
  · obtain ⟨v', w', hrun, ho, hg, _⟩ := run_append_own (P := Tryz.prog) W base 24 24 22 i0 _ 1 8 Tryz.underlying24 hi hz0 hz1 hz2 rfl (by decide) v n _ hown ⟨q, o, none⟩ ys.length c (ys.map fun k => U k) (by simp)
      (fun j u hj => by
        rw [List.getElem?_map] at hj
        obtain ⟨x, hx, rfl⟩ := Option.map_eq_some_iff.1 hj
        rw [Addr.add_lit]
        exact hk j x hx) (by
        intro u hu
        obtain ⟨x, _, rfl⟩ := List.mem_map.1 hu
        rfl) (by unfold maxLen; omega) (by omega) hbase
    exact ⟨v', w', hrun, by rw [List.map_append]; exact ho, Ch.of_grown hg (fun k hk => by rw [hk]; simp)⟩
theorem KW.drop {w : World} {q o : Nat} {ks : List (BitVec 64)} (h2 : ∀ (j : Nat) x, ks[j]? = some x → w.cell? ⟨q, o + j, none⟩ = some (U x)) (k : Nat) : KW w (some ⟨q, o + k, none⟩) (ks.drop k) :=
  .inr ⟨q, o + k, rfl, fun j x hj => by
    rw [List.getElem?_drop] at hj
    rw [Nat.add_assoc]
    exact h2 _ _ hj⟩
theorem made_own (w : World) : (w.alloc (.cells #[] 22)).ownsRow w.heap.size 22 1 (.slice (some ⟨w.heap.size, 0, none⟩) 0 0) 0 (([] : List (BitVec 64)).map fun k => U k) := World.ownsRow_made w #[] 0 (Nat.le_refl _) (Nat.zero_le _) (by simp)
set_option maxHeartbeats 1000000 in
set_option maxRecDepth 100000 in
theorem rComes_any (s : ScT) (w : World) (R : RightSc w s) : Calls Tryz.prog 11 #[.agg (scC s)] w fun e w' => ∃ v, e = .returned v ∧ w'.ownsRow w.heap.size 22 1 v (comesR (catL s.ls)).length ((comesR (catL s.ls)).map fun k => U k) ∧ Ch [] w w' := by
  obtain ⟨W, hW, C, hB⟩ := scbox s w
  obtain ⟨L, o, hla, hls⟩ := R.at_
  have hc64 := R.calls
  have hl8 : s.ls.length ≤ 8 := by have := R.len; have := R.g8; omega
  clear R
  have HLS := Lib.hid hls
  clear hls
  obtain ⟨g, sl, sd, la, lc, ls, pa, pn', pc⟩ := s
  dsimp only at *
  subst hla
  unfold scC at hB hW ⊢
  dsimp only [adr] at hB hW ⊢
  obtain ⟨n, hn⟩ : ∃ n, ls.length = n := ⟨_, rfl⟩
  rw [hn] at hB hW hl8 ⊢
  obtain ⟨B, hBe⟩ : ∃ B, w.heap.size = B := ⟨_, rfl⟩
  rw [hBe] at hB
  have HN := Lib.hid hn
  have HC64 := Lib.hid hc64
  clear hn hc64
  go_enter Tryz.func11, Tryz.ntmps11
  go_upto_region 2 with (fail)
  try rw [hW]
  try rw [hBe]
  clear hW hBe
  go_wp2
  go_loopw [12, 3] (fun i v wr => ∃ j : Nat, i = I j ∧ j ≤ n ∧ wr.ownsRow w.heap.size 22 1 v (comesR (catL (ls.take j))).length ((comesR (catL (ls.take j))).map fun k => U k) ∧ Ch [] w wr) (fun i _ _ => n - (intOf i).toNat)
  case atStart => exact ⟨0, rfl, by omega, World.ownsRow_nil _ _ _ _, C⟩
  case round =>
    obtain ⟨j, hi, hj, hown, c1⟩ := hrel
    subst hi
    clear C hB
    rcases (show j = n ∨ j < n by omega) with rfl | hlt
    · rw [List.take_of_length_le (by have := HN.out; omega)] at hown
      have HO := Lib.hid hown
      obtain ⟨a2, c2, rfl⟩ := own_val hown
      clear hown
      go_wp2
      go_ret
      exact ⟨_, rfl, HO.out, c1⟩
    · obtain ⟨s, hs⟩ : ∃ s, ls[j]? = some s := ⟨_, List.getElem?_eq_getElem (by have := HN.out; omega)⟩
      have hLr := And.intro ((HLS.out.ch c1) j s hs).1 (HLS.out j s hs).2
      have hcl := catL_take_le ls (j + 1)
      have E1 : catL (ls.take (j + 1)) = catL (ls.take j) ++ s.l := by rw [take_snoc hs, catL_snoc]
      rw [E1, List.length_append] at hcl
      obtain ⟨q0, hq0⟩ : ∃ q, catL (ls.take j) = q := ⟨_, rfl⟩
      rw [hq0] at hown E1 hcl
      obtain ⟨sa, sc, sl'⟩ := s
      dsimp only [ListT.val] at hLr hcl E1
      obtain ⟨hcell, hrow⟩ := hLr
      rw [cell_heap] at hcell
      obtain ⟨m, hm⟩ : ∃ m, sl'.length = m := ⟨_, rfl⟩
      rw [hm] at hcell hcl
      have hbig : q0.length + m ≤ 64 := Nat.le_trans hcl HC64.out
      have HE := Lib.hid E1
      have hjn : (j : Int) < n := by omega
      clear hs hq0 E1 hcl
      rcases hrow with hl0 | ⟨xb, xo, hsa, hrow⟩
      · try dsimp only at hl0
        subst hl0
        have hm0 : m = 0 := hm.symm
        subst hm0
        rw [List.append_nil] at HE
        have HC1 := Lib.hid c1
        have HO := Lib.hid hown
        obtain ⟨a2, c2, rfl⟩ := own_val hown
        clear c1 hm hown
        go_wp2
        refine wp_loop_rounds 1 ?_
        rw [rounds_succ]
        go_wp2
        go_roundw
        case rel => exact ⟨j + 1, by go_num, by omega, by rw [HE.out]; exact HO.out, HC1.out⟩
        case measure => simp [intOf]; omega
      · try dsimp only at hsa
        subst hsa
        have HRW := Lib.hid (fun wr2 (c : Ch [] w wr2) q c' hq => row_in (w := wr2) (b := xb) (o := xo) (i := q) (c := c') (RowIn.ch hrow c) hq)
        obtain ⟨W1, hW1⟩ : ∃ W, wr = W := ⟨_, rfl⟩
        rw [hW1] at c1 hcell hown ⊢
        have HO := Lib.hid hown
        obtain ⟨a2, c2, rfl⟩ := own_val hown
        clear hrow hW1 hown
        go_wp2
        clear hcell
        go_loopw [18, 3] (fun i v wr => ∃ q : Nat, i = I q ∧ q ≤ m ∧ wr.ownsRow w.heap.size 22 1 v (comesR (q0 ++ sl'.take q)).length ((comesR (q0 ++ sl'.take q)).map fun k => U k) ∧ Ch [] w wr) (fun i _ _ => m - (intOf i).toNat)
        case atStart => exact ⟨0, rfl, by omega, by rw [List.take_zero, List.append_nil]; exact HO.out, c1⟩
        case round =>
          obtain ⟨q, hi, hq, hown, c2⟩ := hrel
          subst hi
          clear c1 HO
          rcases (show q = m ∨ q < m by omega) with rfl | hlt2
          · have e : sl'.take q = sl' := List.take_of_length_le (by omega)
            rw [e] at hown
            have HO := Lib.hid hown
            obtain ⟨a3, c3, rfl⟩ := own_val hown
            have HC2 := Lib.hid c2
            clear hown c2 hm e
            go_wp2
            go_roundw
            case rel => exact ⟨j + 1, by go_num, by omega, by rw [HE.out]; exact HO.out, HC2.out⟩
            case measure => simp [intOf]; omega
          · obtain ⟨c, hc⟩ : ∃ c, sl'[q]? = some c := ⟨_, List.getElem?_eq_getElem (by omega)⟩
            have hr4 := HRW.out wr c2 q c hc
            have hqm : (q : Int) < m := by omega
            have one := oneC c.op c.k c.x c.y
            have hsn : comesR (q0 ++ sl'.take (q + 1)) = stepR (comesR (q0 ++ sl'.take q)) c := by rw [take_snoc hc, ← List.append_assoc, comesR_snoc]
            have hol : (comesR (q0 ++ sl'.take q)).length ≤ 64 := by
              have := comesR_len (q0 ++ sl'.take q)
              rw [List.length_append, List.length_take] at this
              omega
            obtain ⟨out, hout⟩ : ∃ l, comesR (q0 ++ sl'.take q) = l := ⟨_, rfl⟩
            rw [hout] at hown hsn hol
            obtain ⟨ol, hol2⟩ : ∃ n, out.length = n := ⟨_, rfl⟩
            rw [hol2] at hown hol
            have HSN := Lib.hid hsn
            have HM2 := Lib.hid hm
            have HC2 := Lib.hid c2
            have HO := Lib.hid hown
            have HOL := Lib.hid hol2
            obtain ⟨a3, c3, rfl⟩ := own_val hown
            clear hc hm c2 hsn hown hout hol2
            go_upto_region 8 with (fail)
            have hcz := call_put_ch #[I c.op, U c.k, U c.x, U c.y] wr
            have hV := call_put c.op c.k c.x c.y wr
            have C3 := HC2.out.trans hcz
            have HO3 := Lib.hid (own_keep HO.out hcz (by simp))
            obtain ⟨w3, hw3⟩ : ∃ W, World.onObj (wr.alloc (.cells zeroCall 44)) wr.heap.size (laidAt 0 #[I c.op, U c.k, U c.x, U c.y]) = W := ⟨_, rfl⟩
            rw [hw3] at hV C3 HO3 ⊢
            obtain ⟨V, hVe⟩ : ∃ b, wr.heap.size = b := ⟨_, rfl⟩
            rw [hVe] at hV ⊢
            clear hw3 hVe hcz hr4 one HC2 HO
            obtain ⟨cop, ck, cx, cy⟩ := c
            dsimp only at hV HSN
            by_cases hcm : (⟨cop, ck, cx, cy⟩ : CallT).comes = true
            rotate_left
            · have hcf : (⟨cop, ck, cx, cy⟩ : CallT).comes = false := by simpa using hcm
              have hop : cop ≠ 2 ∧ cop ≠ 5 := by
                unfold CallT.comes at hcf
                rw [Bool.or_eq_false_iff, beq_eq_false_iff_ne, beq_eq_false_iff_ne] at hcf
                exact hcf
              have HE3 := Lib.hid (show comesR (q0 ++ sl'.take (q + 1)) = out by rw [HSN.out]; unfold stepR; rw [hcf]; rfl)
              obtain ⟨hn2, hn5⟩ := hop
              have hb2 : (cop != 2) = true := by simpa using hn2
              have hb5 : (cop != 5) = true := by simpa using hn5
              clear hcm hcf
              go_wp2
              go_roundw
              case rel => exact ⟨q + 1, by go_num, by omega, by rw [HE3.out, HOL.out]; exact HO3.out, C3⟩
              case measure => simp [intOf]; omega
            · have hop : cop = 2 ∨ cop ≠ 2 ∧ cop = 5 := by
                unfold CallT.comes at hcm
                dsimp only at hcm
                rw [Bool.or_eq_true, beq_iff_eq, beq_iff_eq] at hcm
                omega
              have HE3 := Lib.hid (show comesR (q0 ++ sl'.take (q + 1)) = insP out ck by rw [HSN.out]; unfold stepR; rw [hcm]; rfl)
              clear hcm HSN
              go_upto_region 8 with (fail)
              go_cut [29] from 22 to 71 (fun s29 wx => s29 = .bool false ∧ wx = w3)
              case first =>
                rcases hop with hop | ⟨hn2, hop⟩
                · subst hop
                  go_wp2_with fail
                  go_meet
                  case rel => exact ⟨rfl, rfl⟩
                · subst hop
                  go_wp2_with fail
                  go_meet
                  case rel => exact ⟨rfl, rfl⟩
              case rest =>
                obtain ⟨rfl, rfl⟩ := hcut
                have hp0 : ∀ jj, jj < 0 → ∃ y, out[jj]? = some y ∧ ltW y ck = true := fun jj h => by omega
                have HP0 := Lib.hid hp0
                clear hp0
                go_wp2
                go_loopw [8] (fun i wr => ∃ p : Nat, i = I p ∧ p ≤ ol ∧ (∀ jj, jj < p → ∃ y, out[jj]? = some y ∧ ltW y ck = true) ∧ Ch [] wc wr) (fun i _ => ol - (intOf i).toNat)
                case atStart => exact ⟨0, rfl, by omega, HP0.out, Ch.refl _ _⟩
                case round =>
                  obtain ⟨p, hi, hp, hall, c4⟩ := hrel
                  subst hi
                  have hV4 := bkeep c4 hV
                  have HO4 := Lib.hid (own_keep HO3.out c4 (by simp))
                  have C4 := C3.trans c4
                  have HALL := Lib.hid hall
                  clear HP0 hV C3 HO3 hall
                  obtain ⟨av, cv, hval, hl, hkw⟩ := own_kw HO4.out
                  obtain ⟨rfl, -, rfl⟩ : a3 = av ∧ ol = ol ∧ c3 = cv := by simpa using hval
                  have HKW := Lib.hid hkw
                  clear hkw hval
                  rcases (show ¬ p < ol ∨ p < ol by omega) with hpo | hpo
                  · have hpI : ¬ (p : Int) < ol := by omega
                    have hpe : (p : Int) = ol := by omega
                    have HPOS := Lib.hid (pos_is (out := out) (x := ck) (k := p) (by have := HOL.out; omega) HALL.out (.inl (by have := HOL.out; omega)))
                    have HI := Lib.hid (show insP out ck = out.take p ++ ck :: out.drop p by
                      unfold insP
                      rw [HPOS.out, if_neg (by rw [List.getElem?_eq_none (by have := HOL.out; omega)]; exact fun e => by cases e)])
                    have hpb : ((p : Int) == ol) = true := by rw [beq_iff_eq]; exact hpe
                    clear hpe
                    go_wp2
                    go_quiet (fail)
                    obtain ⟨na, rfl⟩ : ∃ x, x = nq := ⟨nq, rfl⟩
                    go_wp2
                    go_quiet (fail)
                    have c5 : Ch [] wr ((wr.drewN na).drewN nq) := ((Ch.refl _ _).drewN _).drewN _
                    obtain ⟨w6, hw6⟩ : ∃ x, (wr.drewN na).drewN nq = x := ⟨_, rfl⟩
                    rw [hw6] at c5 ⊢
                    clear hw6
                    have hV6 := bkeep c5 hV4
                    have hV6' := hV6
                    have C6 := C4.trans c5
                    have hform : (a3 = none ∧ ol = 0 ∧ c3 = 0) ∨ ∃ qa oa, a3 = some ⟨qa, oa, none⟩ ∧ ol ≤ c3 := by
                      obtain ⟨_, ⟨hv, h0⟩ | ⟨g, cap, cur, hv, _, _, hle, _⟩⟩ := HO4.out
                      · simp at hv
                        exact .inl ⟨hv.1, h0, hv.2.2⟩
                      · simp at hv
                        exact .inr ⟨g, 0, hv.1, by omega⟩
                    rcases hform with ⟨ha3, hol0, hc3⟩ | ⟨qa, oa, ha3, hcap⟩
                    · subst ha3 hc3
                      have hp0 : p = 0 := by omega
                      have hout0 : out = [] := List.eq_nil_of_length_eq_zero (by have := HOL.out; omega)
                      subst hol0 hp0
                      have KWT := Lib.hid (show KW w6 none (out.take 0) from .inl (by simp))
                      have KWD := Lib.hid (show KW w6 none (out.drop 0) from .inl (by rw [hout0]; rfl))
                      clear hV4 C4 c5 hout0
                      go_wp2
                      have sP : (fun W' : World => W'.heap[V]? = some (.cells #[I cop, U ck, U cx, U cy] 44 (0, 0)) ∧ Ch [] w6 W') w6.drew := ⟨hV6, (Ch.refl _ _).drew⟩
                      refine wp_region_held_drew (S := fun W' : World => W'.heap[V]? = some (.cells #[I cop, U ck, U cx, U cy] 44 (0, 0)) ∧ Ch [] w6 W') (by kernel_rfl) sP ?_
                      intro _
                      simp only [List.size_toArray, List.length_cons, List.length_nil, Nat.reduceAdd]
                      generalize w6.drew = w7 at *
                      clear hV6
                      refine wpAnyH_take (i := 1) (oi := ⟨some 59, _, _, _, _, none⟩) (v := ?_) rfl (by kernel_rfl) (by kernel_rfl) (by kernel_rfl) (fun _ _ _ h => h) (Or.inl ⟨by rfl, ?_⟩) sP ?_
                      rotate_left
                      · intro wq hSq
                        obtain ⟨z1, z2⟩ := hSq
                        first | (go_simp; done) | (go_simp; with_reducible rfl)
                      try simp only [Act.put, List.setIfInBounds_toArray, List.set_cons_zero, List.set_cons_succ]
                      refine wpAnyH_take (i := 2) (oi := ⟨some 60, _, _, _, _, none⟩) (v := ?_) rfl (by kernel_rfl) (by kernel_rfl) (by kernel_rfl) (fun _ _ _ h => h) (Or.inl ⟨by rfl, ?_⟩) sP ?_
                      rotate_left
                      · intro wq hSq
                        obtain ⟨z1, z2⟩ := hSq
                        first | (go_simp; done) | (go_simp; with_reducible rfl)
                      try simp only [Act.put, List.setIfInBounds_toArray, List.set_cons_zero, List.set_cons_succ]
                      refine wpAnyH_take (i := 3) (oi := ⟨some 61, _, _, _, _, none⟩) (v := ?_) rfl (by kernel_rfl) (by kernel_rfl) (by kernel_rfl) (fun _ _ _ h => h) (Or.inl ⟨by rfl, ?_⟩) sP ?_
                      rotate_left
                      · intro wq hSq
                        obtain ⟨z1, z2⟩ := hSq
                        first | (go_simp; done) | (go_simp; with_reducible rfl)
                      try simp only [Act.put, List.setIfInBounds_toArray, List.set_cons_zero, List.set_cons_succ]
                      refine wpAnyH_take (i := 5) (oi := ⟨some 63, _, _, _, _, none⟩) (v := ?_) rfl (by kernel_rfl) (by kernel_rfl) (by kernel_rfl) (fun _ _ _ h => h) (Or.inl ⟨by rfl, ?_⟩) sP ?_
                      rotate_left
                      · intro wq hSq
                        obtain ⟨z1, z2⟩ := hSq
                        first | (go_simp; done) | (go_simp; with_reducible rfl)
                      try simp only [Act.put, List.setIfInBounds_toArray, List.set_cons_zero, List.set_cons_succ]
                      refine wpAnyH_take (i := 6) (oi := ⟨some 64, _, _, _, _, none⟩) (v := ?_) rfl (by kernel_rfl) (by kernel_rfl) (by kernel_rfl) (fun _ _ _ h => h) (Or.inl ⟨by rfl, ?_⟩) sP ?_
                      rotate_left
                      · intro wq hSq
                        obtain ⟨z1, z2⟩ := hSq
                        first | (go_simp; done) | (go_simp; with_reducible rfl)
                      try simp only [Act.put, List.setIfInBounds_toArray, List.set_cons_zero, List.set_cons_succ]
                      refine wpAnyH_take (i := 9) (oi := ⟨some 67, _, _, _, _, none⟩) (v := ?_) rfl (by kernel_rfl) (by kernel_rfl) (by kernel_rfl) (fun _ _ _ h => h) (Or.inl ⟨by rfl, ?_⟩) sP ?_
                      rotate_left
                      · intro wq hSq
                        obtain ⟨z1, z2⟩ := hSq
                        first | (go_simp; done) | (go_simp; with_reducible rfl)
                      try simp only [Act.put, List.setIfInBounds_toArray, List.set_cons_zero, List.set_cons_succ]
                      refine wpAnyH_take (i := 10) (oi := ⟨some 68, _, _, _, _, none⟩) (v := ?_) rfl (by kernel_rfl) (by kernel_rfl) (by kernel_rfl) (fun _ _ _ h => h) (Or.inl ⟨by rfl, ?_⟩) sP ?_
                      rotate_left
                      · intro wq hSq
                        obtain ⟨z1, z2⟩ := hSq
                        first | (go_simp; done) | (go_simp; with_reducible rfl)
                      try simp only [Act.put, List.setIfInBounds_toArray, List.set_cons_zero, List.set_cons_succ]
                      refine wpAnyH_take (i := 11) (oi := ⟨some 69, _, _, _, _, none⟩) (v := ?_) rfl (by kernel_rfl) (by kernel_rfl) (by kernel_rfl) (fun _ _ _ h => h) (Or.inl ⟨by rfl, ?_⟩) sP ?_
                      rotate_left
                      · intro wq hSq
                        obtain ⟨z1, z2⟩ := hSq
                        first | (go_simp; done) | (go_simp; with_reducible rfl)
                      try simp only [Act.put, List.setIfInBounds_toArray, List.set_cons_zero, List.set_cons_succ]
                      have bs0 : ∀ w : World, (Instr.buildSlice 24 0 #[]).run Tryz.prog w = .ok (.slice (some ⟨w.heap.size, 0, none⟩) 0 0) (w.alloc (.cells #[] 22)) := fun w => by kernel_rfl
                      have bs1 : ∀ w : World, (Instr.buildSlice 24 1 #[(0, U ck)]).run Tryz.prog w = .ok (.slice (some ⟨w.heap.size, 0, none⟩) 1 1) (w.alloc (.cells #[U ck] 22)) := fun w => by kernel_rfl
                      have s7 := sP
                      have r7 : w6.heap.size ≤ w7.heap.size := sP.2.size
                      clear sP
                      refine wpAnyH_ready (rs := [0, 7]) (by kernel_rfl) (by simp) ?_
                      refine AllReadyH.cons (o := ⟨some 58, _, _, _, _, none⟩) rfl (fun K hK => ?_) (AllReadyH.cons (o := ⟨some 65, _, _, _, _, none⟩) rfl (fun K hK => ?_) AllReadyH.nil)
                      · go_simp
                        have o8 := own_low (made_own w7) r7
                        have c8 : Ch [] w7 (w7.alloc (.cells #[] 22)) := (Ch.refl _ _).alloc _
                        have s8 : (w7.alloc (.cells #[] 22)).heap[V]? = some (.cells #[I cop, U ck, U cx, U cy] 44 (0, 0)) ∧ Ch [] w6 (w7.alloc (.cells #[] 22)) := ⟨bkeep c8 s7.1, s7.2.trans c8⟩
                        have hsz8 : (w7.alloc (.cells #[] 22)).heap.size = w7.heap.size + 1 := by simp
                        refine hK.out _ _ s8 (fun _ => ?_)
                        clear hK K
                        try simp only [Act.put, List.setIfInBounds_toArray, List.set_cons_zero, List.set_cons_succ]
                        obtain ⟨w8, hw8⟩ : ∃ x, w7.alloc (.cells #[] 22) = x := ⟨_, rfl⟩
                        rw [hw8] at o8 c8 s8 hsz8 ⊢
                        obtain ⟨Ab, hAb⟩ : ∃ x, w7.heap.size = x := ⟨_, rfl⟩
                        rw [hAb] at o8 hsz8 ⊢
                        have r8 : w6.heap.size ≤ w8.heap.size := s8.2.size
                        have HSZ8 := Lib.hid hsz8
                        clear hw8 s7 c8 hsz8
                        refine wpAnyH_ready (rs := [4, 7]) (by kernel_rfl) (by simp) ?_
                        refine AllReadyH.cons (o := ⟨some 62, _, _, _, _, none⟩) rfl (fun K hK => ?_) (AllReadyH.cons (o := ⟨some 65, _, _, _, _, none⟩) rfl (fun K hK => ?_) AllReadyH.nil)
                        · obtain ⟨v62, w9, hrun, o9, hc⟩ := append_kw w8 w6.heap.size _ 0 [] o8 none 0 0 (out.take 0) (by rw [List.length_take]; have := HOL.out; omega) (KWT.out.ch s8.2) (by omega) r8
                          rw [Nat.zero_add, List.nil_append] at o9
                          have hc : Ch [Ab] w8 w9 := hc
                          have hAb6 : w6.heap.size ≤ Ab := by have := own_blk o8 Ab (by simp [Value.ownBlock]); exact this
                          have hVA : ¬ V = Ab := by have := (Array.getElem?_eq_some_iff.1 hV6').1; omega
                          have s9 : w9.heap[V]? = some (.cells #[I cop, U ck, U cx, U cy] 44 (0, 0)) ∧ Ch [] w6 w9 := ⟨(hc.block V (Array.getElem?_eq_some_iff.1 s8.1).1 (by simpa using hVA)).trans s8.1, s8.2.trans2 hc (fun t ht => .inr (by rw [List.mem_singleton.1 ht]; exact hAb6))⟩
                          have r9 : w6.heap.size ≤ w9.heap.size := s9.2.size
                          obtain ⟨a62, c62, hv62⟩ := own_val o9
                          subst hv62
                          rw [if_pos (by kernel_rfl)]
                          refine Lib.wp_append_run _ (.tmp 58) (.tmp 61) 24 24 rfl (.slice (some ⟨Ab, 0, none⟩) 0 0) (.slice none 0 0) (by kernel_rfl) (by kernel_rfl) _ _ hrun ?_
                          refine hK.out _ _ s9 (fun _ => ?_)
                          clear hK K hrun hc
                          try simp only [Act.put, List.setIfInBounds_toArray, List.set_cons_zero, List.set_cons_succ]
                          clear s8 o8
                          refine wpAnyH_ready (rs := [7]) (by kernel_rfl) (by simp) ?_
                          refine AllReadyH.cons (o := ⟨some 65, _, _, _, _, none⟩) rfl (fun K hK => ?_) AllReadyH.nil
                          go_simp
                          have c10 : Ch [] w9 (w9.alloc (.cells #[U ck] 22)) := (Ch.refl _ _).alloc _
                          have s10 : (w9.alloc (.cells #[U ck] 22)).heap[V]? = some (.cells #[I cop, U ck, U cx, U cy] 44 (0, 0)) ∧ Ch [] w6 (w9.alloc (.cells #[U ck] 22)) := ⟨bkeep c10 s9.1, s9.2.trans c10⟩
                          have k10 : (w9.alloc (.cells #[U ck] 22)).heap[w9.heap.size]? = some (.cells #[U ck] 22 (0, 0)) := by rw [heap_alloc, if_pos rfl]
                          have o10 := own_keep o9 c10 (by simp)
                          refine hK.out _ _ s10 (fun _ => ?_)
                          clear hK K
                          try simp only [Act.put, List.setIfInBounds_toArray, List.set_cons_zero, List.set_cons_succ]
                          obtain ⟨w10, hw10⟩ : ∃ x, w9.alloc (.cells #[U ck] 22) = x := ⟨_, rfl⟩
                          rw [hw10] at c10 s10 k10 ⊢
                          rw [hw10] at o10
                          obtain ⟨Kb, hKb⟩ : ∃ x, w9.heap.size = x := ⟨_, rfl⟩
                          rw [hKb] at k10 ⊢
                          have r10 : w6.heap.size ≤ w10.heap.size := s10.2.size
                          clear hw10 s9 c10
                          obtain ⟨v66, w11, hrun, o11, hc⟩ := append_kw w10 w6.heap.size _ 0 _ o10 (some ⟨Kb, 0, none⟩) 1 1 [ck] rfl (.inr ⟨Kb, 0, rfl, fun j x hj => by
                            match j with
                            | 0 =>
                              have : ck = x := by simpa using hj
                              rw [← this]
                              unfold World.cell?
                              rw [k10]
                              rfl
                            | j + 1 => simp at hj⟩) (by omega) r10
                          have hblk := own_blk o10
                          have s11 : w11.heap[V]? = some (.cells #[I cop, U ck, U cx, U cy] 44 (0, 0)) ∧ Ch [] w6 w11 := ⟨(hc.block V (Array.getElem?_eq_some_iff.1 s10.1).1 (fun h => by have := hblk V h; have := (Array.getElem?_eq_some_iff.1 hV6').1; omega)).trans s10.1, s10.2.trans2 hc (fun t ht => .inr (hblk t ht))⟩
                          have r11 : w6.heap.size ≤ w11.heap.size := s11.2.size
                          obtain ⟨a66, c66, hv66⟩ := own_val o11
                          subst hv66
                          refine wpAnyH_ready (rs := [8]) (by kernel_rfl) (by simp) ?_
                          refine AllReadyH.cons (o := ⟨some 66, _, _, _, _, none⟩) rfl (fun K hK => ?_) AllReadyH.nil
                          rw [if_pos (by kernel_rfl)]
                          refine Lib.wp_append_run _ (.tmp 62) (.tmp 65) 24 24 rfl (.slice a62 0 c62) (.slice (some ⟨Kb, 0, none⟩) 1 1) (by kernel_rfl) (by kernel_rfl) _ _ hrun ?_
                          refine hK.out _ _ s11 (fun _ => ?_)
                          clear hK K hrun hc hblk
                          try simp only [Act.put, List.setIfInBounds_toArray, List.set_cons_zero, List.set_cons_succ]
                          clear s10 o10 k10
                          obtain ⟨v70, w12, hrun, o12, hc⟩ := append_kw w11 w6.heap.size _ (0 + 1) _ o11 none (0 - 0) 0 (out.drop 0) (by rw [List.length_drop]; have := HOL.out; omega) (KWD.out.ch s11.2) (by omega) r11
                          have hblk := own_blk o11
                          have s12 : w12.heap[V]? = some (.cells #[I cop, U ck, U cx, U cy] 44 (0, 0)) ∧ Ch [] w6 w12 := ⟨(hc.block V (Array.getElem?_eq_some_iff.1 s11.1).1 (fun h => by have := hblk V h; have := (Array.getElem?_eq_some_iff.1 hV6').1; omega)).trans s11.1, s11.2.trans2 hc (fun t ht => .inr (hblk t ht))⟩
                          obtain ⟨a70, c70, hv70⟩ := own_val o12
                          subst hv70
                          refine wpAnyH_ready (rs := [12]) (by kernel_rfl) (by simp) ?_
                          refine AllReadyH.cons (o := ⟨some 70, _, _, _, _, none⟩) rfl (fun K hK => ?_) AllReadyH.nil
                          rw [if_pos (by kernel_rfl)]
                          refine Lib.wp_append_run _ (.tmp 66) (.tmp 69) 24 24 rfl (.slice a66 (0 + 1) c66) (.slice none (0 - 0) 0) (by kernel_rfl) (by kernel_rfl) _ _ hrun ?_
                          refine hK.out _ _ s12 (fun _ => ?_)
                          clear hK K hrun hc hblk
                          try simp only [Act.put, List.setIfInBounds_toArray, List.set_cons_zero, List.set_cons_succ]
                          refine wpAnyH_take (i := 13) (oi := ⟨some 3, _, _, _, _, none⟩) (v := ?_) rfl (by kernel_rfl) (by kernel_rfl) (by kernel_rfl) (fun _ _ _ h => h) (Or.inl ⟨by rfl, ?_⟩) s12 ?_
                          rotate_left
                          · intro wq hSq
                            first | (go_simp; done) | (go_simp; with_reducible rfl)
                          try simp only [Act.put, List.setIfInBounds_toArray, List.set_cons_zero, List.set_cons_succ]
                          refine wpAnyH_done (by kernel_rfl) ?_ _
                          have HFIN := Lib.hid (show w12.ownsRow w.heap.size 22 1 (.slice a70 (0 + 1 + (0 - 0)) c70) (insP out ck).length ((insP out ck).map fun k => U k) ∧ Ch [] w w12 from by
                            have hl : (insP out ck).length = 0 + 1 + (0 - 0) := by rw [HI.out, List.length_append, List.length_cons, List.length_take, List.length_drop]; have := HOL.out; omega
                            refine ⟨?_, C6.trans s12.2⟩
                            rw [hl, HI.out, show out.take 0 ++ ck :: out.drop 0 = (out.take 0 ++ [ck]) ++ out.drop 0 by rw [List.append_assoc]; rfl]
                            exact own_low o12 C6.size)
                          clear s12 o12
                          go_wp2
                          go_roundw
                          case rel => exact ⟨q + 1, by go_num, by omega, by rw [HE3.out]; exact HFIN.out.1, HFIN.out.2⟩
                          case measure => simp [intOf]; omega
                        · go_simp
                          have c13 : Ch [] w8 (w8.alloc (.cells #[U ck] 22)) := (Ch.refl _ _).alloc _
                          have s13 : (w8.alloc (.cells #[U ck] 22)).heap[V]? = some (.cells #[I cop, U ck, U cx, U cy] 44 (0, 0)) ∧ Ch [] w6 (w8.alloc (.cells #[U ck] 22)) := ⟨bkeep c13 s8.1, s8.2.trans c13⟩
                          have k13 : (w8.alloc (.cells #[U ck] 22)).heap[w8.heap.size]? = some (.cells #[U ck] 22 (0, 0)) := by rw [heap_alloc, if_pos rfl]
                          have o13 := own_keep o8 c13 (by simp)
                          have hKA : ¬ w8.heap.size = Ab := by have := HSZ8.out; omega
                          refine hK.out _ _ s13 (fun _ => ?_)
                          clear hK K
                          try simp only [Act.put, List.setIfInBounds_toArray, List.set_cons_zero, List.set_cons_succ]
                          obtain ⟨w13, hw13⟩ : ∃ x, w8.alloc (.cells #[U ck] 22) = x := ⟨_, rfl⟩
                          rw [hw13] at c13 s13 k13 ⊢
                          rw [hw13] at o13
                          obtain ⟨Kb, hKb⟩ : ∃ x, w8.heap.size = x := ⟨_, rfl⟩
                          rw [hKb] at k13 ⊢
                          rw [hKb] at hKA
                          have r13 : w6.heap.size ≤ w13.heap.size := s13.2.size
                          clear hw13 s8 c13
                          refine wpAnyH_ready (rs := [4]) (by kernel_rfl) (by simp) ?_
                          refine AllReadyH.cons (o := ⟨some 62, _, _, _, _, none⟩) rfl (fun K hK => ?_) AllReadyH.nil
                          obtain ⟨v62, w14, hrun, o14, hc⟩ := append_kw w13 w6.heap.size _ 0 [] o13 none 0 0 (out.take 0) (by rw [List.length_take]; have := HOL.out; omega) (KWT.out.ch s13.2) (by omega) r13
                          rw [Nat.zero_add, List.nil_append] at o14
                          have hc : Ch [Ab] w13 w14 := hc
                          have hAb6 : w6.heap.size ≤ Ab := by have := own_blk o13 Ab (by simp [Value.ownBlock]); exact this
                          have hVA : ¬ V = Ab := by have := (Array.getElem?_eq_some_iff.1 hV6').1; omega
                          have s14 : w14.heap[V]? = some (.cells #[I cop, U ck, U cx, U cy] 44 (0, 0)) ∧ Ch [] w6 w14 := ⟨(hc.block V (Array.getElem?_eq_some_iff.1 s13.1).1 (by simpa using hVA)).trans s13.1, s13.2.trans2 hc (fun t ht => .inr (by rw [List.mem_singleton.1 ht]; exact hAb6))⟩
                          have k14 := (hc.block Kb (Array.getElem?_eq_some_iff.1 k13).1 (by simpa using hKA)).trans k13
                          have r14 : w6.heap.size ≤ w14.heap.size := s14.2.size
                          obtain ⟨a62, c62, hv62⟩ := own_val o14
                          subst hv62
                          rw [if_pos (by kernel_rfl)]
                          refine Lib.wp_append_run _ (.tmp 58) (.tmp 61) 24 24 rfl (.slice (some ⟨Ab, 0, none⟩) 0 0) (.slice none 0 0) (by kernel_rfl) (by kernel_rfl) _ _ hrun ?_
                          refine hK.out _ _ s14 (fun _ => ?_)
                          clear hK K hrun hc
                          try simp only [Act.put, List.setIfInBounds_toArray, List.set_cons_zero, List.set_cons_succ]
                          clear s13 o13
                          obtain ⟨v66, w15, hrun, o15, hc⟩ := append_kw w14 w6.heap.size _ 0 _ o14 (some ⟨Kb, 0, none⟩) 1 1 [ck] rfl (.inr ⟨Kb, 0, rfl, fun j x hj => by
                            match j with
                            | 0 =>
                              have : ck = x := by simpa using hj
                              rw [← this]
                              unfold World.cell?
                              rw [k14]
                              rfl
                            | j + 1 => simp at hj⟩) (by omega) r14
                          have hblk := own_blk o14
                          have s15 : w15.heap[V]? = some (.cells #[I cop, U ck, U cx, U cy] 44 (0, 0)) ∧ Ch [] w6 w15 := ⟨(hc.block V (Array.getElem?_eq_some_iff.1 s14.1).1 (fun h => by have := hblk V h; have := (Array.getElem?_eq_some_iff.1 hV6').1; omega)).trans s14.1, s14.2.trans2 hc (fun t ht => .inr (hblk t ht))⟩
                          have r15 : w6.heap.size ≤ w15.heap.size := s15.2.size
                          obtain ⟨a66, c66, hv66⟩ := own_val o15
                          subst hv66
                          refine wpAnyH_ready (rs := [8]) (by kernel_rfl) (by simp) ?_
                          refine AllReadyH.cons (o := ⟨some 66, _, _, _, _, none⟩) rfl (fun K hK => ?_) AllReadyH.nil
                          rw [if_pos (by kernel_rfl)]
                          refine Lib.wp_append_run _ (.tmp 62) (.tmp 65) 24 24 rfl (.slice a62 0 c62) (.slice (some ⟨Kb, 0, none⟩) 1 1) (by kernel_rfl) (by kernel_rfl) _ _ hrun ?_
                          refine hK.out _ _ s15 (fun _ => ?_)
                          clear hK K hrun hc hblk
                          try simp only [Act.put, List.setIfInBounds_toArray, List.set_cons_zero, List.set_cons_succ]
                          clear s14 o14 k14
                          obtain ⟨v70, w16, hrun, o16, hc⟩ := append_kw w15 w6.heap.size _ (0 + 1) _ o15 none (0 - 0) 0 (out.drop 0) (by rw [List.length_drop]; have := HOL.out; omega) (KWD.out.ch s15.2) (by omega) r15
                          have hblk := own_blk o15
                          have s16 : w16.heap[V]? = some (.cells #[I cop, U ck, U cx, U cy] 44 (0, 0)) ∧ Ch [] w6 w16 := ⟨(hc.block V (Array.getElem?_eq_some_iff.1 s15.1).1 (fun h => by have := hblk V h; have := (Array.getElem?_eq_some_iff.1 hV6').1; omega)).trans s15.1, s15.2.trans2 hc (fun t ht => .inr (hblk t ht))⟩
                          obtain ⟨a70, c70, hv70⟩ := own_val o16
                          subst hv70
                          refine wpAnyH_ready (rs := [12]) (by kernel_rfl) (by simp) ?_
                          refine AllReadyH.cons (o := ⟨some 70, _, _, _, _, none⟩) rfl (fun K hK => ?_) AllReadyH.nil
                          rw [if_pos (by kernel_rfl)]
                          refine Lib.wp_append_run _ (.tmp 66) (.tmp 69) 24 24 rfl (.slice a66 (0 + 1) c66) (.slice none (0 - 0) 0) (by kernel_rfl) (by kernel_rfl) _ _ hrun ?_
                          refine hK.out _ _ s16 (fun _ => ?_)
                          clear hK K hrun hc hblk
                          try simp only [Act.put, List.setIfInBounds_toArray, List.set_cons_zero, List.set_cons_succ]
                          refine wpAnyH_take (i := 13) (oi := ⟨some 3, _, _, _, _, none⟩) (v := ?_) rfl (by kernel_rfl) (by kernel_rfl) (by kernel_rfl) (fun _ _ _ h => h) (Or.inl ⟨by rfl, ?_⟩) s16 ?_
                          rotate_left
                          · intro wq hSq
                            first | (go_simp; done) | (go_simp; with_reducible rfl)
                          try simp only [Act.put, List.setIfInBounds_toArray, List.set_cons_zero, List.set_cons_succ]
                          refine wpAnyH_done (by kernel_rfl) ?_ _
                          have HFIN := Lib.hid (show w16.ownsRow w.heap.size 22 1 (.slice a70 (0 + 1 + (0 - 0)) c70) (insP out ck).length ((insP out ck).map fun k => U k) ∧ Ch [] w w16 from by
                            have hl : (insP out ck).length = 0 + 1 + (0 - 0) := by rw [HI.out, List.length_append, List.length_cons, List.length_take, List.length_drop]; have := HOL.out; omega
                            refine ⟨?_, C6.trans s16.2⟩
                            rw [hl, HI.out, show out.take 0 ++ ck :: out.drop 0 = (out.take 0 ++ [ck]) ++ out.drop 0 by rw [List.append_assoc]; rfl]
                            exact own_low o16 C6.size)
                          clear s16 o16
                          go_wp2
                          go_roundw
                          case rel => exact ⟨q + 1, by go_num, by omega, by rw [HE3.out]; exact HFIN.out.1, HFIN.out.2⟩
                          case measure => simp [intOf]; omega
                      · go_simp
                        have c17 : Ch [] w7 (w7.alloc (.cells #[U ck] 22)) := (Ch.refl _ _).alloc _
                        have s17 : (w7.alloc (.cells #[U ck] 22)).heap[V]? = some (.cells #[I cop, U ck, U cx, U cy] 44 (0, 0)) ∧ Ch [] w6 (w7.alloc (.cells #[U ck] 22)) := ⟨bkeep c17 s7.1, s7.2.trans c17⟩
                        have k17 : (w7.alloc (.cells #[U ck] 22)).heap[w7.heap.size]? = some (.cells #[U ck] 22 (0, 0)) := by rw [heap_alloc, if_pos rfl]
                        refine hK.out _ _ s17 (fun _ => ?_)
                        clear hK K
                        try simp only [Act.put, List.setIfInBounds_toArray, List.set_cons_zero, List.set_cons_succ]
                        obtain ⟨w17, hw17⟩ : ∃ x, w7.alloc (.cells #[U ck] 22) = x := ⟨_, rfl⟩
                        rw [hw17] at c17 s17 k17 ⊢
                        obtain ⟨Kb, hKb⟩ : ∃ x, w7.heap.size = x := ⟨_, rfl⟩
                        rw [hKb] at k17 ⊢
                        have r17 : w6.heap.size ≤ w17.heap.size := s17.2.size
                        clear hw17 s7 c17
                        refine wpAnyH_ready (rs := [0]) (by kernel_rfl) (by simp) ?_
                        refine AllReadyH.cons (o := ⟨some 58, _, _, _, _, none⟩) rfl (fun K hK => ?_) AllReadyH.nil
                        go_simp
                        have o18 := own_low (made_own w17) r17
                        have c18 : Ch [] w17 (w17.alloc (.cells #[] 22)) := (Ch.refl _ _).alloc _
                        have s18 : (w17.alloc (.cells #[] 22)).heap[V]? = some (.cells #[I cop, U ck, U cx, U cy] 44 (0, 0)) ∧ Ch [] w6 (w17.alloc (.cells #[] 22)) := ⟨bkeep c18 s17.1, s17.2.trans c18⟩
                        have hsz18 : (w17.alloc (.cells #[] 22)).heap.size = w17.heap.size + 1 := by simp
                        have k18 := bkeep c18 k17
                        have hKA : ¬ Kb = w17.heap.size := by have := (Array.getElem?_eq_some_iff.1 k17).1; omega
                        refine hK.out _ _ s18 (fun _ => ?_)
                        clear hK K
                        try simp only [Act.put, List.setIfInBounds_toArray, List.set_cons_zero, List.set_cons_succ]
                        obtain ⟨w18, hw18⟩ : ∃ x, w17.alloc (.cells #[] 22) = x := ⟨_, rfl⟩
                        rw [hw18] at o18 c18 s18 hsz18 ⊢
                        rw [hw18] at k18
                        obtain ⟨Ab, hAb⟩ : ∃ x, w17.heap.size = x := ⟨_, rfl⟩
                        rw [hAb] at o18 hsz18 ⊢
                        rw [hAb] at hKA
                        have r18 : w6.heap.size ≤ w18.heap.size := s18.2.size
                        have HSZ18 := Lib.hid hsz18
                        clear hw18 s17 c18 hsz18
                        refine wpAnyH_ready (rs := [4]) (by kernel_rfl) (by simp) ?_
                        refine AllReadyH.cons (o := ⟨some 62, _, _, _, _, none⟩) rfl (fun K hK => ?_) AllReadyH.nil
                        obtain ⟨v62, w19, hrun, o19, hc⟩ := append_kw w18 w6.heap.size _ 0 [] o18 none 0 0 (out.take 0) (by rw [List.length_take]; have := HOL.out; omega) (KWT.out.ch s18.2) (by omega) r18
                        rw [Nat.zero_add, List.nil_append] at o19
                        have hc : Ch [Ab] w18 w19 := hc
                        have hAb6 : w6.heap.size ≤ Ab := by have := own_blk o18 Ab (by simp [Value.ownBlock]); exact this
                        have hVA : ¬ V = Ab := by have := (Array.getElem?_eq_some_iff.1 hV6').1; omega
                        have s19 : w19.heap[V]? = some (.cells #[I cop, U ck, U cx, U cy] 44 (0, 0)) ∧ Ch [] w6 w19 := ⟨(hc.block V (Array.getElem?_eq_some_iff.1 s18.1).1 (by simpa using hVA)).trans s18.1, s18.2.trans2 hc (fun t ht => .inr (by rw [List.mem_singleton.1 ht]; exact hAb6))⟩
                        have k19 := (hc.block Kb (Array.getElem?_eq_some_iff.1 k18).1 (by simpa using hKA)).trans k18
                        have r19 : w6.heap.size ≤ w19.heap.size := s19.2.size
                        obtain ⟨a62, c62, hv62⟩ := own_val o19
                        subst hv62
                        rw [if_pos (by kernel_rfl)]
                        refine Lib.wp_append_run _ (.tmp 58) (.tmp 61) 24 24 rfl (.slice (some ⟨Ab, 0, none⟩) 0 0) (.slice none 0 0) (by kernel_rfl) (by kernel_rfl) _ _ hrun ?_
                        refine hK.out _ _ s19 (fun _ => ?_)
                        clear hK K hrun hc
                        try simp only [Act.put, List.setIfInBounds_toArray, List.set_cons_zero, List.set_cons_succ]
                        clear s18 o18
                        obtain ⟨v66, w20, hrun, o20, hc⟩ := append_kw w19 w6.heap.size _ 0 _ o19 (some ⟨Kb, 0, none⟩) 1 1 [ck] rfl (.inr ⟨Kb, 0, rfl, fun j x hj => by
                          match j with
                          | 0 =>
                            have : ck = x := by simpa using hj
                            rw [← this]
                            unfold World.cell?
                            rw [k19]
                            rfl
                          | j + 1 => simp at hj⟩) (by omega) r19
                        have hblk := own_blk o19
                        have s20 : w20.heap[V]? = some (.cells #[I cop, U ck, U cx, U cy] 44 (0, 0)) ∧ Ch [] w6 w20 := ⟨(hc.block V (Array.getElem?_eq_some_iff.1 s19.1).1 (fun h => by have := hblk V h; have := (Array.getElem?_eq_some_iff.1 hV6').1; omega)).trans s19.1, s19.2.trans2 hc (fun t ht => .inr (hblk t ht))⟩
                        have r20 : w6.heap.size ≤ w20.heap.size := s20.2.size
                        obtain ⟨a66, c66, hv66⟩ := own_val o20
                        subst hv66
                        refine wpAnyH_ready (rs := [8]) (by kernel_rfl) (by simp) ?_
                        refine AllReadyH.cons (o := ⟨some 66, _, _, _, _, none⟩) rfl (fun K hK => ?_) AllReadyH.nil
                        rw [if_pos (by kernel_rfl)]
                        refine Lib.wp_append_run _ (.tmp 62) (.tmp 65) 24 24 rfl (.slice a62 0 c62) (.slice (some ⟨Kb, 0, none⟩) 1 1) (by kernel_rfl) (by kernel_rfl) _ _ hrun ?_
                        refine hK.out _ _ s20 (fun _ => ?_)
                        clear hK K hrun hc hblk
                        try simp only [Act.put, List.setIfInBounds_toArray, List.set_cons_zero, List.set_cons_succ]
                        clear s19 o19 k19
                        obtain ⟨v70, w21, hrun, o21, hc⟩ := append_kw w20 w6.heap.size _ (0 + 1) _ o20 none (0 - 0) 0 (out.drop 0) (by rw [List.length_drop]; have := HOL.out; omega) (KWD.out.ch s20.2) (by omega) r20
                        have hblk := own_blk o20
                        have s21 : w21.heap[V]? = some (.cells #[I cop, U ck, U cx, U cy] 44 (0, 0)) ∧ Ch [] w6 w21 := ⟨(hc.block V (Array.getElem?_eq_some_iff.1 s20.1).1 (fun h => by have := hblk V h; have := (Array.getElem?_eq_some_iff.1 hV6').1; omega)).trans s20.1, s20.2.trans2 hc (fun t ht => .inr (hblk t ht))⟩
                        obtain ⟨a70, c70, hv70⟩ := own_val o21
                        subst hv70
                        refine wpAnyH_ready (rs := [12]) (by kernel_rfl) (by simp) ?_
                        refine AllReadyH.cons (o := ⟨some 70, _, _, _, _, none⟩) rfl (fun K hK => ?_) AllReadyH.nil
                        rw [if_pos (by kernel_rfl)]
                        refine Lib.wp_append_run _ (.tmp 66) (.tmp 69) 24 24 rfl (.slice a66 (0 + 1) c66) (.slice none (0 - 0) 0) (by kernel_rfl) (by kernel_rfl) _ _ hrun ?_
                        refine hK.out _ _ s21 (fun _ => ?_)
                        clear hK K hrun hc hblk
                        try simp only [Act.put, List.setIfInBounds_toArray, List.set_cons_zero, List.set_cons_succ]
                        refine wpAnyH_take (i := 13) (oi := ⟨some 3, _, _, _, _, none⟩) (v := ?_) rfl (by kernel_rfl) (by kernel_rfl) (by kernel_rfl) (fun _ _ _ h => h) (Or.inl ⟨by rfl, ?_⟩) s21 ?_
                        rotate_left
                        · intro wq hSq
                          first | (go_simp; done) | (go_simp; with_reducible rfl)
                        try simp only [Act.put, List.setIfInBounds_toArray, List.set_cons_zero, List.set_cons_succ]
                        refine wpAnyH_done (by kernel_rfl) ?_ _
                        have HFIN := Lib.hid (show w21.ownsRow w.heap.size 22 1 (.slice a70 (0 + 1 + (0 - 0)) c70) (insP out ck).length ((insP out ck).map fun k => U k) ∧ Ch [] w w21 from by
                          have hl : (insP out ck).length = 0 + 1 + (0 - 0) := by rw [HI.out, List.length_append, List.length_cons, List.length_take, List.length_drop]; have := HOL.out; omega
                          refine ⟨?_, C6.trans s21.2⟩
                          rw [hl, HI.out, show out.take 0 ++ ck :: out.drop 0 = (out.take 0 ++ [ck]) ++ out.drop 0 by rw [List.append_assoc]; rfl]
                          exact own_low o21 C6.size)
                        clear s21 o21
                        go_wp2
                        go_roundw
                        case rel => exact ⟨q + 1, by go_num, by omega, by rw [HE3.out]; exact HFIN.out.1, HFIN.out.2⟩
                        case measure => simp [intOf]; omega
                    · subst ha3
                      have KWD := Lib.hid (show KW w6 (if c3 = p then some ⟨qa, oa, none⟩ else some ⟨qa, oa + p, none⟩) (out.drop p) from .inl (List.drop_eq_nil_of_le (by have := HOL.out; omega)))
                      have KWT := Lib.hid ((HKW.out.ch c5).take p)
                      have hp3 : (p : Int) ≤ c3 := by omega
                      have hp4 : (p : Int) ≤ ol := by omega
                      have hp5 : (0 : Int) ≤ p := by omega
                      clear hV4 C4 c5
                      go_wp2
                      have sP : (fun W' : World => W'.heap[V]? = some (.cells #[I cop, U ck, U cx, U cy] 44 (0, 0)) ∧ Ch [] w6 W') w6.drew := ⟨hV6, (Ch.refl _ _).drew⟩
                      refine wp_region_held_drew (S := fun W' : World => W'.heap[V]? = some (.cells #[I cop, U ck, U cx, U cy] 44 (0, 0)) ∧ Ch [] w6 W') (by kernel_rfl) sP ?_
                      intro _
                      simp only [List.size_toArray, List.length_cons, List.length_nil, Nat.reduceAdd]
                      generalize w6.drew = w7 at *
                      clear hV6
                      refine wpAnyH_take (i := 1) (oi := ⟨some 59, _, _, _, _, none⟩) (v := ?_) rfl (by kernel_rfl) (by kernel_rfl) (by kernel_rfl) (fun _ _ _ h => h) (Or.inl ⟨by rfl, ?_⟩) sP ?_
                      rotate_left
                      · intro wq hSq
                        obtain ⟨z1, z2⟩ := hSq
                        first | (go_simp; done) | (go_simp; with_reducible rfl)
                      try simp only [Act.put, List.setIfInBounds_toArray, List.set_cons_zero, List.set_cons_succ]
                      refine wpAnyH_take (i := 2) (oi := ⟨some 60, _, _, _, _, none⟩) (v := ?_) rfl (by kernel_rfl) (by kernel_rfl) (by kernel_rfl) (fun _ _ _ h => h) (Or.inl ⟨by rfl, ?_⟩) sP ?_
                      rotate_left
                      · intro wq hSq
                        obtain ⟨z1, z2⟩ := hSq
                        first | (go_simp; done) | (go_simp; with_reducible rfl)
                      try simp only [Act.put, List.setIfInBounds_toArray, List.set_cons_zero, List.set_cons_succ]
                      refine wpAnyH_take (i := 3) (oi := ⟨some 61, _, _, _, _, none⟩) (v := ?_) rfl (by kernel_rfl) (by kernel_rfl) (by kernel_rfl) (fun _ _ _ h => h) (Or.inl ⟨by rfl, ?_⟩) sP ?_
                      rotate_left
                      · intro wq hSq
                        obtain ⟨z1, z2⟩ := hSq
                        first | (go_simp; done) | (go_simp; with_reducible rfl)
                      try simp only [Act.put, List.setIfInBounds_toArray, List.set_cons_zero, List.set_cons_succ]
                      refine wpAnyH_take (i := 5) (oi := ⟨some 63, _, _, _, _, none⟩) (v := ?_) rfl (by kernel_rfl) (by kernel_rfl) (by kernel_rfl) (fun _ _ _ h => h) (Or.inl ⟨by rfl, ?_⟩) sP ?_
                      rotate_left
                      · intro wq hSq
                        obtain ⟨z1, z2⟩ := hSq
                        first | (go_simp; done) | (go_simp; with_reducible rfl)
                      try simp only [Act.put, List.setIfInBounds_toArray, List.set_cons_zero, List.set_cons_succ]
                      refine wpAnyH_take (i := 6) (oi := ⟨some 64, _, _, _, _, none⟩) (v := ?_) rfl (by kernel_rfl) (by kernel_rfl) (by kernel_rfl) (fun _ _ _ h => h) (Or.inl ⟨by rfl, ?_⟩) sP ?_
                      rotate_left
                      · intro wq hSq
                        obtain ⟨z1, z2⟩ := hSq
                        first | (go_simp; done) | (go_simp; with_reducible rfl)
                      try simp only [Act.put, List.setIfInBounds_toArray, List.set_cons_zero, List.set_cons_succ]
                      refine wpAnyH_take (i := 9) (oi := ⟨some 67, _, _, _, _, none⟩) (v := ?_) rfl (by kernel_rfl) (by kernel_rfl) (by kernel_rfl) (fun _ _ _ h => h) (Or.inl ⟨by rfl, ?_⟩) sP ?_
                      rotate_left
                      · intro wq hSq
                        obtain ⟨z1, z2⟩ := hSq
                        first | (go_simp; done) | (go_simp; with_reducible rfl)
                      try simp only [Act.put, List.setIfInBounds_toArray, List.set_cons_zero, List.set_cons_succ]
                      refine wpAnyH_take (i := 10) (oi := ⟨some 68, _, _, _, _, none⟩) (v := ?_) rfl (by kernel_rfl) (by kernel_rfl) (by kernel_rfl) (fun _ _ _ h => h) (Or.inl ⟨by rfl, ?_⟩) sP ?_
                      rotate_left
                      · intro wq hSq
                        obtain ⟨z1, z2⟩ := hSq
                        first | (go_simp; done) | (go_simp; with_reducible rfl)
                      try simp only [Act.put, List.setIfInBounds_toArray, List.set_cons_zero, List.set_cons_succ]
                      refine wpAnyH_take (i := 11) (oi := ⟨some 69, _, _, _, _, none⟩) (v := ?_) rfl (by kernel_rfl) (by kernel_rfl) (by kernel_rfl) (fun _ _ _ h => h) (Or.inl ⟨by rfl, ?_⟩) sP ?_
                      rotate_left
                      · intro wq hSq
                        obtain ⟨z1, z2⟩ := hSq
                        first | (go_simp; done) | (go_simp; with_reducible rfl)
                      try simp only [Act.put, List.setIfInBounds_toArray, List.set_cons_zero, List.set_cons_succ]
                      have bs0 : ∀ w : World, (Instr.buildSlice 24 0 #[]).run Tryz.prog w = .ok (.slice (some ⟨w.heap.size, 0, none⟩) 0 0) (w.alloc (.cells #[] 22)) := fun w => by kernel_rfl
                      have bs1 : ∀ w : World, (Instr.buildSlice 24 1 #[(0, U ck)]).run Tryz.prog w = .ok (.slice (some ⟨w.heap.size, 0, none⟩) 1 1) (w.alloc (.cells #[U ck] 22)) := fun w => by kernel_rfl
                      have s7 := sP
                      have r7 : w6.heap.size ≤ w7.heap.size := sP.2.size
                      clear sP
                      refine wpAnyH_ready (rs := [0, 7]) (by kernel_rfl) (by simp) ?_
                      refine AllReadyH.cons (o := ⟨some 58, _, _, _, _, none⟩) rfl (fun K hK => ?_) (AllReadyH.cons (o := ⟨some 65, _, _, _, _, none⟩) rfl (fun K hK => ?_) AllReadyH.nil)
                      · go_simp
                        have o8 := own_low (made_own w7) r7
                        have c8 : Ch [] w7 (w7.alloc (.cells #[] 22)) := (Ch.refl _ _).alloc _
                        have s8 : (w7.alloc (.cells #[] 22)).heap[V]? = some (.cells #[I cop, U ck, U cx, U cy] 44 (0, 0)) ∧ Ch [] w6 (w7.alloc (.cells #[] 22)) := ⟨bkeep c8 s7.1, s7.2.trans c8⟩
                        have hsz8 : (w7.alloc (.cells #[] 22)).heap.size = w7.heap.size + 1 := by simp
                        refine hK.out _ _ s8 (fun _ => ?_)
                        clear hK K
                        try simp only [Act.put, List.setIfInBounds_toArray, List.set_cons_zero, List.set_cons_succ]
                        obtain ⟨w8, hw8⟩ : ∃ x, w7.alloc (.cells #[] 22) = x := ⟨_, rfl⟩
                        rw [hw8] at o8 c8 s8 hsz8 ⊢
                        obtain ⟨Ab, hAb⟩ : ∃ x, w7.heap.size = x := ⟨_, rfl⟩
                        rw [hAb] at o8 hsz8 ⊢
                        have r8 : w6.heap.size ≤ w8.heap.size := s8.2.size
                        have HSZ8 := Lib.hid hsz8
                        clear hw8 s7 c8 hsz8
                        refine wpAnyH_ready (rs := [4, 7]) (by kernel_rfl) (by simp) ?_
                        refine AllReadyH.cons (o := ⟨some 62, _, _, _, _, none⟩) rfl (fun K hK => ?_) (AllReadyH.cons (o := ⟨some 65, _, _, _, _, none⟩) rfl (fun K hK => ?_) AllReadyH.nil)
                        · obtain ⟨v62, w9, hrun, o9, hc⟩ := append_kw w8 w6.heap.size _ 0 [] o8 (some ⟨qa, oa, none⟩) p c3 (out.take p) (by rw [List.length_take]; have := HOL.out; omega) (KWT.out.ch s8.2) (by omega) r8
                          rw [Nat.zero_add, List.nil_append] at o9
                          have hc : Ch [Ab] w8 w9 := hc
                          have hAb6 : w6.heap.size ≤ Ab := by have := own_blk o8 Ab (by simp [Value.ownBlock]); exact this
                          have hVA : ¬ V = Ab := by have := (Array.getElem?_eq_some_iff.1 hV6').1; omega
                          have s9 : w9.heap[V]? = some (.cells #[I cop, U ck, U cx, U cy] 44 (0, 0)) ∧ Ch [] w6 w9 := ⟨(hc.block V (Array.getElem?_eq_some_iff.1 s8.1).1 (by simpa using hVA)).trans s8.1, s8.2.trans2 hc (fun t ht => .inr (by rw [List.mem_singleton.1 ht]; exact hAb6))⟩
                          have r9 : w6.heap.size ≤ w9.heap.size := s9.2.size
                          obtain ⟨a62, c62, hv62⟩ := own_val o9
                          subst hv62
                          rw [if_pos (by kernel_rfl)]
                          refine Lib.wp_append_run _ (.tmp 58) (.tmp 61) 24 24 rfl (.slice (some ⟨Ab, 0, none⟩) 0 0) (.slice (some ⟨qa, oa, none⟩) p c3) (by kernel_rfl) (by kernel_rfl) _ _ hrun ?_
                          refine hK.out _ _ s9 (fun _ => ?_)
                          clear hK K hrun hc
                          try simp only [Act.put, List.setIfInBounds_toArray, List.set_cons_zero, List.set_cons_succ]
                          clear s8 o8
                          refine wpAnyH_ready (rs := [7]) (by kernel_rfl) (by simp) ?_
                          refine AllReadyH.cons (o := ⟨some 65, _, _, _, _, none⟩) rfl (fun K hK => ?_) AllReadyH.nil
                          go_simp
                          have c10 : Ch [] w9 (w9.alloc (.cells #[U ck] 22)) := (Ch.refl _ _).alloc _
                          have s10 : (w9.alloc (.cells #[U ck] 22)).heap[V]? = some (.cells #[I cop, U ck, U cx, U cy] 44 (0, 0)) ∧ Ch [] w6 (w9.alloc (.cells #[U ck] 22)) := ⟨bkeep c10 s9.1, s9.2.trans c10⟩
                          have k10 : (w9.alloc (.cells #[U ck] 22)).heap[w9.heap.size]? = some (.cells #[U ck] 22 (0, 0)) := by rw [heap_alloc, if_pos rfl]
                          have o10 := own_keep o9 c10 (by simp)
                          refine hK.out _ _ s10 (fun _ => ?_)
                          clear hK K
                          try simp only [Act.put, List.setIfInBounds_toArray, List.set_cons_zero, List.set_cons_succ]
                          obtain ⟨w10, hw10⟩ : ∃ x, w9.alloc (.cells #[U ck] 22) = x := ⟨_, rfl⟩
                          rw [hw10] at c10 s10 k10 ⊢
                          rw [hw10] at o10
                          obtain ⟨Kb, hKb⟩ : ∃ x, w9.heap.size = x := ⟨_, rfl⟩
                          rw [hKb] at k10 ⊢
                          have r10 : w6.heap.size ≤ w10.heap.size := s10.2.size
                          clear hw10 s9 c10
                          obtain ⟨v66, w11, hrun, o11, hc⟩ := append_kw w10 w6.heap.size _ p _ o10 (some ⟨Kb, 0, none⟩) 1 1 [ck] rfl (.inr ⟨Kb, 0, rfl, fun j x hj => by
                            match j with
                            | 0 =>
                              have : ck = x := by simpa using hj
                              rw [← this]
                              unfold World.cell?
                              rw [k10]
                              rfl
                            | j + 1 => simp at hj⟩) (by omega) r10
                          have hblk := own_blk o10
                          have s11 : w11.heap[V]? = some (.cells #[I cop, U ck, U cx, U cy] 44 (0, 0)) ∧ Ch [] w6 w11 := ⟨(hc.block V (Array.getElem?_eq_some_iff.1 s10.1).1 (fun h => by have := hblk V h; have := (Array.getElem?_eq_some_iff.1 hV6').1; omega)).trans s10.1, s10.2.trans2 hc (fun t ht => .inr (hblk t ht))⟩
                          have r11 : w6.heap.size ≤ w11.heap.size := s11.2.size
                          obtain ⟨a66, c66, hv66⟩ := own_val o11
                          subst hv66
                          refine wpAnyH_ready (rs := [8]) (by kernel_rfl) (by simp) ?_
                          refine AllReadyH.cons (o := ⟨some 66, _, _, _, _, none⟩) rfl (fun K hK => ?_) AllReadyH.nil
                          rw [if_pos (by kernel_rfl)]
                          refine Lib.wp_append_run _ (.tmp 62) (.tmp 65) 24 24 rfl (.slice a62 p c62) (.slice (some ⟨Kb, 0, none⟩) 1 1) (by kernel_rfl) (by kernel_rfl) _ _ hrun ?_
                          refine hK.out _ _ s11 (fun _ => ?_)
                          clear hK K hrun hc hblk
                          try simp only [Act.put, List.setIfInBounds_toArray, List.set_cons_zero, List.set_cons_succ]
                          clear s10 o10 k10
                          obtain ⟨v70, w12, hrun, o12, hc⟩ := append_kw w11 w6.heap.size _ (p + 1) _ o11 (if c3 = p then some ⟨qa, oa, none⟩ else some ⟨qa, oa + p, none⟩) (ol - p) (c3 - p) (out.drop p) (by rw [List.length_drop]; have := HOL.out; omega) (KWD.out.ch s11.2) (by omega) r11
                          have hblk := own_blk o11
                          have s12 : w12.heap[V]? = some (.cells #[I cop, U ck, U cx, U cy] 44 (0, 0)) ∧ Ch [] w6 w12 := ⟨(hc.block V (Array.getElem?_eq_some_iff.1 s11.1).1 (fun h => by have := hblk V h; have := (Array.getElem?_eq_some_iff.1 hV6').1; omega)).trans s11.1, s11.2.trans2 hc (fun t ht => .inr (hblk t ht))⟩
                          obtain ⟨a70, c70, hv70⟩ := own_val o12
                          subst hv70
                          refine wpAnyH_ready (rs := [12]) (by kernel_rfl) (by simp) ?_
                          refine AllReadyH.cons (o := ⟨some 70, _, _, _, _, none⟩) rfl (fun K hK => ?_) AllReadyH.nil
                          rw [if_pos (by kernel_rfl)]
                          refine Lib.wp_append_run _ (.tmp 66) (.tmp 69) 24 24 rfl (.slice a66 (p + 1) c66) (.slice (if c3 = p then some ⟨qa, oa, none⟩ else some ⟨qa, oa + p, none⟩) (ol - p) (c3 - p)) (by kernel_rfl) (by kernel_rfl) _ _ hrun ?_
                          refine hK.out _ _ s12 (fun _ => ?_)
                          clear hK K hrun hc hblk
                          try simp only [Act.put, List.setIfInBounds_toArray, List.set_cons_zero, List.set_cons_succ]
                          refine wpAnyH_take (i := 13) (oi := ⟨some 3, _, _, _, _, none⟩) (v := ?_) rfl (by kernel_rfl) (by kernel_rfl) (by kernel_rfl) (fun _ _ _ h => h) (Or.inl ⟨by rfl, ?_⟩) s12 ?_
                          rotate_left
                          · intro wq hSq
                            first | (go_simp; done) | (go_simp; with_reducible rfl)
                          try simp only [Act.put, List.setIfInBounds_toArray, List.set_cons_zero, List.set_cons_succ]
                          refine wpAnyH_done (by kernel_rfl) ?_ _
                          have HFIN := Lib.hid (show w12.ownsRow w.heap.size 22 1 (.slice a70 (p + 1 + (ol - p)) c70) (insP out ck).length ((insP out ck).map fun k => U k) ∧ Ch [] w w12 from by
                            have hl : (insP out ck).length = p + 1 + (ol - p) := by rw [HI.out, List.length_append, List.length_cons, List.length_take, List.length_drop]; have := HOL.out; omega
                            refine ⟨?_, C6.trans s12.2⟩
                            rw [hl, HI.out, show out.take p ++ ck :: out.drop p = (out.take p ++ [ck]) ++ out.drop p by rw [List.append_assoc]; rfl]
                            exact own_low o12 C6.size)
                          clear s12 o12
                          go_wp2
                          go_roundw
                          case rel => exact ⟨q + 1, by go_num, by omega, by rw [HE3.out]; exact HFIN.out.1, HFIN.out.2⟩
                          case measure => simp [intOf]; omega
                        · go_simp
                          have c13 : Ch [] w8 (w8.alloc (.cells #[U ck] 22)) := (Ch.refl _ _).alloc _
                          have s13 : (w8.alloc (.cells #[U ck] 22)).heap[V]? = some (.cells #[I cop, U ck, U cx, U cy] 44 (0, 0)) ∧ Ch [] w6 (w8.alloc (.cells #[U ck] 22)) := ⟨bkeep c13 s8.1, s8.2.trans c13⟩
                          have k13 : (w8.alloc (.cells #[U ck] 22)).heap[w8.heap.size]? = some (.cells #[U ck] 22 (0, 0)) := by rw [heap_alloc, if_pos rfl]
                          have o13 := own_keep o8 c13 (by simp)
                          have hKA : ¬ w8.heap.size = Ab := by have := HSZ8.out; omega
                          refine hK.out _ _ s13 (fun _ => ?_)
                          clear hK K
                          try simp only [Act.put, List.setIfInBounds_toArray, List.set_cons_zero, List.set_cons_succ]
                          obtain ⟨w13, hw13⟩ : ∃ x, w8.alloc (.cells #[U ck] 22) = x := ⟨_, rfl⟩
                          rw [hw13] at c13 s13 k13 ⊢
                          rw [hw13] at o13
                          obtain ⟨Kb, hKb⟩ : ∃ x, w8.heap.size = x := ⟨_, rfl⟩
                          rw [hKb] at k13 ⊢
                          rw [hKb] at hKA
                          have r13 : w6.heap.size ≤ w13.heap.size := s13.2.size
                          clear hw13 s8 c13
                          refine wpAnyH_ready (rs := [4]) (by kernel_rfl) (by simp) ?_
                          refine AllReadyH.cons (o := ⟨some 62, _, _, _, _, none⟩) rfl (fun K hK => ?_) AllReadyH.nil
                          obtain ⟨v62, w14, hrun, o14, hc⟩ := append_kw w13 w6.heap.size _ 0 [] o13 (some ⟨qa, oa, none⟩) p c3 (out.take p) (by rw [List.length_take]; have := HOL.out; omega) (KWT.out.ch s13.2) (by omega) r13
                          rw [Nat.zero_add, List.nil_append] at o14
                          have hc : Ch [Ab] w13 w14 := hc
                          have hAb6 : w6.heap.size ≤ Ab := by have := own_blk o13 Ab (by simp [Value.ownBlock]); exact this
                          have hVA : ¬ V = Ab := by have := (Array.getElem?_eq_some_iff.1 hV6').1; omega
                          have s14 : w14.heap[V]? = some (.cells #[I cop, U ck, U cx, U cy] 44 (0, 0)) ∧ Ch [] w6 w14 := ⟨(hc.block V (Array.getElem?_eq_some_iff.1 s13.1).1 (by simpa using hVA)).trans s13.1, s13.2.trans2 hc (fun t ht => .inr (by rw [List.mem_singleton.1 ht]; exact hAb6))⟩
                          have k14 := (hc.block Kb (Array.getElem?_eq_some_iff.1 k13).1 (by simpa using hKA)).trans k13
                          have r14 : w6.heap.size ≤ w14.heap.size := s14.2.size
                          obtain ⟨a62, c62, hv62⟩ := own_val o14
                          subst hv62
                          rw [if_pos (by kernel_rfl)]
                          refine Lib.wp_append_run _ (.tmp 58) (.tmp 61) 24 24 rfl (.slice (some ⟨Ab, 0, none⟩) 0 0) (.slice (some ⟨qa, oa, none⟩) p c3) (by kernel_rfl) (by kernel_rfl) _ _ hrun ?_
                          refine hK.out _ _ s14 (fun _ => ?_)
                          clear hK K hrun hc
                          try simp only [Act.put, List.setIfInBounds_toArray, List.set_cons_zero, List.set_cons_succ]
                          clear s13 o13
                          obtain ⟨v66, w15, hrun, o15, hc⟩ := append_kw w14 w6.heap.size _ p _ o14 (some ⟨Kb, 0, none⟩) 1 1 [ck] rfl (.inr ⟨Kb, 0, rfl, fun j x hj => by
                            match j with
                            | 0 =>
                              have : ck = x := by simpa using hj
                              rw [← this]
                              unfold World.cell?
                              rw [k14]
                              rfl
                            | j + 1 => simp at hj⟩) (by omega) r14
                          have hblk := own_blk o14
                          have s15 : w15.heap[V]? = some (.cells #[I cop, U ck, U cx, U cy] 44 (0, 0)) ∧ Ch [] w6 w15 := ⟨(hc.block V (Array.getElem?_eq_some_iff.1 s14.1).1 (fun h => by have := hblk V h; have := (Array.getElem?_eq_some_iff.1 hV6').1; omega)).trans s14.1, s14.2.trans2 hc (fun t ht => .inr (hblk t ht))⟩
                          have r15 : w6.heap.size ≤ w15.heap.size := s15.2.size
                          obtain ⟨a66, c66, hv66⟩ := own_val o15
                          subst hv66
                          refine wpAnyH_ready (rs := [8]) (by kernel_rfl) (by simp) ?_
                          refine AllReadyH.cons (o := ⟨some 66, _, _, _, _, none⟩) rfl (fun K hK => ?_) AllReadyH.nil
                          rw [if_pos (by kernel_rfl)]
                          refine Lib.wp_append_run _ (.tmp 62) (.tmp 65) 24 24 rfl (.slice a62 p c62) (.slice (some ⟨Kb, 0, none⟩) 1 1) (by kernel_rfl) (by kernel_rfl) _ _ hrun ?_
                          refine hK.out _ _ s15 (fun _ => ?_)
                          clear hK K hrun hc hblk
                          try simp only [Act.put, List.setIfInBounds_toArray, List.set_cons_zero, List.set_cons_succ]
                          clear s14 o14 k14
                          obtain ⟨v70, w16, hrun, o16, hc⟩ := append_kw w15 w6.heap.size _ (p + 1) _ o15 (if c3 = p then some ⟨qa, oa, none⟩ else some ⟨qa, oa + p, none⟩) (ol - p) (c3 - p) (out.drop p) (by rw [List.length_drop]; have := HOL.out; omega) (KWD.out.ch s15.2) (by omega) r15
                          have hblk := own_blk o15
                          have s16 : w16.heap[V]? = some (.cells #[I cop, U ck, U cx, U cy] 44 (0, 0)) ∧ Ch [] w6 w16 := ⟨(hc.block V (Array.getElem?_eq_some_iff.1 s15.1).1 (fun h => by have := hblk V h; have := (Array.getElem?_eq_some_iff.1 hV6').1; omega)).trans s15.1, s15.2.trans2 hc (fun t ht => .inr (hblk t ht))⟩
                          obtain ⟨a70, c70, hv70⟩ := own_val o16
                          subst hv70
                          refine wpAnyH_ready (rs := [12]) (by kernel_rfl) (by simp) ?_
                          refine AllReadyH.cons (o := ⟨some 70, _, _, _, _, none⟩) rfl (fun K hK => ?_) AllReadyH.nil
                          rw [if_pos (by kernel_rfl)]
                          refine Lib.wp_append_run _ (.tmp 66) (.tmp 69) 24 24 rfl (.slice a66 (p + 1) c66) (.slice (if c3 = p then some ⟨qa, oa, none⟩ else some ⟨qa, oa + p, none⟩) (ol - p) (c3 - p)) (by kernel_rfl) (by kernel_rfl) _ _ hrun ?_
                          refine hK.out _ _ s16 (fun _ => ?_)
                          clear hK K hrun hc hblk
                          try simp only [Act.put, List.setIfInBounds_toArray, List.set_cons_zero, List.set_cons_succ]
                          refine wpAnyH_take (i := 13) (oi := ⟨some 3, _, _, _, _, none⟩) (v := ?_) rfl (by kernel_rfl) (by kernel_rfl) (by kernel_rfl) (fun _ _ _ h => h) (Or.inl ⟨by rfl, ?_⟩) s16 ?_
                          rotate_left
                          · intro wq hSq
                            first | (go_simp; done) | (go_simp; with_reducible rfl)
                          try simp only [Act.put, List.setIfInBounds_toArray, List.set_cons_zero, List.set_cons_succ]
                          refine wpAnyH_done (by kernel_rfl) ?_ _
                          have HFIN := Lib.hid (show w16.ownsRow w.heap.size 22 1 (.slice a70 (p + 1 + (ol - p)) c70) (insP out ck).length ((insP out ck).map fun k => U k) ∧ Ch [] w w16 from by
                            have hl : (insP out ck).length = p + 1 + (ol - p) := by rw [HI.out, List.length_append, List.length_cons, List.length_take, List.length_drop]; have := HOL.out; omega
                            refine ⟨?_, C6.trans s16.2⟩
                            rw [hl, HI.out, show out.take p ++ ck :: out.drop p = (out.take p ++ [ck]) ++ out.drop p by rw [List.append_assoc]; rfl]
                            exact own_low o16 C6.size)
                          clear s16 o16
                          go_wp2
                          go_roundw
                          case rel => exact ⟨q + 1, by go_num, by omega, by rw [HE3.out]; exact HFIN.out.1, HFIN.out.2⟩
                          case measure => simp [intOf]; omega
                      · go_simp
                        have c17 : Ch [] w7 (w7.alloc (.cells #[U ck] 22)) := (Ch.refl _ _).alloc _
                        have s17 : (w7.alloc (.cells #[U ck] 22)).heap[V]? = some (.cells #[I cop, U ck, U cx, U cy] 44 (0, 0)) ∧ Ch [] w6 (w7.alloc (.cells #[U ck] 22)) := ⟨bkeep c17 s7.1, s7.2.trans c17⟩
                        have k17 : (w7.alloc (.cells #[U ck] 22)).heap[w7.heap.size]? = some (.cells #[U ck] 22 (0, 0)) := by rw [heap_alloc, if_pos rfl]
                        refine hK.out _ _ s17 (fun _ => ?_)
                        clear hK K
                        try simp only [Act.put, List.setIfInBounds_toArray, List.set_cons_zero, List.set_cons_succ]
                        obtain ⟨w17, hw17⟩ : ∃ x, w7.alloc (.cells #[U ck] 22) = x := ⟨_, rfl⟩
                        rw [hw17] at c17 s17 k17 ⊢
                        obtain ⟨Kb, hKb⟩ : ∃ x, w7.heap.size = x := ⟨_, rfl⟩
                        rw [hKb] at k17 ⊢
                        have r17 : w6.heap.size ≤ w17.heap.size := s17.2.size
                        clear hw17 s7 c17
                        refine wpAnyH_ready (rs := [0]) (by kernel_rfl) (by simp) ?_
                        refine AllReadyH.cons (o := ⟨some 58, _, _, _, _, none⟩) rfl (fun K hK => ?_) AllReadyH.nil
                        go_simp
                        have o18 := own_low (made_own w17) r17
                        have c18 : Ch [] w17 (w17.alloc (.cells #[] 22)) := (Ch.refl _ _).alloc _
                        have s18 : (w17.alloc (.cells #[] 22)).heap[V]? = some (.cells #[I cop, U ck, U cx, U cy] 44 (0, 0)) ∧ Ch [] w6 (w17.alloc (.cells #[] 22)) := ⟨bkeep c18 s17.1, s17.2.trans c18⟩
                        have hsz18 : (w17.alloc (.cells #[] 22)).heap.size = w17.heap.size + 1 := by simp
                        have k18 := bkeep c18 k17
                        have hKA : ¬ Kb = w17.heap.size := by have := (Array.getElem?_eq_some_iff.1 k17).1; omega
                        refine hK.out _ _ s18 (fun _ => ?_)
                        clear hK K
                        try simp only [Act.put, List.setIfInBounds_toArray, List.set_cons_zero, List.set_cons_succ]
                        obtain ⟨w18, hw18⟩ : ∃ x, w17.alloc (.cells #[] 22) = x := ⟨_, rfl⟩
                        rw [hw18] at o18 c18 s18 hsz18 ⊢
                        rw [hw18] at k18
                        obtain ⟨Ab, hAb⟩ : ∃ x, w17.heap.size = x := ⟨_, rfl⟩
                        rw [hAb] at o18 hsz18 ⊢
                        rw [hAb] at hKA
                        have r18 : w6.heap.size ≤ w18.heap.size := s18.2.size
                        have HSZ18 := Lib.hid hsz18
                        clear hw18 s17 c18 hsz18
                        refine wpAnyH_ready (rs := [4]) (by kernel_rfl) (by simp) ?_
                        refine AllReadyH.cons (o := ⟨some 62, _, _, _, _, none⟩) rfl (fun K hK => ?_) AllReadyH.nil
                        obtain ⟨v62, w19, hrun, o19, hc⟩ := append_kw w18 w6.heap.size _ 0 [] o18 (some ⟨qa, oa, none⟩) p c3 (out.take p) (by rw [List.length_take]; have := HOL.out; omega) (KWT.out.ch s18.2) (by omega) r18
                        rw [Nat.zero_add, List.nil_append] at o19
                        have hc : Ch [Ab] w18 w19 := hc
                        have hAb6 : w6.heap.size ≤ Ab := by have := own_blk o18 Ab (by simp [Value.ownBlock]); exact this
                        have hVA : ¬ V = Ab := by have := (Array.getElem?_eq_some_iff.1 hV6').1; omega
                        have s19 : w19.heap[V]? = some (.cells #[I cop, U ck, U cx, U cy] 44 (0, 0)) ∧ Ch [] w6 w19 := ⟨(hc.block V (Array.getElem?_eq_some_iff.1 s18.1).1 (by simpa using hVA)).trans s18.1, s18.2.trans2 hc (fun t ht => .inr (by rw [List.mem_singleton.1 ht]; exact hAb6))⟩
                        have k19 := (hc.block Kb (Array.getElem?_eq_some_iff.1 k18).1 (by simpa using hKA)).trans k18
                        have r19 : w6.heap.size ≤ w19.heap.size := s19.2.size
                        obtain ⟨a62, c62, hv62⟩ := own_val o19
                        subst hv62
                        rw [if_pos (by kernel_rfl)]
                        refine Lib.wp_append_run _ (.tmp 58) (.tmp 61) 24 24 rfl (.slice (some ⟨Ab, 0, none⟩) 0 0) (.slice (some ⟨qa, oa, none⟩) p c3) (by kernel_rfl) (by kernel_rfl) _ _ hrun ?_
                        refine hK.out _ _ s19 (fun _ => ?_)
                        clear hK K hrun hc
                        try simp only [Act.put, List.setIfInBounds_toArray, List.set_cons_zero, List.set_cons_succ]
                        clear s18 o18
                        obtain ⟨v66, w20, hrun, o20, hc⟩ := append_kw w19 w6.heap.size _ p _ o19 (some ⟨Kb, 0, none⟩) 1 1 [ck] rfl (.inr ⟨Kb, 0, rfl, fun j x hj => by
                          match j with
                          | 0 =>
                            have : ck = x := by simpa using hj
                            rw [← this]
                            unfold World.cell?
                            rw [k19]
                            rfl
                          | j + 1 => simp at hj⟩) (by omega) r19
                        have hblk := own_blk o19
                        have s20 : w20.heap[V]? = some (.cells #[I cop, U ck, U cx, U cy] 44 (0, 0)) ∧ Ch [] w6 w20 := ⟨(hc.block V (Array.getElem?_eq_some_iff.1 s19.1).1 (fun h => by have := hblk V h; have := (Array.getElem?_eq_some_iff.1 hV6').1; omega)).trans s19.1, s19.2.trans2 hc (fun t ht => .inr (hblk t ht))⟩
                        have r20 : w6.heap.size ≤ w20.heap.size := s20.2.size
                        obtain ⟨a66, c66, hv66⟩ := own_val o20
                        subst hv66
                        refine wpAnyH_ready (rs := [8]) (by kernel_rfl) (by simp) ?_
                        refine AllReadyH.cons (o := ⟨some 66, _, _, _, _, none⟩) rfl (fun K hK => ?_) AllReadyH.nil
                        rw [if_pos (by kernel_rfl)]
                        refine Lib.wp_append_run _ (.tmp 62) (.tmp 65) 24 24 rfl (.slice a62 p c62) (.slice (some ⟨Kb, 0, none⟩) 1 1) (by kernel_rfl) (by kernel_rfl) _ _ hrun ?_
                        refine hK.out _ _ s20 (fun _ => ?_)
                        clear hK K hrun hc hblk
                        try simp only [Act.put, List.setIfInBounds_toArray, List.set_cons_zero, List.set_cons_succ]
                        clear s19 o19 k19
                        obtain ⟨v70, w21, hrun, o21, hc⟩ := append_kw w20 w6.heap.size _ (p + 1) _ o20 (if c3 = p then some ⟨qa, oa, none⟩ else some ⟨qa, oa + p, none⟩) (ol - p) (c3 - p) (out.drop p) (by rw [List.length_drop]; have := HOL.out; omega) (KWD.out.ch s20.2) (by omega) r20
                        have hblk := own_blk o20
                        have s21 : w21.heap[V]? = some (.cells #[I cop, U ck, U cx, U cy] 44 (0, 0)) ∧ Ch [] w6 w21 := ⟨(hc.block V (Array.getElem?_eq_some_iff.1 s20.1).1 (fun h => by have := hblk V h; have := (Array.getElem?_eq_some_iff.1 hV6').1; omega)).trans s20.1, s20.2.trans2 hc (fun t ht => .inr (hblk t ht))⟩
                        obtain ⟨a70, c70, hv70⟩ := own_val o21
                        subst hv70
                        refine wpAnyH_ready (rs := [12]) (by kernel_rfl) (by simp) ?_
                        refine AllReadyH.cons (o := ⟨some 70, _, _, _, _, none⟩) rfl (fun K hK => ?_) AllReadyH.nil
                        rw [if_pos (by kernel_rfl)]
                        refine Lib.wp_append_run _ (.tmp 66) (.tmp 69) 24 24 rfl (.slice a66 (p + 1) c66) (.slice (if c3 = p then some ⟨qa, oa, none⟩ else some ⟨qa, oa + p, none⟩) (ol - p) (c3 - p)) (by kernel_rfl) (by kernel_rfl) _ _ hrun ?_
                        refine hK.out _ _ s21 (fun _ => ?_)
                        clear hK K hrun hc hblk
                        try simp only [Act.put, List.setIfInBounds_toArray, List.set_cons_zero, List.set_cons_succ]
                        refine wpAnyH_take (i := 13) (oi := ⟨some 3, _, _, _, _, none⟩) (v := ?_) rfl (by kernel_rfl) (by kernel_rfl) (by kernel_rfl) (fun _ _ _ h => h) (Or.inl ⟨by rfl, ?_⟩) s21 ?_
                        rotate_left
                        · intro wq hSq
                          first | (go_simp; done) | (go_simp; with_reducible rfl)
                        try simp only [Act.put, List.setIfInBounds_toArray, List.set_cons_zero, List.set_cons_succ]
                        refine wpAnyH_done (by kernel_rfl) ?_ _
                        have HFIN := Lib.hid (show w21.ownsRow w.heap.size 22 1 (.slice a70 (p + 1 + (ol - p)) c70) (insP out ck).length ((insP out ck).map fun k => U k) ∧ Ch [] w w21 from by
                          have hl : (insP out ck).length = p + 1 + (ol - p) := by rw [HI.out, List.length_append, List.length_cons, List.length_take, List.length_drop]; have := HOL.out; omega
                          refine ⟨?_, C6.trans s21.2⟩
                          rw [hl, HI.out, show out.take p ++ ck :: out.drop p = (out.take p ++ [ck]) ++ out.drop p by rw [List.append_assoc]; rfl]
                          exact own_low o21 C6.size)
                        clear s21 o21
                        go_wp2
                        go_roundw
                        case rel => exact ⟨q + 1, by go_num, by omega, by rw [HE3.out]; exact HFIN.out.1, HFIN.out.2⟩
                        case measure => simp [intOf]; omega
                  · have hpI : (p : Int) < ol := by omega
                    have h0 : (0 : Int) ≤ p := by omega
                    obtain ⟨x, hx⟩ : ∃ x, out[p]? = some x := ⟨_, List.getElem?_eq_getElem (by have := HOL.out; omega)⟩
                    obtain ⟨qa, oa, hqa, hcell⟩ := HKW.out.get hx
                    have HX := Lib.hid hx
                    clear hx
                    by_cases hlx : N x < N ck
                    · have HLT := Lib.hid (ltW_true.2 hlx)
                      have hAll : RowKit.Hid (∀ jj, jj < p + 1 → ∃ y, out[jj]? = some y ∧ ltW y ck = true) := Lib.hid (fun jj h => by
                        rcases (show jj < p ∨ jj = p by omega) with h | rfl
                        · exact HALL.out jj h
                        · exact ⟨x, HX.out, HLT.out⟩)
                      subst hqa
                      go_wp2
                      go_quiet (fail)
                      go_wp2
                      go_roundw
                      case rel => exact ⟨p + 1, by go_num, by omega, hAll.out, c4.drewN _⟩
                      case measure => simp [intOf]; omega
                    · have HPOS := Lib.hid (pos_is (out := out) (x := ck) (k := p) (by have := HOL.out; omega) HALL.out (.inr ⟨x, HX.out, ltW_false.2 hlx⟩))
                      subst hqa
                      by_cases hxe : x = ck
                      · have HI := Lib.hid (show insP out ck = out by unfold insP; rw [HPOS.out, if_pos (by rw [← hxe]; exact HX.out)])
                        have hb : (x != ck) = false := by simpa using hxe
                        have hne : ((p : Int) == ol) = false := by rw [beq_eq_false_iff_ne]; omega
                        have HOO := Lib.hid HO4.out
                        clear hxe
                        go_wp2
                        go_quiet (fail)
                        go_wp2
                        go_quiet (fail)
                        go_wp2
                        go_roundw
                        case rel => exact ⟨q + 1, by go_num, by omega, by rw [HE3.out, HI.out, HOL.out]; exact HOO.out, by first | exact C4.drewN _ | exact (C4.drewN _).drewN _⟩
                        case measure => simp [intOf]; omega
                      · have hb : (x != ck) = true := by simpa using hxe
                        have hne : ((p : Int) == ol) = false := by rw [beq_eq_false_iff_ne]; omega
                        have HI := Lib.hid (show insP out ck = out.take p ++ ck :: out.drop p by
                          unfold insP
                          rw [HPOS.out, if_neg (by rw [HX.out]; exact fun e => hxe (Option.some.inj e))])
                        go_wp2
                        go_quiet (fail)
                        obtain ⟨na, rfl⟩ : ∃ x, x = nq := ⟨nq, rfl⟩
                        go_wp2
                        go_quiet (fail)
                        have c5 : Ch [] wr ((wr.drewN na).drewN nq) := ((Ch.refl _ _).drewN _).drewN _
                        obtain ⟨w6, hw6⟩ : ∃ x, (wr.drewN na).drewN nq = x := ⟨_, rfl⟩
                        rw [hw6] at c5 ⊢
                        clear hw6
                        have hV6 := bkeep c5 hV4
                        have hV6' := hV6
                        have C6 := C4.trans c5
                        have hcap : ol ≤ c3 := by
                          obtain ⟨_, ⟨hv, h0⟩ | ⟨g, cap, cur, hv, _, _, hle, _⟩⟩ := HO4.out
                          · simp at hv
                          · simp at hv
                            omega
                        have KWD := Lib.hid (show KW w6 (if c3 = p then some ⟨qa, oa, none⟩ else some ⟨qa, oa + p, none⟩) (out.drop p) from by
                          rcases HKW.out.ch c5 with h | ⟨q1, o1, h1, h2⟩
                          · exact .inl (by rw [h]; simp)
                          · simp only [Option.some.injEq, Addr.mk.injEq] at h1
                            obtain ⟨rfl, rfl, -⟩ := h1
                            rw [if_neg (by omega)]
                            exact KW.drop h2 p)
                        have KWT := Lib.hid ((HKW.out.ch c5).take p)
                        have hp3 : (p : Int) ≤ c3 := by omega
                        have hp4 : (p : Int) ≤ ol := by omega
                        have hp5 : (0 : Int) ≤ p := by omega
                        clear hV4 C4 c5
                        go_wp2
                        have sP : (fun W' : World => W'.heap[V]? = some (.cells #[I cop, U ck, U cx, U cy] 44 (0, 0)) ∧ Ch [] w6 W') w6.drew := ⟨hV6, (Ch.refl _ _).drew⟩
                        refine wp_region_held_drew (S := fun W' : World => W'.heap[V]? = some (.cells #[I cop, U ck, U cx, U cy] 44 (0, 0)) ∧ Ch [] w6 W') (by kernel_rfl) sP ?_
                        intro _
                        simp only [List.size_toArray, List.length_cons, List.length_nil, Nat.reduceAdd]
                        generalize w6.drew = w7 at *
                        clear hV6
                        refine wpAnyH_take (i := 1) (oi := ⟨some 59, _, _, _, _, none⟩) (v := ?_) rfl (by kernel_rfl) (by kernel_rfl) (by kernel_rfl) (fun _ _ _ h => h) (Or.inl ⟨by rfl, ?_⟩) sP ?_
                        rotate_left
                        · intro wq hSq
                          obtain ⟨z1, z2⟩ := hSq
                          first | (go_simp; done) | (go_simp; with_reducible rfl)
                        try simp only [Act.put, List.setIfInBounds_toArray, List.set_cons_zero, List.set_cons_succ]
                        refine wpAnyH_take (i := 2) (oi := ⟨some 60, _, _, _, _, none⟩) (v := ?_) rfl (by kernel_rfl) (by kernel_rfl) (by kernel_rfl) (fun _ _ _ h => h) (Or.inl ⟨by rfl, ?_⟩) sP ?_
                        rotate_left
                        · intro wq hSq
                          obtain ⟨z1, z2⟩ := hSq
                          first | (go_simp; done) | (go_simp; with_reducible rfl)
                        try simp only [Act.put, List.setIfInBounds_toArray, List.set_cons_zero, List.set_cons_succ]
                        refine wpAnyH_take (i := 3) (oi := ⟨some 61, _, _, _, _, none⟩) (v := ?_) rfl (by kernel_rfl) (by kernel_rfl) (by kernel_rfl) (fun _ _ _ h => h) (Or.inl ⟨by rfl, ?_⟩) sP ?_
                        rotate_left
                        · intro wq hSq
                          obtain ⟨z1, z2⟩ := hSq
                          first | (go_simp; done) | (go_simp; with_reducible rfl)
                        try simp only [Act.put, List.setIfInBounds_toArray, List.set_cons_zero, List.set_cons_succ]
                        refine wpAnyH_take (i := 5) (oi := ⟨some 63, _, _, _, _, none⟩) (v := ?_) rfl (by kernel_rfl) (by kernel_rfl) (by kernel_rfl) (fun _ _ _ h => h) (Or.inl ⟨by rfl, ?_⟩) sP ?_
                        rotate_left
                        · intro wq hSq
                          obtain ⟨z1, z2⟩ := hSq
                          first | (go_simp; done) | (go_simp; with_reducible rfl)
                        try simp only [Act.put, List.setIfInBounds_toArray, List.set_cons_zero, List.set_cons_succ]
                        refine wpAnyH_take (i := 6) (oi := ⟨some 64, _, _, _, _, none⟩) (v := ?_) rfl (by kernel_rfl) (by kernel_rfl) (by kernel_rfl) (fun _ _ _ h => h) (Or.inl ⟨by rfl, ?_⟩) sP ?_
                        rotate_left
                        · intro wq hSq
                          obtain ⟨z1, z2⟩ := hSq
                          first | (go_simp; done) | (go_simp; with_reducible rfl)
                        try simp only [Act.put, List.setIfInBounds_toArray, List.set_cons_zero, List.set_cons_succ]
                        refine wpAnyH_take (i := 9) (oi := ⟨some 67, _, _, _, _, none⟩) (v := ?_) rfl (by kernel_rfl) (by kernel_rfl) (by kernel_rfl) (fun _ _ _ h => h) (Or.inl ⟨by rfl, ?_⟩) sP ?_
                        rotate_left
                        · intro wq hSq
                          obtain ⟨z1, z2⟩ := hSq
                          first | (go_simp; done) | (go_simp; with_reducible rfl)
                        try simp only [Act.put, List.setIfInBounds_toArray, List.set_cons_zero, List.set_cons_succ]
                        refine wpAnyH_take (i := 10) (oi := ⟨some 68, _, _, _, _, none⟩) (v := ?_) rfl (by kernel_rfl) (by kernel_rfl) (by kernel_rfl) (fun _ _ _ h => h) (Or.inl ⟨by rfl, ?_⟩) sP ?_
                        rotate_left
                        · intro wq hSq
                          obtain ⟨z1, z2⟩ := hSq
                          first | (go_simp; done) | (go_simp; with_reducible rfl)
                        try simp only [Act.put, List.setIfInBounds_toArray, List.set_cons_zero, List.set_cons_succ]
                        refine wpAnyH_take (i := 11) (oi := ⟨some 69, _, _, _, _, none⟩) (v := ?_) rfl (by kernel_rfl) (by kernel_rfl) (by kernel_rfl) (fun _ _ _ h => h) (Or.inl ⟨by rfl, ?_⟩) sP ?_
                        rotate_left
                        · intro wq hSq
                          obtain ⟨z1, z2⟩ := hSq
                          first | (go_simp; done) | (go_simp; with_reducible rfl)
                        try simp only [Act.put, List.setIfInBounds_toArray, List.set_cons_zero, List.set_cons_succ]
                        have bs0 : ∀ w : World, (Instr.buildSlice 24 0 #[]).run Tryz.prog w = .ok (.slice (some ⟨w.heap.size, 0, none⟩) 0 0) (w.alloc (.cells #[] 22)) := fun w => by kernel_rfl
                        have bs1 : ∀ w : World, (Instr.buildSlice 24 1 #[(0, U ck)]).run Tryz.prog w = .ok (.slice (some ⟨w.heap.size, 0, none⟩) 1 1) (w.alloc (.cells #[U ck] 22)) := fun w => by kernel_rfl
                        have s7 := sP
                        have r7 : w6.heap.size ≤ w7.heap.size := sP.2.size
                        clear sP
                        refine wpAnyH_ready (rs := [0, 7]) (by kernel_rfl) (by simp) ?_
                        refine AllReadyH.cons (o := ⟨some 58, _, _, _, _, none⟩) rfl (fun K hK => ?_) (AllReadyH.cons (o := ⟨some 65, _, _, _, _, none⟩) rfl (fun K hK => ?_) AllReadyH.nil)
                        · go_simp
                          have o8 := own_low (made_own w7) r7
                          have c8 : Ch [] w7 (w7.alloc (.cells #[] 22)) := (Ch.refl _ _).alloc _
                          have s8 : (w7.alloc (.cells #[] 22)).heap[V]? = some (.cells #[I cop, U ck, U cx, U cy] 44 (0, 0)) ∧ Ch [] w6 (w7.alloc (.cells #[] 22)) := ⟨bkeep c8 s7.1, s7.2.trans c8⟩
                          have hsz8 : (w7.alloc (.cells #[] 22)).heap.size = w7.heap.size + 1 := by simp
                          refine hK.out _ _ s8 (fun _ => ?_)
                          clear hK K
                          try simp only [Act.put, List.setIfInBounds_toArray, List.set_cons_zero, List.set_cons_succ]
                          obtain ⟨w8, hw8⟩ : ∃ x, w7.alloc (.cells #[] 22) = x := ⟨_, rfl⟩
                          rw [hw8] at o8 c8 s8 hsz8 ⊢
                          obtain ⟨Ab, hAb⟩ : ∃ x, w7.heap.size = x := ⟨_, rfl⟩
                          rw [hAb] at o8 hsz8 ⊢
                          have r8 : w6.heap.size ≤ w8.heap.size := s8.2.size
                          have HSZ8 := Lib.hid hsz8
                          clear hw8 s7 c8 hsz8
                          refine wpAnyH_ready (rs := [4, 7]) (by kernel_rfl) (by simp) ?_
                          refine AllReadyH.cons (o := ⟨some 62, _, _, _, _, none⟩) rfl (fun K hK => ?_) (AllReadyH.cons (o := ⟨some 65, _, _, _, _, none⟩) rfl (fun K hK => ?_) AllReadyH.nil)
                          · obtain ⟨v62, w9, hrun, o9, hc⟩ := append_kw w8 w6.heap.size _ 0 [] o8 (some ⟨qa, oa, none⟩) p c3 (out.take p) (by rw [List.length_take]; have := HOL.out; omega) (KWT.out.ch s8.2) (by omega) r8
                            rw [Nat.zero_add, List.nil_append] at o9
                            have hc : Ch [Ab] w8 w9 := hc
                            have hAb6 : w6.heap.size ≤ Ab := by have := own_blk o8 Ab (by simp [Value.ownBlock]); exact this
                            have hVA : ¬ V = Ab := by have := (Array.getElem?_eq_some_iff.1 hV6').1; omega
                            have s9 : w9.heap[V]? = some (.cells #[I cop, U ck, U cx, U cy] 44 (0, 0)) ∧ Ch [] w6 w9 := ⟨(hc.block V (Array.getElem?_eq_some_iff.1 s8.1).1 (by simpa using hVA)).trans s8.1, s8.2.trans2 hc (fun t ht => .inr (by rw [List.mem_singleton.1 ht]; exact hAb6))⟩
                            have r9 : w6.heap.size ≤ w9.heap.size := s9.2.size
                            obtain ⟨a62, c62, hv62⟩ := own_val o9
                            subst hv62
                            rw [if_pos (by kernel_rfl)]
                            refine Lib.wp_append_run _ (.tmp 58) (.tmp 61) 24 24 rfl (.slice (some ⟨Ab, 0, none⟩) 0 0) (.slice (some ⟨qa, oa, none⟩) p c3) (by kernel_rfl) (by kernel_rfl) _ _ hrun ?_
                            refine hK.out _ _ s9 (fun _ => ?_)
                            clear hK K hrun hc
                            try simp only [Act.put, List.setIfInBounds_toArray, List.set_cons_zero, List.set_cons_succ]
                            clear s8 o8
                            refine wpAnyH_ready (rs := [7]) (by kernel_rfl) (by simp) ?_
                            refine AllReadyH.cons (o := ⟨some 65, _, _, _, _, none⟩) rfl (fun K hK => ?_) AllReadyH.nil
                            go_simp
                            have c10 : Ch [] w9 (w9.alloc (.cells #[U ck] 22)) := (Ch.refl _ _).alloc _
                            have s10 : (w9.alloc (.cells #[U ck] 22)).heap[V]? = some (.cells #[I cop, U ck, U cx, U cy] 44 (0, 0)) ∧ Ch [] w6 (w9.alloc (.cells #[U ck] 22)) := ⟨bkeep c10 s9.1, s9.2.trans c10⟩
                            have k10 : (w9.alloc (.cells #[U ck] 22)).heap[w9.heap.size]? = some (.cells #[U ck] 22 (0, 0)) := by rw [heap_alloc, if_pos rfl]
                            have o10 := own_keep o9 c10 (by simp)
                            refine hK.out _ _ s10 (fun _ => ?_)
                            clear hK K
                            try simp only [Act.put, List.setIfInBounds_toArray, List.set_cons_zero, List.set_cons_succ]
                            obtain ⟨w10, hw10⟩ : ∃ x, w9.alloc (.cells #[U ck] 22) = x := ⟨_, rfl⟩
                            rw [hw10] at c10 s10 k10 ⊢
                            rw [hw10] at o10
                            obtain ⟨Kb, hKb⟩ : ∃ x, w9.heap.size = x := ⟨_, rfl⟩
                            rw [hKb] at k10 ⊢
                            have r10 : w6.heap.size ≤ w10.heap.size := s10.2.size
                            clear hw10 s9 c10
                            obtain ⟨v66, w11, hrun, o11, hc⟩ := append_kw w10 w6.heap.size _ p _ o10 (some ⟨Kb, 0, none⟩) 1 1 [ck] rfl (.inr ⟨Kb, 0, rfl, fun j x hj => by
                              match j with
                              | 0 =>
                                have : ck = x := by simpa using hj
                                rw [← this]
                                unfold World.cell?
                                rw [k10]
                                rfl
                              | j + 1 => simp at hj⟩) (by omega) r10
                            have hblk := own_blk o10
                            have s11 : w11.heap[V]? = some (.cells #[I cop, U ck, U cx, U cy] 44 (0, 0)) ∧ Ch [] w6 w11 := ⟨(hc.block V (Array.getElem?_eq_some_iff.1 s10.1).1 (fun h => by have := hblk V h; have := (Array.getElem?_eq_some_iff.1 hV6').1; omega)).trans s10.1, s10.2.trans2 hc (fun t ht => .inr (hblk t ht))⟩
                            have r11 : w6.heap.size ≤ w11.heap.size := s11.2.size
                            obtain ⟨a66, c66, hv66⟩ := own_val o11
                            subst hv66
                            refine wpAnyH_ready (rs := [8]) (by kernel_rfl) (by simp) ?_
                            refine AllReadyH.cons (o := ⟨some 66, _, _, _, _, none⟩) rfl (fun K hK => ?_) AllReadyH.nil
                            rw [if_pos (by kernel_rfl)]
                            refine Lib.wp_append_run _ (.tmp 62) (.tmp 65) 24 24 rfl (.slice a62 p c62) (.slice (some ⟨Kb, 0, none⟩) 1 1) (by kernel_rfl) (by kernel_rfl) _ _ hrun ?_
                            refine hK.out _ _ s11 (fun _ => ?_)
                            clear hK K hrun hc hblk
                            try simp only [Act.put, List.setIfInBounds_toArray, List.set_cons_zero, List.set_cons_succ]
                            clear s10 o10 k10
                            obtain ⟨v70, w12, hrun, o12, hc⟩ := append_kw w11 w6.heap.size _ (p + 1) _ o11 (if c3 = p then some ⟨qa, oa, none⟩ else some ⟨qa, oa + p, none⟩) (ol - p) (c3 - p) (out.drop p) (by rw [List.length_drop]; have := HOL.out; omega) (KWD.out.ch s11.2) (by omega) r11
                            have hblk := own_blk o11
                            have s12 : w12.heap[V]? = some (.cells #[I cop, U ck, U cx, U cy] 44 (0, 0)) ∧ Ch [] w6 w12 := ⟨(hc.block V (Array.getElem?_eq_some_iff.1 s11.1).1 (fun h => by have := hblk V h; have := (Array.getElem?_eq_some_iff.1 hV6').1; omega)).trans s11.1, s11.2.trans2 hc (fun t ht => .inr (hblk t ht))⟩
                            obtain ⟨a70, c70, hv70⟩ := own_val o12
                            subst hv70
                            refine wpAnyH_ready (rs := [12]) (by kernel_rfl) (by simp) ?_
                            refine AllReadyH.cons (o := ⟨some 70, _, _, _, _, none⟩) rfl (fun K hK => ?_) AllReadyH.nil
                            rw [if_pos (by kernel_rfl)]
                            refine Lib.wp_append_run _ (.tmp 66) (.tmp 69) 24 24 rfl (.slice a66 (p + 1) c66) (.slice (if c3 = p then some ⟨qa, oa, none⟩ else some ⟨qa, oa + p, none⟩) (ol - p) (c3 - p)) (by kernel_rfl) (by kernel_rfl) _ _ hrun ?_
                            refine hK.out _ _ s12 (fun _ => ?_)
                            clear hK K hrun hc hblk
                            try simp only [Act.put, List.setIfInBounds_toArray, List.set_cons_zero, List.set_cons_succ]
                            refine wpAnyH_take (i := 13) (oi := ⟨some 3, _, _, _, _, none⟩) (v := ?_) rfl (by kernel_rfl) (by kernel_rfl) (by kernel_rfl) (fun _ _ _ h => h) (Or.inl ⟨by rfl, ?_⟩) s12 ?_
                            rotate_left
                            · intro wq hSq
                              first | (go_simp; done) | (go_simp; with_reducible rfl)
                            try simp only [Act.put, List.setIfInBounds_toArray, List.set_cons_zero, List.set_cons_succ]
                            refine wpAnyH_done (by kernel_rfl) ?_ _
                            have HFIN := Lib.hid (show w12.ownsRow w.heap.size 22 1 (.slice a70 (p + 1 + (ol - p)) c70) (insP out ck).length ((insP out ck).map fun k => U k) ∧ Ch [] w w12 from by
                              have hl : (insP out ck).length = p + 1 + (ol - p) := by rw [HI.out, List.length_append, List.length_cons, List.length_take, List.length_drop]; have := HOL.out; omega
                              refine ⟨?_, C6.trans s12.2⟩
                              rw [hl, HI.out, show out.take p ++ ck :: out.drop p = (out.take p ++ [ck]) ++ out.drop p by rw [List.append_assoc]; rfl]
                              exact own_low o12 C6.size)
                            clear s12 o12
                            go_wp2
                            go_roundw
                            case rel => exact ⟨q + 1, by go_num, by omega, by rw [HE3.out]; exact HFIN.out.1, HFIN.out.2⟩
                            case measure => simp [intOf]; omega
                          · go_simp
                            have c13 : Ch [] w8 (w8.alloc (.cells #[U ck] 22)) := (Ch.refl _ _).alloc _
                            have s13 : (w8.alloc (.cells #[U ck] 22)).heap[V]? = some (.cells #[I cop, U ck, U cx, U cy] 44 (0, 0)) ∧ Ch [] w6 (w8.alloc (.cells #[U ck] 22)) := ⟨bkeep c13 s8.1, s8.2.trans c13⟩
                            have k13 : (w8.alloc (.cells #[U ck] 22)).heap[w8.heap.size]? = some (.cells #[U ck] 22 (0, 0)) := by rw [heap_alloc, if_pos rfl]
                            have o13 := own_keep o8 c13 (by simp)
                            have hKA : ¬ w8.heap.size = Ab := by have := HSZ8.out; omega
                            refine hK.out _ _ s13 (fun _ => ?_)
                            clear hK K
                            try simp only [Act.put, List.setIfInBounds_toArray, List.set_cons_zero, List.set_cons_succ]
                            obtain ⟨w13, hw13⟩ : ∃ x, w8.alloc (.cells #[U ck] 22) = x := ⟨_, rfl⟩
                            rw [hw13] at c13 s13 k13 ⊢
                            rw [hw13] at o13
                            obtain ⟨Kb, hKb⟩ : ∃ x, w8.heap.size = x := ⟨_, rfl⟩
                            rw [hKb] at k13 ⊢
                            rw [hKb] at hKA
                            have r13 : w6.heap.size ≤ w13.heap.size := s13.2.size
                            clear hw13 s8 c13
                            refine wpAnyH_ready (rs := [4]) (by kernel_rfl) (by simp) ?_
                            refine AllReadyH.cons (o := ⟨some 62, _, _, _, _, none⟩) rfl (fun K hK => ?_) AllReadyH.nil
                            obtain ⟨v62, w14, hrun, o14, hc⟩ := append_kw w13 w6.heap.size _ 0 [] o13 (some ⟨qa, oa, none⟩) p c3 (out.take p) (by rw [List.length_take]; have := HOL.out; omega) (KWT.out.ch s13.2) (by omega) r13
                            rw [Nat.zero_add, List.nil_append] at o14
                            have hc : Ch [Ab] w13 w14 := hc
                            have hAb6 : w6.heap.size ≤ Ab := by have := own_blk o13 Ab (by simp [Value.ownBlock]); exact this
                            have hVA : ¬ V = Ab := by have := (Array.getElem?_eq_some_iff.1 hV6').1; omega
                            have s14 : w14.heap[V]? = some (.cells #[I cop, U ck, U cx, U cy] 44 (0, 0)) ∧ Ch [] w6 w14 := ⟨(hc.block V (Array.getElem?_eq_some_iff.1 s13.1).1 (by simpa using hVA)).trans s13.1, s13.2.trans2 hc (fun t ht => .inr (by rw [List.mem_singleton.1 ht]; exact hAb6))⟩
                            have k14 := (hc.block Kb (Array.getElem?_eq_some_iff.1 k13).1 (by simpa using hKA)).trans k13
                            have r14 : w6.heap.size ≤ w14.heap.size := s14.2.size
                            obtain ⟨a62, c62, hv62⟩ := own_val o14
                            subst hv62
                            rw [if_pos (by kernel_rfl)]
                            refine Lib.wp_append_run _ (.tmp 58) (.tmp 61) 24 24 rfl (.slice (some ⟨Ab, 0, none⟩) 0 0) (.slice (some ⟨qa, oa, none⟩) p c3) (by kernel_rfl) (by kernel_rfl) _ _ hrun ?_
                            refine hK.out _ _ s14 (fun _ => ?_)
                            clear hK K hrun hc
                            try simp only [Act.put, List.setIfInBounds_toArray, List.set_cons_zero, List.set_cons_succ]
                            clear s13 o13
                            obtain ⟨v66, w15, hrun, o15, hc⟩ := append_kw w14 w6.heap.size _ p _ o14 (some ⟨Kb, 0, none⟩) 1 1 [ck] rfl (.inr ⟨Kb, 0, rfl, fun j x hj => by
                              match j with
                              | 0 =>
                                have : ck = x := by simpa using hj
                                rw [← this]
                                unfold World.cell?
                                rw [k14]
                                rfl
                              | j + 1 => simp at hj⟩) (by omega) r14
                            have hblk := own_blk o14
                            have s15 : w15.heap[V]? = some (.cells #[I cop, U ck, U cx, U cy] 44 (0, 0)) ∧ Ch [] w6 w15 := ⟨(hc.block V (Array.getElem?_eq_some_iff.1 s14.1).1 (fun h => by have := hblk V h; have := (Array.getElem?_eq_some_iff.1 hV6').1; omega)).trans s14.1, s14.2.trans2 hc (fun t ht => .inr (hblk t ht))⟩
                            have r15 : w6.heap.size ≤ w15.heap.size := s15.2.size
                            obtain ⟨a66, c66, hv66⟩ := own_val o15
                            subst hv66
                            refine wpAnyH_ready (rs := [8]) (by kernel_rfl) (by simp) ?_
                            refine AllReadyH.cons (o := ⟨some 66, _, _, _, _, none⟩) rfl (fun K hK => ?_) AllReadyH.nil
                            rw [if_pos (by kernel_rfl)]
                            refine Lib.wp_append_run _ (.tmp 62) (.tmp 65) 24 24 rfl (.slice a62 p c62) (.slice (some ⟨Kb, 0, none⟩) 1 1) (by kernel_rfl) (by kernel_rfl) _ _ hrun ?_
                            refine hK.out _ _ s15 (fun _ => ?_)
                            clear hK K hrun hc hblk
                            try simp only [Act.put, List.setIfInBounds_toArray, List.set_cons_zero, List.set_cons_succ]
                            clear s14 o14 k14
                            obtain ⟨v70, w16, hrun, o16, hc⟩ := append_kw w15 w6.heap.size _ (p + 1) _ o15 (if c3 = p then some ⟨qa, oa, none⟩ else some ⟨qa, oa + p, none⟩) (ol - p) (c3 - p) (out.drop p) (by rw [List.length_drop]; have := HOL.out; omega) (KWD.out.ch s15.2) (by omega) r15
                            have hblk := own_blk o15
                            have s16 : w16.heap[V]? = some (.cells #[I cop, U ck, U cx, U cy] 44 (0, 0)) ∧ Ch [] w6 w16 := ⟨(hc.block V (Array.getElem?_eq_some_iff.1 s15.1).1 (fun h => by have := hblk V h; have := (Array.getElem?_eq_some_iff.1 hV6').1; omega)).trans s15.1, s15.2.trans2 hc (fun t ht => .inr (hblk t ht))⟩
                            obtain ⟨a70, c70, hv70⟩ := own_val o16
                            subst hv70
                            refine wpAnyH_ready (rs := [12]) (by kernel_rfl) (by simp) ?_
                            refine AllReadyH.cons (o := ⟨some 70, _, _, _, _, none⟩) rfl (fun K hK => ?_) AllReadyH.nil
                            rw [if_pos (by kernel_rfl)]
                            refine Lib.wp_append_run _ (.tmp 66) (.tmp 69) 24 24 rfl (.slice a66 (p + 1) c66) (.slice (if c3 = p then some ⟨qa, oa, none⟩ else some ⟨qa, oa + p, none⟩) (ol - p) (c3 - p)) (by kernel_rfl) (by kernel_rfl) _ _ hrun ?_
                            refine hK.out _ _ s16 (fun _ => ?_)
                            clear hK K hrun hc hblk
                            try simp only [Act.put, List.setIfInBounds_toArray, List.set_cons_zero, List.set_cons_succ]
                            refine wpAnyH_take (i := 13) (oi := ⟨some 3, _, _, _, _, none⟩) (v := ?_) rfl (by kernel_rfl) (by kernel_rfl) (by kernel_rfl) (fun _ _ _ h => h) (Or.inl ⟨by rfl, ?_⟩) s16 ?_
                            rotate_left
                            · intro wq hSq
                              first | (go_simp; done) | (go_simp; with_reducible rfl)
                            try simp only [Act.put, List.setIfInBounds_toArray, List.set_cons_zero, List.set_cons_succ]
                            refine wpAnyH_done (by kernel_rfl) ?_ _
                            have HFIN := Lib.hid (show w16.ownsRow w.heap.size 22 1 (.slice a70 (p + 1 + (ol - p)) c70) (insP out ck).length ((insP out ck).map fun k => U k) ∧ Ch [] w w16 from by
                              have hl : (insP out ck).length = p + 1 + (ol - p) := by rw [HI.out, List.length_append, List.length_cons, List.length_take, List.length_drop]; have := HOL.out; omega
                              refine ⟨?_, C6.trans s16.2⟩
                              rw [hl, HI.out, show out.take p ++ ck :: out.drop p = (out.take p ++ [ck]) ++ out.drop p by rw [List.append_assoc]; rfl]
                              exact own_low o16 C6.size)
                            clear s16 o16
                            go_wp2
                            go_roundw
                            case rel => exact ⟨q + 1, by go_num, by omega, by rw [HE3.out]; exact HFIN.out.1, HFIN.out.2⟩
                            case measure => simp [intOf]; omega
                        · go_simp
                          have c17 : Ch [] w7 (w7.alloc (.cells #[U ck] 22)) := (Ch.refl _ _).alloc _
                          have s17 : (w7.alloc (.cells #[U ck] 22)).heap[V]? = some (.cells #[I cop, U ck, U cx, U cy] 44 (0, 0)) ∧ Ch [] w6 (w7.alloc (.cells #[U ck] 22)) := ⟨bkeep c17 s7.1, s7.2.trans c17⟩
                          have k17 : (w7.alloc (.cells #[U ck] 22)).heap[w7.heap.size]? = some (.cells #[U ck] 22 (0, 0)) := by rw [heap_alloc, if_pos rfl]
                          refine hK.out _ _ s17 (fun _ => ?_)
                          clear hK K
                          try simp only [Act.put, List.setIfInBounds_toArray, List.set_cons_zero, List.set_cons_succ]
                          obtain ⟨w17, hw17⟩ : ∃ x, w7.alloc (.cells #[U ck] 22) = x := ⟨_, rfl⟩
                          rw [hw17] at c17 s17 k17 ⊢
                          obtain ⟨Kb, hKb⟩ : ∃ x, w7.heap.size = x := ⟨_, rfl⟩
                          rw [hKb] at k17 ⊢
                          have r17 : w6.heap.size ≤ w17.heap.size := s17.2.size
                          clear hw17 s7 c17
                          refine wpAnyH_ready (rs := [0]) (by kernel_rfl) (by simp) ?_
                          refine AllReadyH.cons (o := ⟨some 58, _, _, _, _, none⟩) rfl (fun K hK => ?_) AllReadyH.nil
                          go_simp
                          have o18 := own_low (made_own w17) r17
                          have c18 : Ch [] w17 (w17.alloc (.cells #[] 22)) := (Ch.refl _ _).alloc _
                          have s18 : (w17.alloc (.cells #[] 22)).heap[V]? = some (.cells #[I cop, U ck, U cx, U cy] 44 (0, 0)) ∧ Ch [] w6 (w17.alloc (.cells #[] 22)) := ⟨bkeep c18 s17.1, s17.2.trans c18⟩
                          have hsz18 : (w17.alloc (.cells #[] 22)).heap.size = w17.heap.size + 1 := by simp
                          have k18 := bkeep c18 k17
                          have hKA : ¬ Kb = w17.heap.size := by have := (Array.getElem?_eq_some_iff.1 k17).1; omega
                          refine hK.out _ _ s18 (fun _ => ?_)
                          clear hK K
                          try simp only [Act.put, List.setIfInBounds_toArray, List.set_cons_zero, List.set_cons_succ]
                          obtain ⟨w18, hw18⟩ : ∃ x, w17.alloc (.cells #[] 22) = x := ⟨_, rfl⟩
                          rw [hw18] at o18 c18 s18 hsz18 ⊢
                          rw [hw18] at k18
                          obtain ⟨Ab, hAb⟩ : ∃ x, w17.heap.size = x := ⟨_, rfl⟩
                          rw [hAb] at o18 hsz18 ⊢
                          rw [hAb] at hKA
                          have r18 : w6.heap.size ≤ w18.heap.size := s18.2.size
                          have HSZ18 := Lib.hid hsz18
                          clear hw18 s17 c18 hsz18
                          refine wpAnyH_ready (rs := [4]) (by kernel_rfl) (by simp) ?_
                          refine AllReadyH.cons (o := ⟨some 62, _, _, _, _, none⟩) rfl (fun K hK => ?_) AllReadyH.nil
                          obtain ⟨v62, w19, hrun, o19, hc⟩ := append_kw w18 w6.heap.size _ 0 [] o18 (some ⟨qa, oa, none⟩) p c3 (out.take p) (by rw [List.length_take]; have := HOL.out; omega) (KWT.out.ch s18.2) (by omega) r18
                          rw [Nat.zero_add, List.nil_append] at o19
                          have hc : Ch [Ab] w18 w19 := hc
                          have hAb6 : w6.heap.size ≤ Ab := by have := own_blk o18 Ab (by simp [Value.ownBlock]); exact this
                          have hVA : ¬ V = Ab := by have := (Array.getElem?_eq_some_iff.1 hV6').1; omega
                          have s19 : w19.heap[V]? = some (.cells #[I cop, U ck, U cx, U cy] 44 (0, 0)) ∧ Ch [] w6 w19 := ⟨(hc.block V (Array.getElem?_eq_some_iff.1 s18.1).1 (by simpa using hVA)).trans s18.1, s18.2.trans2 hc (fun t ht => .inr (by rw [List.mem_singleton.1 ht]; exact hAb6))⟩
                          have k19 := (hc.block Kb (Array.getElem?_eq_some_iff.1 k18).1 (by simpa using hKA)).trans k18
                          have r19 : w6.heap.size ≤ w19.heap.size := s19.2.size
                          obtain ⟨a62, c62, hv62⟩ := own_val o19
                          subst hv62
                          rw [if_pos (by kernel_rfl)]
                          refine Lib.wp_append_run _ (.tmp 58) (.tmp 61) 24 24 rfl (.slice (some ⟨Ab, 0, none⟩) 0 0) (.slice (some ⟨qa, oa, none⟩) p c3) (by kernel_rfl) (by kernel_rfl) _ _ hrun ?_
                          refine hK.out _ _ s19 (fun _ => ?_)
                          clear hK K hrun hc
                          try simp only [Act.put, List.setIfInBounds_toArray, List.set_cons_zero, List.set_cons_succ]
                          clear s18 o18
                          obtain ⟨v66, w20, hrun, o20, hc⟩ := append_kw w19 w6.heap.size _ p _ o19 (some ⟨Kb, 0, none⟩) 1 1 [ck] rfl (.inr ⟨Kb, 0, rfl, fun j x hj => by
                            match j with
                            | 0 =>
                              have : ck = x := by simpa using hj
                              rw [← this]
                              unfold World.cell?
                              rw [k19]
                              rfl
                            | j + 1 => simp at hj⟩) (by omega) r19
                          have hblk := own_blk o19
                          have s20 : w20.heap[V]? = some (.cells #[I cop, U ck, U cx, U cy] 44 (0, 0)) ∧ Ch [] w6 w20 := ⟨(hc.block V (Array.getElem?_eq_some_iff.1 s19.1).1 (fun h => by have := hblk V h; have := (Array.getElem?_eq_some_iff.1 hV6').1; omega)).trans s19.1, s19.2.trans2 hc (fun t ht => .inr (hblk t ht))⟩
                          have r20 : w6.heap.size ≤ w20.heap.size := s20.2.size
                          obtain ⟨a66, c66, hv66⟩ := own_val o20
                          subst hv66
                          refine wpAnyH_ready (rs := [8]) (by kernel_rfl) (by simp) ?_
                          refine AllReadyH.cons (o := ⟨some 66, _, _, _, _, none⟩) rfl (fun K hK => ?_) AllReadyH.nil
                          rw [if_pos (by kernel_rfl)]
                          refine Lib.wp_append_run _ (.tmp 62) (.tmp 65) 24 24 rfl (.slice a62 p c62) (.slice (some ⟨Kb, 0, none⟩) 1 1) (by kernel_rfl) (by kernel_rfl) _ _ hrun ?_
                          refine hK.out _ _ s20 (fun _ => ?_)
                          clear hK K hrun hc hblk
                          try simp only [Act.put, List.setIfInBounds_toArray, List.set_cons_zero, List.set_cons_succ]
                          clear s19 o19 k19
                          obtain ⟨v70, w21, hrun, o21, hc⟩ := append_kw w20 w6.heap.size _ (p + 1) _ o20 (if c3 = p then some ⟨qa, oa, none⟩ else some ⟨qa, oa + p, none⟩) (ol - p) (c3 - p) (out.drop p) (by rw [List.length_drop]; have := HOL.out; omega) (KWD.out.ch s20.2) (by omega) r20
                          have hblk := own_blk o20
                          have s21 : w21.heap[V]? = some (.cells #[I cop, U ck, U cx, U cy] 44 (0, 0)) ∧ Ch [] w6 w21 := ⟨(hc.block V (Array.getElem?_eq_some_iff.1 s20.1).1 (fun h => by have := hblk V h; have := (Array.getElem?_eq_some_iff.1 hV6').1; omega)).trans s20.1, s20.2.trans2 hc (fun t ht => .inr (hblk t ht))⟩
                          obtain ⟨a70, c70, hv70⟩ := own_val o21
                          subst hv70
                          refine wpAnyH_ready (rs := [12]) (by kernel_rfl) (by simp) ?_
                          refine AllReadyH.cons (o := ⟨some 70, _, _, _, _, none⟩) rfl (fun K hK => ?_) AllReadyH.nil
                          rw [if_pos (by kernel_rfl)]
                          refine Lib.wp_append_run _ (.tmp 66) (.tmp 69) 24 24 rfl (.slice a66 (p + 1) c66) (.slice (if c3 = p then some ⟨qa, oa, none⟩ else some ⟨qa, oa + p, none⟩) (ol - p) (c3 - p)) (by kernel_rfl) (by kernel_rfl) _ _ hrun ?_
                          refine hK.out _ _ s21 (fun _ => ?_)
                          clear hK K hrun hc hblk
                          try simp only [Act.put, List.setIfInBounds_toArray, List.set_cons_zero, List.set_cons_succ]
                          refine wpAnyH_take (i := 13) (oi := ⟨some 3, _, _, _, _, none⟩) (v := ?_) rfl (by kernel_rfl) (by kernel_rfl) (by kernel_rfl) (fun _ _ _ h => h) (Or.inl ⟨by rfl, ?_⟩) s21 ?_
                          rotate_left
                          · intro wq hSq
                            first | (go_simp; done) | (go_simp; with_reducible rfl)
                          try simp only [Act.put, List.setIfInBounds_toArray, List.set_cons_zero, List.set_cons_succ]
                          refine wpAnyH_done (by kernel_rfl) ?_ _
                          have HFIN := Lib.hid (show w21.ownsRow w.heap.size 22 1 (.slice a70 (p + 1 + (ol - p)) c70) (insP out ck).length ((insP out ck).map fun k => U k) ∧ Ch [] w w21 from by
                            have hl : (insP out ck).length = p + 1 + (ol - p) := by rw [HI.out, List.length_append, List.length_cons, List.length_take, List.length_drop]; have := HOL.out; omega
                            refine ⟨?_, C6.trans s21.2⟩
                            rw [hl, HI.out, show out.take p ++ ck :: out.drop p = (out.take p ++ [ck]) ++ out.drop p by rw [List.append_assoc]; rfl]
                            exact own_low o21 C6.size)
                          clear s21 o21
                          go_wp2
                          go_roundw
                          case rel => exact ⟨q + 1, by go_num, by omega, by rw [HE3.out]; exact HFIN.out.1, HFIN.out.2⟩
                          case measure => simp [intOf]; omega
end Go.Proofs.Hc
