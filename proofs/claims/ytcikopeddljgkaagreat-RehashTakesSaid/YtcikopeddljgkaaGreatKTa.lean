/- The reference of layer 16: Cell, TableWords. -/
import Derived.Test.YtcikopeddljgkaaGreatKHxu
set_option linter.unusedSimpArgs false
set_option linter.unusedVariables false
set_option maxHeartbeats 1000000
set_option maxRecDepth 100000
namespace Go.Proofs.Hc
open Go.RowKit
attribute [local go_sem] zbs zca zax zbc zbn zba zbm zbo zbu signed64 signed8 zar BitVec.ofInt_add BitVec.ofInt_mul ofInt_sub' zay zaz wide8 eqN neN zbz shr1 shr7 shr56
attribute [local go_sem high] zbb zbt
attribute [local go_sem] zag zbw zah zas zad zbe zaq zal zbl zan zbd zbf
attribute [local go_sem] load26 load73 load23 store26 build73
attribute [local go_sem ↓] lrow26 lrow73 lrow23 srow26 zero26 brow73 zac zaw zbg zaa zab
attribute [local go_sem] zai zav zat zbj zbk zbp zao zau zbq zbi zbh
attribute [local go_sem] nn2 nm2 nn3 nm3 nn4 nm4 nn5 nm5 nn6 nm6 nn7 nm7 nn8 nm8
section
attribute [local go_sem] zar
attribute [local go_sem] box26 zbx cell0 cell1 cell2 cell3 cell4 cell5 cell6
def rwords (t : Tab) (a b : Nat) : List (BitVec 64) :=
  [t.count, BitVec.ofInt 64 t.depth + 256#64 * t.pre, BitVec.ofInt 64 t.can, BitVec.ofInt 64 t.live, t.c 0, t.c 1] ++ (List.range a).map t.k ++ (List.range b).map t.v
theorem rwords_k (t : Tab) (a : Nat) : rwords t a 0 ++ [t.k a] = rwords t (a + 1) 0 := by
  unfold rwords
  rw [List.range_succ, List.map_append]
  simp
theorem rwords_v (t : Tab) (a b : Nat) : rwords t a b ++ [t.v b] = rwords t a (b + 1) := by
  unfold rwords
  rw [List.range_succ, List.map_append]
  simp
theorem rwords_len (t : Tab) (a b : Nat) : (rwords t a b).length = 6 + a + b := by unfold rwords; simp; omega
theorem index16 (av : Array Value) (n : Nat) (x : BitVec 64) (hn : n < 16) (h : av[n]? = some (U x)) (w : World) : (Instr.index 24 (.agg av) (.int .i64 (n : Int))).run Tryz.prog w = .ok (U x) w := by
  simp [Instr.index, run_underlying Tryz.underlying24, asIntOf, go_sem, h, hn]
theorem r16Words_any (t : Tab) (w : World) : Calls Tryz.prog 182 #[.agg (tcells t)] w fun e w' => ∃ v, e = .returned v ∧ w'.ownsRow w.heap.size 22 1 v 40 ((rwords t 16 16 ++ [0#64, 0#64]).map fun x => U x) ∧ Ch [] w w' := by
  obtain ⟨i0, hi, hz0, hz1, hz2⟩ := info_parts infoU
  have hka : ∀ j, j < 16 → (#[t.cell 7, t.cell 8, t.cell 9, t.cell 10, t.cell 11, t.cell 12, t.cell 13, t.cell 14, t.cell 15, t.cell 16, t.cell 17, t.cell 18, t.cell 19, t.cell 20, t.cell 21, t.cell 22] : Array Value)[j]? = some (U (t.k j)) := by
    intro j hj
    match j, hj with
    | 0, _ => rfl | 1, _ => rfl | 2, _ => rfl | 3, _ => rfl | 4, _ => rfl | 5, _ => rfl | 6, _ => rfl | 7, _ => rfl
    | 8, _ => rfl | 9, _ => rfl | 10, _ => rfl | 11, _ => rfl | 12, _ => rfl | 13, _ => rfl | 14, _ => rfl | 15, _ => rfl
    | n + 16, h => exact absurd h (by omega)
  have hva : ∀ j, j < 16 → (#[t.cell 23, t.cell 24, t.cell 25, t.cell 26, t.cell 27, t.cell 28, t.cell 29, t.cell 30, t.cell 31, t.cell 32, t.cell 33, t.cell 34, t.cell 35, t.cell 36, t.cell 37, t.cell 38] : Array Value)[j]? = some (U (t.v j)) := by
    intro j hj
    match j, hj with
    | 0, _ => rfl | 1, _ => rfl | 2, _ => rfl | 3, _ => rfl | 4, _ => rfl | 5, _ => rfl | 6, _ => rfl | 7, _ => rfl
    | 8, _ => rfl | 9, _ => rfl | 10, _ => rfl | 11, _ => rfl | 12, _ => rfl | 13, _ => rfl | 14, _ => rfl | 15, _ => rfl
    | n + 16, h => exact absurd h (by omega)
  obtain ⟨WA, hWA⟩ : ∃ W, w.alloc (.cells (tcells t) 26) = W := ⟨_, rfl⟩
  have hsA : w.heap.size + 1 = WA.heap.size := by rw [← hWA]; simp
  have hCA : Ch [] w WA := by rw [← hWA]; exact (Ch.refl [] w).alloc _
  have hbA : WA.heap[w.heap.size]? = some (.cells (tcells t) 26 (0, 0)) := by rw [← hWA]; simp [go_sem]
  have hcel : ∀ (w : World) (xs : List Value), ∀ j u, xs[j]? = some u → (w.alloc (.cells xs.toArray 22)).cell? ((⟨w.heap.size, 0, none⟩ : Addr).add j) = some u := fun w xs j u hj => by
    rw [Addr.add_lit, zag, zac, if_pos rfl, Option.bind_some, zah, Nat.zero_add]
    simpa using hj
  go_enter Tryz.func182, Tryz.ntmps182
  go_wp2
  obtain ⟨ka, hk⟩ : ∃ ka : Array Value, #[t.cell 7, t.cell 8, t.cell 9, t.cell 10, t.cell 11, t.cell 12, t.cell 13, t.cell 14, t.cell 15, t.cell 16, t.cell 17, t.cell 18, t.cell 19, t.cell 20, t.cell 21, t.cell 22] = ka := ⟨_, rfl⟩
  rw [hk] at hka
  rw [hk]
  have hks : ka.size = 16 := by rw [← hk]; rfl
  clear hk
  obtain ⟨R0, hR0⟩ : ∃ R : Array Value, #[U t.count, .int .u64 (N (BitVec.ofInt 64 t.depth + 256#64 * t.pre)), .int .u64 (N (BitVec.ofInt 64 t.can)), .int .u64 (N (BitVec.ofInt 64 t.live)), U (t.c 0), U (t.c 1)] = R := ⟨_, rfl⟩
  have hR : R0.size = 6 ∧ R0.toList = (rwords t 0 0).map fun x => U x := by rw [← hR0]; exact ⟨rfl, rfl⟩
  rw [hR0]
  clear hR0
  have h0 : (WA.alloc (.cells R0 22)).ownsRow WA.heap.size 22 1 (.slice (some ⟨WA.heap.size, 0, none⟩) 6 6) 6 ((rwords t 0 0).map fun x => U x) :=
    ⟨by rw [List.length_map, rwords_len], .inr ⟨WA.heap.size, 6, R0, rfl, Nat.le_refl _, by rw [zac, if_pos rfl], by omega, by unfold maxLen; omega, by rw [hR.1], by rw [← hR.2, List.take_of_length_le (by rw [Array.length_toList, hR.1]; omega)]⟩⟩
  have hC0 : Ch [] WA (WA.alloc (.cells R0 22)) := (Ch.refl [] WA).alloc _
  clear hR
  generalize WA.alloc (.cells R0 22) = W1 at *
  go_loopw [3, 32] (fun v i wr => ∃ j : Nat, i = .int .i64 j ∧ j ≤ 16 ∧ wr.ownsRow WA.heap.size 22 1 v (6 + j) ((rwords t j 0).map fun x => U x) ∧ Ch [] WA wr) (fun _ i _ => 16 - (intOf i).toNat)
  case atStart => exact ⟨0, rfl, by omega, h0, hC0⟩
  case round =>
    obtain ⟨j, hj, hj8, hown, hcr⟩ := hrel
    subst hj
    have hz := hcr.size
    clear h0 hC0
    by_cases hlt : j < 16
    · have hob := own_block hown
      have hkj := hka j hlt
      have HS := Lib.hid (rwords_k t j)
      have HL := Lib.hid (rwords_len t j 0)
      have hltI : (j : Int) < 16 := by omega
      have X1 := fun w => index16 ka j _ hlt hkj w
      clear hka hva
      obtain ⟨ys, hys⟩ : ∃ ys, rwords t j 0 = ys := ⟨_, rfl⟩
      rw [hys] at hown HS HL
      obtain ⟨kj, hkk⟩ : ∃ x, t.k j = x := ⟨_, rfl⟩
      rw [hkk] at hkj HS X1
      go_wp2_with (at_builtin; refine wpList_append_own _ rfl _ _ 44 rfl WA.heap.size 22 i0 (U 0#64) 1 8 Tryz.underlying44 hi hz0 hz1 hz2 rfl (by decide) _ _ _ rfl (hown.alloc _) ⟨wr.heap.size, 0, none⟩ 1 1 [U kj] rfl rfl (hcel _ [U kj]) (by simp [Value.oneCell']) (by unfold maxLen; omega) (by omega) (by simp; omega) ?_; intro v' w1 hown' hgrow _; have HO := Lib.hid hown'; have HG := Lib.hid hgrow; clear hown' hgrow)
      have hgr : (wr.alloc (.cells #[U kj] 22)).grownBy w1 u3.ownBlock := HG.out
      have hW1 : Ch (u3.ownBlock.toList) wr w1 := (((Ch.refl [] wr).alloc (.cells #[U kj] 22)).of_nil).trans2 (Ch.of_grown (S := u3.ownBlock.toList) hgr (fun k hk => by simp [hk])) (fun t ht => .inl ht)
      have hSS : ∀ s ∈ u3.ownBlock.toList, WA.heap.size ≤ s := fun s hs => hob s (by simpa using hs)
      have HO2 : w1.ownsRow WA.heap.size 22 1 v' (6 + j + 1) (ys.map (fun x => U x) ++ [U kj]) := HO.out
      go_roundw
      case rel => exact ⟨j + 1, by go_num, hlt, by rw [← HS.out, List.map_append]; exact HO2, hcr.trans2 hW1 (fun t ht => .inr (hSS t ht))⟩
      case measure => simp [intOf]; omega
    · have hj16 : j = 16 := by omega
      rw [hj16] at hown
      have hnI : ¬ (j : Int) < 16 := by omega
      clear hj16 hlt hj8
      have hbW : wr.heap[w.heap.size]? = some (.cells (tcells t) 26 (0, 0)) := hkeep hcr hbA
      clear hka
      go_wp2
      obtain ⟨va, hv⟩ : ∃ va : Array Value, #[t.cell 23, t.cell 24, t.cell 25, t.cell 26, t.cell 27, t.cell 28, t.cell 29, t.cell 30, t.cell 31, t.cell 32, t.cell 33, t.cell 34, t.cell 35, t.cell 36, t.cell 37, t.cell 38] = va := ⟨_, rfl⟩
      rw [hv] at hva
      rw [hv]
      have hvs : va.size = 16 := by rw [← hv]; rfl
      clear hv hbW
      have HO1 := Lib.hid hown
      have HC1 := Lib.hid hcr
      clear hown hcr hz
      go_loopw [3, 42] (fun v i wr => ∃ j : Nat, i = .int .i64 j ∧ j ≤ 16 ∧ wr.ownsRow WA.heap.size 22 1 v (22 + j) ((rwords t 16 j).map fun x => U x) ∧ Ch [] WA wr) (fun _ i _ => 16 - (intOf i).toNat)
      case atStart => exact ⟨0, rfl, by omega, HO1.out, HC1.out⟩
      case round =>
        obtain ⟨j, hj, hj8, hown, hcr⟩ := hrel
        subst hj
        have hz := hcr.size
        clear HO1 HC1
        by_cases hlt : j < 16
        · have hob := own_block hown
          have hkj := hva j hlt
          have HS := Lib.hid (rwords_v t 16 j)
          have HL := Lib.hid (rwords_len t 16 j)
          have hltI : (j : Int) < 16 := by omega
          have X1 := fun w => index16 va j _ hlt hkj w
          clear hva
          obtain ⟨ys, hys⟩ : ∃ ys, rwords t 16 j = ys := ⟨_, rfl⟩
          rw [hys] at hown HS HL
          obtain ⟨kj, hkk⟩ : ∃ x, t.v j = x := ⟨_, rfl⟩
          rw [hkk] at hkj HS X1
          go_wp2_with (at_builtin; refine wpList_append_own _ rfl _ _ 44 rfl WA.heap.size 22 i0 (U 0#64) 1 8 Tryz.underlying44 hi hz0 hz1 hz2 rfl (by decide) _ _ _ rfl (hown.alloc _) ⟨wr.heap.size, 0, none⟩ 1 1 [U kj] rfl rfl (hcel _ [U kj]) (by simp [Value.oneCell']) (by unfold maxLen; omega) (by omega) (by simp; omega) ?_; intro v' w1 hown' hgrow _; have HO := Lib.hid hown'; have HG := Lib.hid hgrow; clear hown' hgrow)
          have hgr : (wr.alloc (.cells #[U kj] 22)).grownBy w1 u3.ownBlock := HG.out
          have hW1 : Ch (u3.ownBlock.toList) wr w1 := (((Ch.refl [] wr).alloc (.cells #[U kj] 22)).of_nil).trans2 (Ch.of_grown (S := u3.ownBlock.toList) hgr (fun k hk => by simp [hk])) (fun t ht => .inl ht)
          have hSS : ∀ s ∈ u3.ownBlock.toList, WA.heap.size ≤ s := fun s hs => hob s (by simpa using hs)
          have HO2 : w1.ownsRow WA.heap.size 22 1 v' (22 + j + 1) (ys.map (fun x => U x) ++ [U kj]) := HO.out
          go_roundw
          case rel => exact ⟨j + 1, by go_num, hlt, by rw [← HS.out, List.map_append]; exact HO2, hcr.trans2 hW1 (fun t ht => .inr (hSS t ht))⟩
          case measure => simp [intOf]; omega
        · have hj16 : j = 16 := by omega
          subst hj16
          have hob := own_block hown
          go_wp2_with (at_builtin; refine wpList_append_own _ rfl _ _ 44 rfl WA.heap.size 22 i0 (U 0#64) 1 8 Tryz.underlying44 hi hz0 hz1 hz2 rfl (by decide) _ _ _ rfl (hown.alloc _) ⟨wr.heap.size, 0, none⟩ 2 2 [U 0#64, U 0#64] rfl rfl (hcel _ [U 0#64, U 0#64]) (by simp [Value.oneCell']) (by unfold maxLen; omega) (by omega) (by simp; omega) ?_; intro v' w1 hown' hgrow _; have HO := Lib.hid hown'; have HG := Lib.hid hgrow; clear hown' hgrow)
          have hgr : (wr.alloc (.cells #[U 0#64, U 0#64] 22)).grownBy w1 u3.ownBlock := HG.out
          have hW1 : Ch (u3.ownBlock.toList) wr w1 := (((Ch.refl [] wr).alloc (.cells #[U 0#64, U 0#64] 22)).of_nil).trans2 (Ch.of_grown (S := u3.ownBlock.toList) hgr (fun k hk => by simp [hk])) (fun t ht => .inl ht)
          have hSS : ∀ s ∈ u3.ownBlock.toList, WA.heap.size ≤ s := fun s hs => hob s (by simpa using hs)
          have HO2 : w1.ownsRow WA.heap.size 22 1 v' 40 ((rwords t 16 16).map (fun x => U x) ++ [U 0#64, U 0#64]) := HO.out
          go_ret
          refine ⟨v', rfl, ?_, hCA.trans (hcr.trans2 hW1 (fun t ht => .inr (hSS t ht)))⟩
          rw [List.map_append]
          exact ⟨HO2.1, HO2.2.elim .inl (fun ⟨g, cap, cur, a, b, c⟩ => .inr ⟨g, cap, cur, a, by omega, c⟩)⟩
end
end Go.Proofs.Hc
namespace Go.Proofs.Hc
open Go.RowKit
def readR (ws : Nat → BitVec 64) : Tab := ⟨ws 0, ((ws 1 % 256#64).toNat : Int), ws 1 / 256#64, ((ws 2 % 256#64).toNat : Int), ((ws 3 % 256#64).toNat : Int), fun g => if g < 2 then ws (4 + g) else 0#64, fun j => if j < 16 then ws (6 + j) else 0#64, fun j => if j < 16 then ws (22 + j) else 0#64⟩
def wsL (ws : Nat → BitVec 64) : List (BitVec 64) := (List.range 40).map ws
theorem wsL_len (ws : Nat → BitVec 64) : (wsL ws).length = 40 := by unfold wsL; simp
theorem wsL_get (ws : Nat → BitVec 64) (i : Nat) (h : i < 40) : (wsL ws)[i]? = some (ws i) := by
  unfold wsL
  rw [List.getElem?_map, List.getElem?_range h]
  rfl
def rlist (t : Tab) : List (BitVec 64) := rwords t 16 16 ++ [0#64, 0#64]
theorem rlist_len (t : Tab) : (rlist t).length = 40 := by unfold rlist; rw [List.length_append, rwords_len]; rfl
def rword (t : Tab) (i : Nat) : BitVec 64 := if i = 1 then BitVec.ofInt 64 t.depth + 256#64 * t.pre else tword t i
theorem rlist_eq (t : Tab) : rlist t = wsL (rword t) := by kernel_rfl
theorem wsL_inj {u v : Nat → BitVec 64} (h : wsL u = wsL v) (i : Nat) (hi : i < 40) : u i = v i := by
  have h2 : (wsL u)[i]? = (wsL v)[i]? := congrArg (fun l : List (BitVec 64) => l[i]?) h
  rw [wsL_get u i hi, wsL_get v i hi] at h2
  exact Option.some.inj h2
theorem wsL_congr {u v : Nat → BitVec 64} (h : ∀ i, i < 40 → u i = v i) : wsL u = wsL v := by
  unfold wsL
  exact List.map_congr_left fun i hi => h i (List.mem_range.1 hi)
theorem umod256 (x : BitVec 64) : x % 256#64 = x &&& 255#64 := by
  apply BitVec.eq_of_toNat_eq
  rw [BitVec.toNat_umod, BitVec.toNat_and]
  exact (Nat.and_two_pow_sub_one_eq_mod x.toNat 8).symm
theorem udiv256 (x : BitVec 64) : x / 256#64 = x >>> 8 := by
  apply BitVec.eq_of_toNat_eq
  rw [BitVec.toNat_udiv, BitVec.toNat_ushiftRight, Nat.shiftRight_eq_div_pow]
  rfl
theorem ofInt_toNat (x : BitVec 64) : BitVec.ofInt 64 (x.toNat : Int) = x := by
  rw [BitVec.ofInt_natCast]; simp
theorem mod_div256 (x : BitVec 64) : x % 256#64 + 256#64 * (x / 256#64) = x := by
  apply BitVec.eq_of_toNat_eq
  rw [BitVec.toNat_add, BitVec.toNat_mul, BitVec.toNat_umod, BitVec.toNat_udiv]
  have := x.isLt
  have e : (256#64 : BitVec 64).toNat = 256 := rfl
  rw [e]
  omega
theorem mod_small {x : BitVec 64} (h : x.toNat ≤ 14) : x % 256#64 = x := by
  apply BitVec.eq_of_toNat_eq
  rw [BitVec.toNat_umod]
  exact Nat.mod_eq_of_lt (by have e : (256#64 : BitVec 64).toNat = 256 := rfl; omega)
theorem readR_eq {ws : Nat → BitVec 64} (h2 : (ws 2).toNat ≤ 14) (h3 : (ws 3).toNat ≤ 14) : readR ws = readTab ws := by
  unfold readR readTab
  rw [mod_small h2, mod_small h3, umod256, udiv256]
theorem rword_lo (ws : Nat → BitVec 64) (i : Nat) (hi : i < 38) (h2 : i ≠ 2) (h3 : i ≠ 3) : rword (readR ws) i = ws i := by
  unfold rword
  by_cases h1 : i = 1
  · subst h1
    rw [if_pos rfl]
    show BitVec.ofInt 64 ((ws 1 % 256#64).toNat : Int) + 256#64 * (ws 1 / 256#64) = ws 1
    rw [ofInt_toNat, mod_div256]
  · rw [if_neg h1]
    unfold tword
    by_cases h0 : i = 0
    · subst h0; rfl
    · rw [if_neg h0, if_neg h1, if_neg h2, if_neg h3]
      by_cases h6 : i < 6
      · rw [if_pos h6]
        show (if i - 4 < 2 then ws (4 + (i - 4)) else 0#64) = ws i
        rw [if_pos (by omega), show 4 + (i - 4) = i by omega]
      · rw [if_neg h6]
        by_cases h22 : i < 22
        · rw [if_pos h22]
          show (if i - 6 < 16 then ws (6 + (i - 6)) else 0#64) = ws i
          rw [if_pos (by omega), show 6 + (i - 6) = i by omega]
        · rw [if_neg h22, if_pos hi]
          show (if i - 22 < 16 then ws (22 + (i - 22)) else 0#64) = ws i
          rw [if_pos (by omega), show 22 + (i - 22) = i by omega]
theorem rword_2 (ws : Nat → BitVec 64) : rword (readR ws) 2 = ws 2 % 256#64 := ofInt_toNat _
theorem rword_3 (ws : Nat → BitVec 64) : rword (readR ws) 3 = ws 3 % 256#64 := ofInt_toNat _
theorem read_same (ws : Nat → BitVec 64) : readOk ws = (flatT (readR ws) && decide (wsL ws = rlist (readR ws))) := by
  rw [Bool.eq_iff_iff, Bool.and_eq_true, decide_eq_true_iff, rlist_eq]
  unfold readOk
  simp only [Bool.and_eq_true, decide_eq_true_iff, beq_iff_eq]
  constructor
  · rintro ⟨⟨⟨⟨h2, h3⟩, hf⟩, h38⟩, h39⟩
    rw [readR_eq h2 h3]
    refine ⟨hf, ?_⟩
    rw [← readR_eq h2 h3]
    refine wsL_congr fun i hi => ?_
    by_cases e2 : i = 2
    · subst e2; rw [rword_2, mod_small h2]
    · by_cases e3 : i = 3
      · subst e3; rw [rword_3, mod_small h3]
      · by_cases h : i < 38
        · exact (rword_lo ws i h e2 e3).symm
        · rcases (show i = 38 ∨ i = 39 by omega) with rfl | rfl
          · rw [h38]; rfl
          · rw [h39]; rfl
  · rintro ⟨hf, hs⟩
    obtain ⟨_, _, _, _, c1, _, l1⟩ := (flatT_iff _).1 hf
    have e2 : ws 2 = ws 2 % 256#64 := (wsL_inj hs 2 (by omega)).trans (rword_2 ws)
    have e3 : ws 3 = ws 3 % 256#64 := (wsL_inj hs 3 (by omega)).trans (rword_3 ws)
    have h2 : (ws 2).toNat ≤ 14 := by
      have : ((ws 2 % 256#64).toNat : Int) ≤ 14 := c1
      rw [← e2] at this
      omega
    have h3 : (ws 3).toNat ≤ 14 := by
      have : ((ws 3 % 256#64).toNat : Int) ≤ 14 := l1
      rw [← e3] at this
      omega
    rw [← readR_eq h2 h3]
    exact ⟨⟨⟨⟨h2, h3⟩, hf⟩, wsL_inj hs 38 (by omega)⟩, wsL_inj hs 39 (by omega)⟩
theorem readOk_eq {ws : Nat → BitVec 64} (h : readOk ws = true) : readR ws = readTab ws := by
  unfold readOk at h
  simp only [Bool.and_eq_true, decide_eq_true_iff, beq_iff_eq] at h
  exact readR_eq h.1.1.1.1 h.1.1.1.2
theorem rlist_flat {t : Tab} (hf : flatT t = true) : rlist t = twords t := by
  rw [rlist_eq]
  refine wsL_congr fun i hi => ?_
  unfold rword
  by_cases h : i = 1
  · subst h
    rw [if_pos rfl]
    show _ = wd1 t
    have hp := pre_small hf
    obtain ⟨h0, h5, _⟩ := (flatT_iff t).1 hf
    have hd : t.depth = 0 ∨ t.depth = 1 ∨ t.depth = 2 ∨ t.depth = 3 ∨ t.depth = 4 ∨ t.depth = 5 := by omega
    have hpp : t.pre = BitVec.ofNat 64 t.pre.toNat := by simp
    unfold wd1
    generalize t.pre.toNat = n at hp hpp
    rw [hpp]
    have : ∀ n : Nat, n < 32 → ∀ d : Nat, d < 6 → BitVec.ofInt 64 (d : Int) + 256#64 * BitVec.ofNat 64 n = BitVec.ofInt 64 (d : Int) ||| BitVec.ofNat 64 n * 256#64 := by decide +kernel
    rcases hd with h | h | h | h | h | h <;> rw [h]
    · exact this n hp 0 (by omega)
    · exact this n hp 1 (by omega)
    · exact this n hp 2 (by omega)
    · exact this n hp 3 (by omega)
    · exact this n hp 4 (by omega)
    · exact this n hp 5 (by omega)
  · rw [if_neg h]
end Go.Proofs.Hc
