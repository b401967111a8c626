/- Rows of words that may lie anywhere; the reference of layer 7: Prefix, once, Many, Most, Deepest; slices.Equal at words. -/
import Derived.Test.YtfoicjijngfhbaaGreatDoorKBc
import Derived.Test.YtfoicjijngfhbaaGreatDoorKBf
import Derived.Test.YtfoicjijngfhbaaGreatDoorKBk
import Derived.Test.YtfoicjijngfhbaaGreatDoorKBo
import Derived.Test.YtfoicjijngfhbaaGreatDoorKDa
import Derived.Test.YtfoicjijngfhbaaGreatDoorKFm
import Derived.Test.YtfoicjijngfhbaaGreatDoorKEf
import Derived.Test.YtfoicjijngfhbaaGreatDoorKEk
import Derived.Test.YtfoicjijngfhbaaGreatDoorKFa
import Derived.Test.YtfoicjijngfhbaaGreatDoorKHm
import Derived.Test.YtfoicjijngfhbaaGreatDoorKHr
import Derived.Below
import Derived.BigQuiet
import Derived.Deep.Cut
import Derived.Deep.Draws
import Derived.Deep.QuietTactic
import Derived.Deep.RegionHeld
import Derived.Laws.AppendOwn
import Derived.Laws.CopyRow
import Derived.Laws.EntriesVeiled
import Derived.Laws.Tables
import Derived.Lib.AppendZerosOnto
import Derived.Lib.Hide
import Derived.LoopIn
import Derived.LoopNIn
import Derived.Maps.RangeWalk
import Derived.Maps.Views
import Derived.OwnWalkIn
import Derived.RangeFuncCalls
import Derived.RangeFuncRecord
import Derived.RangeFuncSeq
import Derived.Recover
import Derived.TacticsInMore
import Derived.Test.YtfoicjijngfhbaaGreatDoorProg
import Derived.WalkKit
import Derived.WalkLawsBesides
set_option linter.unusedSimpArgs false
set_option linter.unusedVariables false
namespace Go.Proofs.Hc
open Go.RowKit
set_option linter.unusedVariables false
set_option linter.unusedSimpArgs false
attribute [local go_sem] wrap_u64 wrap_u8 bits_xor64 bits_and64 bits_or64 bits_not64 bits_xor8 bits_and8 bits_or8 signed64 signed8 ofInt_N BitVec.ofInt_add BitVec.ofInt_mul ofInt_sub' ofInt8_N64 ofInt64_N8 wide8 eqN neN shr_pow shr1 shr7 shr56
attribute [local go_sem high] bits_com64 shl_wrap
attribute [local go_sem] nn2 nm2 nn3 nm3 nn4 nm4 nn5 nm5 nn6 nm6 nn7 nm7 nn8 nm8
attribute [local go_sem] Oper.semAt_some make_func1 make_funcB
attribute [local go_sem] cell_heap ice_heap cellAt_cells iceAt_cells setAt_cells size_setCell rowAt_cells canLay_cells laidAt_cells size_onObj rowRes_some layRes_true
attribute [local go_sem ↓] heap_alloc heap_drew heap_drewN heap_setCell heap_putObj heap_onObj
/-- Words at a slice's address. -/
def KW (w : World) (a : Option Addr) (ks : List (BitVec 64)) : Prop := ks = [] ∨ ∃ q o, a = some ⟨q, o, none⟩ ∧ ∀ (j : Nat) x, ks[j]? = some x → w.cell? ⟨q, o + j, none⟩ = some (U x)
theorem KW.ch {w w' : World} {a : Option Addr} {ks : List (BitVec 64)} (h : KW w a ks) (c : Ch [] w w') : KW w' a ks := by
  rcases h with h | ⟨q, o, h1, h2⟩
  · exact .inl h
  · exact .inr ⟨q, o, h1, fun j x hj => (c.cell _ _ (World.block_lt_of_cell? w _ (h2 j x hj))).trans (h2 j x hj)⟩
theorem KW.get {w : World} {a : Option Addr} {ks : List (BitVec 64)} (h : KW w a ks) {j : Nat} {x : BitVec 64} (hj : ks[j]? = some x) : ∃ q o, a = some ⟨q, o, none⟩ ∧ (w.heap[q]?).bind (cellAt (o + j)) = some (U x) := by
  rcases h with rfl | ⟨q, o, h1, h2⟩
  · cases hj
  · exact ⟨q, o, h1, by have := h2 j x hj; rwa [cell_heap] at this⟩
theorem own_kw {w : World} {base n : Nat} {v : Value} {ks : List (BitVec 64)} (h : w.ownsRow base 22 1 v n (ks.map fun k => U k)) : ∃ a c, v = .slice a n c ∧ ks.length = n ∧ KW w a ks := by
  obtain ⟨hl, ⟨rfl, h0⟩ | ⟨q, cap, cur, rfl, hbq, hq, hnc, hcm, hcs, htake⟩⟩ := h
  · have hl : ks.length = n * 1 := by simpa using hl
    subst h0
    exact ⟨none, 0, rfl, by omega, .inl (List.eq_nil_of_length_eq_zero (by omega))⟩
  · have hl : ks.length = n * 1 := by simpa using hl
    refine ⟨some ⟨q, 0, none⟩, cap, rfl, by omega, .inr ⟨q, 0, rfl, fun j x hj => ?_⟩⟩
    have hj1 := (List.getElem?_eq_some_iff.1 hj).1
    have h2 := congrArg (fun l => l[j]?) htake
    simp only [Nat.mul_one] at h2
    rw [List.getElem?_take_of_lt (by omega), List.getElem?_map, hj] at h2
    unfold World.cell?
    rw [hq]
    simpa using h2
set_option maxHeartbeats 1000000 in
theorem rPrefix_any (h : BitVec 64) (n : Nat) (hn : n ≤ 64) (w : World) : Calls Tryz.prog 84 #[U h, I n] w fun e w' => e = .returned (U (prefW n h)) ∧ w = w' := by
  have H0 := Lib.hid (pref_zero h)
  go_enter Tryz.func84, Tryz.ntmps84
  go_wp2
  go_loop [5, 8] (fun v i => ∃ j : Nat, j ≤ n ∧ i = .int .i64 j ∧ v = U (prefW j h)) (fun _ i => n - (intOf i).toNat)
  case atStart => exact ⟨0, by omega, rfl, by rw [H0.out]; rfl⟩
  case round =>
    obtain ⟨j, hj, rfl, rfl⟩ := hrel
    by_cases hlt : j < n
    · obtain ⟨p, hp⟩ : ∃ p, 63 - j = p := ⟨_, rfl⟩
      have ep : (63 : Int) - j = p := by omega
      have X1 := fun w => rHas_any h p (by omega) w
      have HS := pref_step h j (by omega)
      rw [hp] at HS
      generalize h.getLsbD p = b at *
      have HS2 : Hid (prefW (j + 1) h = 2#64 * prefW j h + (if b then 1#64 else 0#64)) := Lib.hid HS
      clear HS hp
      generalize prefW j h = m at *
      cases b
      · go_wp2_with (go_at_call 97; refine (X1 _).mono ?_; rintro e w' ⟨rfl, rfl⟩)
        go_round
        case rel => exact ⟨j + 1, by omega, by go_num, by rw [HS2.out]; simp⟩
        case measure => simp [intOf]; omega
      · go_wp2_with (go_at_call 97; refine (X1 _).mono ?_; rintro e w' ⟨rfl, rfl⟩)
        go_round
        case rel => exact ⟨j + 1, by omega, by go_num, by rw [HS2.out]; simp⟩
        case measure => simp [intOf]; omega
    · have hjn : j = n := by omega
      have HJ := Lib.hid hjn
      clear hjn
      go_wp2
      go_ret
      refine ⟨?_, rfl⟩
      rw [← HJ.out]; rfl
theorem crowdF_at (n : Nat) (hs : List (BitVec 64)) (h p : BitVec 64) : crowdF n (hs ++ [h]) p = if prefW n h = p then crowdF n hs p + 1 else crowdF n hs p := by
  rw [crowdF_snoc]
  by_cases e : prefW n h = p
  · subst e; simp
  · rw [if_neg e]
    show (if p = prefW n h then _ else _) = _
    rw [if_neg (fun x => e x.symm)]
set_option maxHeartbeats 1000000 in
set_option maxRecDepth 100000 in
theorem rOnce_any (ks : List (BitVec 64)) (hnd : ks.Nodup) (hlen : ks.length ≤ 1000) (a : Option Addr) (c : Nat) (w : World) (hk : KW w a ks) :
    Calls Tryz.prog 83 #[.slice a ks.length c] w fun e w' => ∃ v, e = .returned v ∧ w'.ownsRow w.heap.size 22 1 v ks.length (ks.map fun k => U k) ∧ Ch [] w w' := by
  obtain ⟨n, hn⟩ : ∃ n, ks.length = n := ⟨_, rfl⟩
  rw [hn] at hlen ⊢
  have HN := Lib.hid hn
  have HK := Lib.hid hk
  have HND := Lib.hid hnd
  clear hn hk hnd
  go_enter Tryz.func83, Tryz.ntmps83
  go_wp2
  go_loopw [11, 3] (fun i v wr => ∃ j : Nat, i = I j ∧ j ≤ n ∧ wr.ownsRow w.heap.size 22 1 v j ((ks.take j).map fun k => U k) ∧ Ch [] w wr) (fun i _ _ => n - (intOf i).toNat)
  case atStart => exact ⟨0, rfl, by omega, by rw [List.take_zero]; exact World.ownsRow_nil _ _ _ _, Ch.refl _ _⟩
  case round =>
    obtain ⟨j, hi, hj, hown, hC⟩ := hrel
    subst hi
    rcases (show j = n ∨ j < n by omega) with rfl | hlt
    · have e : ks.take j = ks := List.take_of_length_le (by have := HN.out; omega)
      rw [e] at hown
      have HO := Lib.hid hown
      obtain ⟨a2, c2, rfl⟩ := own_val hown
      clear hown e
      go_wp2
      go_ret
      exact ⟨_, rfl, HO.out, hC⟩
    · obtain ⟨k, hkj⟩ : ∃ k, ks[j]? = some k := ⟨_, List.getElem?_eq_getElem (by have := HN.out; omega)⟩
      obtain ⟨q, o, rfl, hcell⟩ := (HK.out.ch hC).get hkj
      obtain ⟨a2, c2, hv, hl2, hkw⟩ := own_kw hown
      subst hv
      have hjn : (j : Int) < n := by omega
      have hnew : ∀ (p : Nat) x, (ks.take j)[p]? = some x → (x == k) = false := by
        intro p x hp
        have hp1 := (List.getElem?_eq_some_iff.1 hp).1
        rw [List.length_take] at hp1
        rw [List.getElem?_take_of_lt (by omega)] at hp
        rw [beq_eq_false_iff_ne]
        rintro rfl
        obtain ⟨hp2, hp3⟩ := List.getElem?_eq_some_iff.1 hp
        obtain ⟨hj2, hj3⟩ := List.getElem?_eq_some_iff.1 hkj
        have := (List.getElem_inj HND.out).1 (hp3.trans hj3.symm)
        omega
      have htk : ks.take (j + 1) = ks.take j ++ [k] := take_snoc hkj
      have hsz : w.heap.size ≤ wr.heap.size := hC.size
      obtain ⟨v', w2, hrun, hown2, hc2⟩ := append_word wr w.heap.size _ (ks.take j) (by rw [hl2]; exact hown) k (by omega) hsz
      rw [← htk] at hown2
      have hln : (ks.take (j + 1)).length = j + 1 := by rw [List.length_take]; have := HN.out; omega
      rw [hln] at hown2
      have hblk := own_blk hown
      have hC2 : Ch [] w w2 := hC.trans2 hc2 (fun t ht => .inr (hblk t ht))
      have HH := Lib.hid (And.intro hown2 hC2)
      have HNEW := Lib.hid hnew
      obtain ⟨xs, hxs⟩ : ∃ xs, ks.take j = xs := ⟨_, rfl⟩
      rw [hxs] at hkw HNEW hl2
      have HKW := Lib.hid hkw
      have HL2 := Lib.hid hl2
      clear hown hown2 hc2 hblk hC2 hkj htk hln hnew hxs hkw hl2 hC hsz
      obtain ⟨wx, hwx⟩ : ∃ x, wr = x := ⟨_, rfl⟩
      rw [hwx] at hrun hcell HKW ⊢
      clear hwx
      go_wp2
      go_loopw [17, 6] (fun i v wr => ∃ p : Nat, i = I p ∧ p ≤ j ∧ v = .bool false ∧ wr = wx) (fun i _ _ => j - (intOf i).toNat)
      case atStart => exact ⟨0, rfl, by omega, rfl, rfl⟩
      case round =>
        obtain ⟨p, hi, hp, hv, hw⟩ := hrel
        subst hi hv
        rw [hw]
        clear hw
        rcases (show p = j ∨ p < j by omega) with rfl | hpl
        · clear hcell
          go_wp2_with (first
            | (at_builtin; refine Lib.wpList_append_run _ rfl _ _ 24 24 rfl _ _ rfl rfl _ _ hrun ?_)
            | go_in)
          go_roundw
          case rel => exact ⟨p + 1, by go_num, by omega, HH.out⟩
          case measure => simp [intOf]; omega
        · obtain ⟨x, hx⟩ : ∃ x, xs[p]? = some x := ⟨_, List.getElem?_eq_getElem (by have := HL2.out; omega)⟩
          obtain ⟨q2, o2, ha2, hcell2⟩ := HKW.out.get hx
          subst ha2
          have hne := HNEW.out p x hx
          have hpj : (p : Int) < j := by omega
          clear hcell hx
          go_wp2
          go_roundw
          case rel => exact ⟨p + 1, by go_num, by omega, rfl, (by first | rfl | trivial)⟩
          case measure => simp [intOf]; omega
set_option maxHeartbeats 1000000 in
set_option maxRecDepth 100000 in
theorem rMany_any (sd : BitVec 64) (n : Nat) (hn64 : n ≤ 64) (ks : List (BitVec 64)) (hnd : ks.Nodup) (hlen : ks.length ≤ 1000) (key : BitVec 64) (a : Option Addr) (c : Nat) (w : World) (hk : KW w a ks) :
    Calls Tryz.prog 61 #[U sd, I n, .slice a ks.length c, U key] w fun e w' => e = .returned (I (crowdF n (ks.map (hashOf sd)) (prefW n (hashOf sd key)))) ∧ Ch [] w w' := by
  have O1 := rOnce_any ks hnd hlen a c w hk
  obtain ⟨m, hm⟩ : ∃ m, ks.length = m := ⟨_, rfl⟩
  rw [hm] at O1 hlen ⊢
  have K1 := fun w => rHash_any sd key w
  obtain ⟨hk2, hhk⟩ : ∃ h, hashOf sd key = h := ⟨_, rfl⟩
  rw [hhk] at K1 ⊢
  have K2 := fun w => rPrefix_any hk2 n hn64 w
  obtain ⟨p, hp⟩ : ∃ p, prefW n hk2 = p := ⟨_, rfl⟩
  rw [hp] at K2 ⊢
  have HM := Lib.hid hm
  clear hk hnd hm hhk hp
  go_enter Tryz.func61, Tryz.ntmps61
  go_wp2_with fail
  refine O1.mono ?_
  rintro e w1 ⟨v, rfl, hown, hc1⟩
  obtain ⟨a1, c1, rfl, hl, hkw⟩ := own_kw hown
  have HKW := Lib.hid hkw
  clear O1 hown hkw hl
  go_wp2
  go_loopw [15, 9] (fun i v wr => ∃ j : Nat, i = I j ∧ j ≤ m ∧ v = I (crowdF n ((ks.take j).map (hashOf sd)) p) ∧ wr = w1) (fun i _ _ => m - (intOf i).toNat)
  case atStart => exact ⟨0, rfl, by omega, rfl, rfl⟩
  case round =>
    obtain ⟨j, hi, hj, hv, hw⟩ := hrel
    subst hi hv
    rw [hw]
    clear hw
    rcases (show j = m ∨ j < m by omega) with rfl | hlt
    · have e : ks.take j = ks := List.take_of_length_le (by have := HM.out; omega)
      rw [e]
      obtain ⟨r, hr⟩ : ∃ r, crowdF n (ks.map (hashOf sd)) p = r := ⟨_, rfl⟩
      rw [hr]
      have HRR := Lib.hid hr
      clear e hr
      go_wp2
      go_ret
      exact ⟨by rw [HRR.out]; rfl, hc1⟩
    · obtain ⟨k, hkj⟩ : ∃ k, ks[j]? = some k := ⟨_, List.getElem?_eq_getElem (by have := HM.out; omega)⟩
      obtain ⟨q, o, rfl, hcell⟩ := HKW.out.get hkj
      have L1 := fun w => rHash_any sd k w
      have hat : crowdF n ((ks.take (j + 1)).map (hashOf sd)) p = if prefW n (hashOf sd k) = p then crowdF n ((ks.take j).map (hashOf sd)) p + 1 else crowdF n ((ks.take j).map (hashOf sd)) p := by
        rw [take_snoc hkj, List.map_append]
        exact crowdF_at n _ _ _
      have hle := crowdF_le n ((ks.take j).map (hashOf sd)) p
      rw [List.length_map, List.length_take] at hle
      obtain ⟨h1, hh1⟩ : ∃ h, hashOf sd k = h := ⟨_, rfl⟩
      rw [hh1] at L1 hat
      have L2 := fun w => rPrefix_any h1 n hn64 w
      obtain ⟨p1, hp1⟩ : ∃ h, prefW n h1 = h := ⟨_, rfl⟩
      rw [hp1] at L2 hat
      obtain ⟨cn, hcn⟩ : ∃ x, crowdF n ((ks.take j).map (hashOf sd)) p = x := ⟨_, rfl⟩
      rw [hcn] at hat hle ⊢
      have hjn : (j : Int) < m := by omega
      have h0 : 0 ≤ cn := hle.1
      have h2 : cn ≤ 1000 := by omega
      clear hkj hh1 hp1 hcn hle
      by_cases hpp : p1 = p
      · rw [if_pos hpp] at hat
        have HAT := Lib.hid hat
        subst hpp
        clear hat
        go_wp2_with (first
          | (go_at_call 85; ((with_reducible refine (L1 _).mono ?_); rintro e w' ⟨rfl, rfl⟩))
          | (go_at_call 85; ((with_reducible refine (K1 _).mono ?_); rintro e w' ⟨rfl, rfl⟩))
          | (go_at_call 84; ((with_reducible refine (L2 _).mono ?_); rintro e w' ⟨rfl, rfl⟩))
          | (go_at_call 84; ((with_reducible refine (K2 _).mono ?_); rintro e w' ⟨rfl, rfl⟩)))
        go_roundw
        case rel => exact ⟨j + 1, by go_num, by omega, by rw [HAT.out], (by first | rfl | trivial)⟩
        case measure => simp [intOf]; omega
      · rw [if_neg hpp] at hat
        have HAT := Lib.hid hat
        have hb : (p1 == p) = false := by simpa using hpp
        clear hat hpp
        go_wp2_with (first
          | (go_at_call 85; ((with_reducible refine (L1 _).mono ?_); rintro e w' ⟨rfl, rfl⟩))
          | (go_at_call 85; ((with_reducible refine (K1 _).mono ?_); rintro e w' ⟨rfl, rfl⟩))
          | (go_at_call 84; ((with_reducible refine (L2 _).mono ?_); rintro e w' ⟨rfl, rfl⟩))
          | (go_at_call 84; ((with_reducible refine (K2 _).mono ?_); rintro e w' ⟨rfl, rfl⟩)))
        go_roundw
        case rel => exact ⟨j + 1, by go_num, by omega, by rw [HAT.out], (by first | rfl | trivial)⟩
        case measure => simp [intOf]; omega
set_option maxHeartbeats 1000000 in
set_option maxRecDepth 100000 in
theorem rMost_any (sd : BitVec 64) (n : Nat) (hn64 : n ≤ 64) (ks : List (BitVec 64)) (hnd : ks.Nodup) (hlen : ks.length ≤ 1000) (a : Option Addr) (c : Nat) (w : World) (hk : KW w a ks) :
    Calls Tryz.prog 50 #[U sd, I n, .slice a ks.length c] w fun e w' => e = .returned (I (mostR n (ks.map (hashOf sd)) (ks.map (hashOf sd)))) ∧ Ch [] w w' := by
  have M1 := fun key w hk => rMany_any sd n hn64 ks hnd hlen key a c w hk
  obtain ⟨hs, hhs⟩ : ∃ h, ks.map (hashOf sd) = h := ⟨_, rfl⟩
  rw [hhs] at M1 ⊢
  obtain ⟨m, hm⟩ : ∃ m, ks.length = m := ⟨_, rfl⟩
  rw [hm] at M1 hlen ⊢
  have HM := Lib.hid hm
  have HH := Lib.hid hhs
  have HK := Lib.hid hk
  have HM1 := Lib.hid M1
  have hsl : hs.length ≤ 1000 := by rw [← hhs, List.length_map]; omega
  clear hk hnd hm hhs M1
  go_enter Tryz.func50, Tryz.ntmps50
  go_wp2
  go_loopw [13, 7] (fun i v wr => ∃ j : Nat, i = I j ∧ j ≤ m ∧ v = I (mostR n hs (hs.take j)) ∧ Ch [] w wr) (fun i _ _ => m - (intOf i).toNat)
  case atStart => exact ⟨0, rfl, by omega, rfl, Ch.refl _ _⟩
  case round =>
    obtain ⟨j, hi, hj, hv, hC⟩ := hrel
    subst hi hv
    rcases (show j = m ∨ j < m by omega) with rfl | hlt
    · have e : hs.take j = hs := List.take_of_length_le (by rw [← HH.out, List.length_map]; have := HM.out; omega)
      rw [e]
      obtain ⟨r, hr⟩ : ∃ r, mostR n hs hs = r := ⟨_, rfl⟩
      rw [hr]
      have HRR := Lib.hid hr
      clear e hr
      go_wp2
      go_ret
      exact ⟨by rw [HRR.out]; rfl, hC⟩
    · obtain ⟨k, hkj⟩ : ∃ k, ks[j]? = some k := ⟨_, List.getElem?_eq_getElem (by have := HM.out; omega)⟩
      obtain ⟨q, o, ha, hcell⟩ := (HK.out.ch hC).get hkj
      have M2 := HM1.out k wr (HK.out.ch hC)
      have hhj : hs[j]? = some (hashOf sd k) := by rw [← HH.out, List.getElem?_map, hkj]; rfl
      have hst : mostR n hs (hs.take (j + 1)) = if mostR n hs (hs.take j) < crowdF n hs (prefW n (hashOf sd k)) then crowdF n hs (prefW n (hashOf sd k)) else mostR n hs (hs.take j) := by
        rw [take_snoc hhj, mostR_snoc]
      have hge := mostR_ge n hs (hs.take j)
      have hle := crowdF_le n hs (prefW n (hashOf sd k))
      obtain ⟨x, hx⟩ : ∃ x, mostR n hs (hs.take j) = x := ⟨_, rfl⟩
      obtain ⟨y, hy⟩ : ∃ x, crowdF n hs (prefW n (hashOf sd k)) = x := ⟨_, rfl⟩
      rw [hx, hy] at hst
      rw [hx] at hge ⊢
      rw [hy] at hle M2
      subst ha
      have hjn : (j : Int) < m := by omega
      clear hhj hx hy hkj
      by_cases hxy : x < y
      · rw [if_pos hxy] at hst
        have HST := Lib.hid hst
        clear hst
        go_wp2_with fail
        refine M2.mono ?_
        rintro e w2 ⟨rfl, hc2⟩
        have C2 := hC.trans hc2
        clear M2 hC hc2 hcell
        go_wp2
        go_roundw
        case rel => exact ⟨j + 1, by go_num, by omega, by rw [HST.out], C2⟩
        case measure => simp [intOf]; omega
      · rw [if_neg hxy] at hst
        have HST := Lib.hid hst
        clear hst
        go_wp2_with fail
        refine M2.mono ?_
        rintro e w2 ⟨rfl, hc2⟩
        have C2 := hC.trans hc2
        clear M2 hC hc2 hcell
        go_wp2
        go_roundw
        case rel => exact ⟨j + 1, by go_num, by omega, by rw [HST.out], C2⟩
        case measure => simp [intOf]; omega
set_option maxHeartbeats 1000000 in
set_option maxRecDepth 100000 in
theorem rDeepest_any (sd : BitVec 64) (m : Nat) (hm : 1 ≤ m) (hm2 : m ≤ 1000) (ks : List (BitVec 64)) (hnd : ks.Nodup) (hlen : ks.length ≤ 1000) (a : Option Addr) (c : Nat) (w : World) (hk : KW w a ks) :
    Calls Tryz.prog 33 #[U sd, I m, .slice a ks.length c] w fun e w' => e = .returned (I (deepN m (ks.map (hashOf sd)))) ∧ Ch [] w w' := by
  have M1 := fun n hn w hk => rMost_any sd n hn ks hnd hlen a c w hk
  have HF := Lib.hid (fits_all m hm _ (hashes_nodup sd hnd))
  obtain ⟨hs, hhs⟩ : ∃ h, ks.map (hashOf sd) = h := ⟨_, rfl⟩
  rw [hhs] at M1 HF ⊢
  obtain ⟨l, hl⟩ : ∃ m, ks.length = m := ⟨_, rfl⟩
  rw [hl] at M1 hlen ⊢
  obtain ⟨R, hR⟩ : ∃ r, deepN m hs = r := ⟨_, rfl⟩
  rw [hR]
  have HR := Lib.hid (show deepF m hs (64 - 0) 0 = R from hR)
  have HK := Lib.hid hk
  have HM1 := Lib.hid M1
  clear hk hnd hl hhs M1 hR
  go_enter Tryz.func33, Tryz.ntmps33
  go_wp2
  go_loopw [7] (fun i wr => ∃ j : Nat, i = I j ∧ j ≤ 64 ∧ deepF m hs (64 - j) j = R ∧ Ch [] w wr) (fun i _ => 65 - (intOf i).toNat)
  case atStart => exact ⟨0, rfl, by omega, HR.out, Ch.refl _ _⟩
  case round =>
    obtain ⟨j, hi, hj, hdp, hC⟩ := hrel
    subst hi
    have M2 := HM1.out j hj wr (HK.out.ch hC)
    have hmf := most_fits m j hs
    have hge := mostR_ge j hs hs
    obtain ⟨y, hy⟩ : ∃ x, mostR j hs hs = x := ⟨_, rfl⟩
    rw [hy] at M2 hmf hge
    have HDP := Lib.hid hdp
    have h0 : 0 ≤ y := hge.1
    clear hdp hy hge
    by_cases hym : y ≤ m
    · have hft := hmf.1 hym
      have HE := Lib.hid (show j = R by rw [← HDP.out]; exact (deepF_yes m hs _ j hft).symm)
      have hng : ¬ (m : Int) < y := by omega
      clear hmf hft HDP
      go_wp2_with fail
      refine M2.mono ?_
      rintro e w2 ⟨rfl, hc2⟩
      have C2 := hC.trans hc2
      clear M2 hC hc2
      go_wp2
      go_ret
      exact ⟨by rw [← HE.out]; rfl, C2⟩
    · have hft : fitsN m hs j = false := by
        cases h : fitsN m hs j with
        | false => rfl
        | true => exact absurd (hmf.2 h) hym
      have hj64 : j < 64 := by
        rcases (show j = 64 ∨ j < 64 by omega) with h | h
        · exfalso
          rw [h, HF.out] at hft
          cases hft
        · exact h
      have HE := Lib.hid ((deepF_no m hs j hj64 hft).symm.trans HDP.out)
      have hng : (m : Int) < y := by omega
      clear hmf hft HDP hym
      go_wp2_with fail
      refine M2.mono ?_
      rintro e w2 ⟨rfl, hc2⟩
      have C2 := hC.trans hc2
      clear M2 hC hc2
      go_wp2
      go_roundw
      case rel => exact ⟨j + 1, by go_num, by omega, HE.out, C2⟩
      case measure => simp [intOf]; omega
set_option maxHeartbeats 1000000 in
set_option maxRecDepth 100000 in
theorem equalW_any (xs ys : List (BitVec 64)) (a b : Option Addr) (ca cb : Nat) (w : World) (hx : KW w a xs) (hy : KW w b ys) (hl : xs.length ≤ 1000000) :
    Calls Tryz.prog 10 #[.slice a xs.length ca, .slice b ys.length cb] w fun e w' => e = .returned (.bool (decide (xs = ys))) ∧ Ch [] w w' := by
  obtain ⟨n, hn⟩ : ∃ n, xs.length = n := ⟨_, rfl⟩
  obtain ⟨m, hm⟩ : ∃ n, ys.length = n := ⟨_, rfl⟩
  rw [hn] at hl ⊢
  rw [hm]
  by_cases hnm : n = m
  · subst hnm
    have HN := Lib.hid hn
    have HM := Lib.hid hm
    have HX := Lib.hid hx
    have HY := Lib.hid hy
    obtain ⟨r, hr⟩ : ∃ r, decide (xs = ys) = r := ⟨_, rfl⟩
    rw [hr]
    have HR := Lib.hid hr
    clear hn hm hx hy hr
    go_enter Tryz.func10, Tryz.ntmps10
    go_wp2
    go_loopw [13] (fun i wr => ∃ j : Nat, i = I j ∧ j ≤ n ∧ xs.take j = ys.take j ∧ Ch [] w wr) (fun i _ => n - (intOf i).toNat)
    case atStart => exact ⟨0, rfl, by omega, rfl, Ch.refl _ _⟩
    case round =>
      obtain ⟨j, hi, hj, ht, hC⟩ := hrel
      subst hi
      rcases (show j = n ∨ j < n by omega) with rfl | hlt
      · rw [List.take_of_length_le (by have := HN.out; omega), List.take_of_length_le (by have := HM.out; omega)] at ht
        have HE := Lib.hid (show r = true by rw [← HR.out]; exact decide_eq_true ht)
        clear ht
        go_wp2
        go_ret
        exact ⟨by rw [HE.out]; rfl, hC⟩
      · obtain ⟨x, hxj⟩ : ∃ k, xs[j]? = some k := ⟨_, List.getElem?_eq_getElem (by have := HN.out; omega)⟩
        obtain ⟨y, hyj⟩ : ∃ k, ys[j]? = some k := ⟨_, List.getElem?_eq_getElem (by have := HM.out; omega)⟩
        obtain ⟨q, o, ha, hcx⟩ := (HX.out.ch hC).get hxj
        obtain ⟨q2, o2, hb, hcy⟩ := (HY.out.ch hC).get hyj
        subst ha hb
        have hjn : (j : Int) < n := by omega
        have h0 : (0 : Int) ≤ j := by omega
        have HT := Lib.hid ht
        have HXJ := Lib.hid hxj
        have HYJ := Lib.hid hyj
        clear ht hxj hyj
        by_cases hxy : x = y
        · subst hxy
          go_wp2
          go_region
          all_goals go_wp2
          all_goals
            refine ⟨⟨j + 1, by go_num, by omega, by rw [take_snoc HXJ.out, take_snoc HYJ.out, HT.out], by first | exact hC.drew | exact hC.drewN _⟩, ?_⟩
            simp [intOf]; omega
        · have hb : (x == y) = false := by simpa using hxy
          have hb2 : (x != y) = true := by simpa using hxy
          have HE := Lib.hid (show r = false by
            rw [← HR.out]
            refine decide_eq_false fun e => hxy ?_
            have h1 := HXJ.out
            rw [e, HYJ.out] at h1
            exact (Option.some.inj h1).symm)
          go_wp2
          go_region
          all_goals
            go_wp2
            go_ret
            exact ⟨by rw [HE.out]; rfl, by first | exact hC.drew | exact hC.drewN _⟩
  · have hf : decide (xs = ys) = false := decide_eq_false (fun e => hnm (by rw [← hn, ← hm, e]))
    rw [hf]
    have hne : ((n : Int) != m) = true := by rw [bne_iff_ne]; exact fun e => hnm (by omega)
    clear hx hy hf hn hm
    go_enter Tryz.func10, Tryz.ntmps10
    go_wp2
    go_ret
    exact ⟨rfl, Ch.refl _ _⟩
end Go.Proofs.Hc
