/- The reference of layer 1: a lane's byte, a word's bytes, the word of bytes. -/
import Derived.Test.YtcikopeddljgkaaGreatKRc
set_option linter.unusedSimpArgs false
set_option linter.unusedVariables false
set_option maxHeartbeats 1000000
set_option maxRecDepth 100000
namespace Go.Proofs.Hc
open Go.RowKit
attribute [local go_sem] zbs zca zax zbc zbn zba zbm zbo zbu signed64 signed8 zar BitVec.ofInt_add BitVec.ofInt_mul ofInt_sub' zay zaz wide8 eqN neN zbz shr1 shr7 shr56
attribute [local go_sem high] zbb zbt
attribute [local go_sem] shr8 zar
theorem ofInt8_mod (x : BitVec 64) : BitVec.ofInt 8 (N x % 256) = x.setWidth 8 := by
  unfold N
  apply BitVec.eq_of_toNat_eq
  rw [BitVec.toNat_ofInt, BitVec.toNat_setWidth]
  omega
theorem tdiv256 (x : BitVec 64) : (N x).tdiv 256 = N (x >>> 8) := by rw [Int.tdiv_eq_ediv_of_nonneg (N_nonneg x), shr8]
theorem tmod256 (x : BitVec 64) : (N x).tmod 256 = N x % 256 := by rw [Int.tmod_eq_emod_of_nonneg (N_nonneg x)]
attribute [local go_sem high] ofInt8_mod tdiv256 tmod256
theorem rAt_any (x : BitVec 64) (n : Nat) (hn : n ≤ 64) (w : World) : Calls Tryz.prog 88 #[U x, I n] w fun e w' => e = .returned (Y (byteAt x n)) ∧ w = w' := by
  go_enter Tryz.func88, Tryz.ntmps88
  go_wp2
  go_loop [0, 6] (fun v i => ∃ j : Nat, j ≤ n ∧ i = .int .i64 j ∧ v = U (x >>> (8 * j))) (fun _ i => n - (intOf i).toNat)
  case atStart => exact ⟨0, Nat.zero_le _, rfl, by rw [Nat.mul_zero, BitVec.ushiftRight_zero]⟩
  case round =>
    obtain ⟨j, hj, rfl, rfl⟩ := hrel
    have h0 := N_nonneg (x >>> (8 * j))
    by_cases hlt : j < n
    · have hs : x >>> (8 * j) >>> 8 = x >>> (8 * (j + 1)) := by rw [← BitVec.shiftRight_add, Nat.mul_succ]
      have HS := Lib.hid hs
      clear hs
      go_wp2
      go_round
      case rel => exact ⟨j + 1, by omega, by go_num, by rw [HS.out]⟩
      case measure => simp [intOf]; omega
    · have hjn : j = n := by omega
      have HJ := Lib.hid hjn
      clear hjn
      go_wp2
      go_ret
      refine ⟨?_, rfl⟩
      rw [← HJ.out]; rfl
end Go.Proofs.Hc
namespace Go.Proofs.Hc
open Go.RowKit
attribute [local go_sem] zbs zca zax zbc zbn zba zbm zbo zbu signed64 signed8 zar BitVec.ofInt_add BitVec.ofInt_mul ofInt_sub' zay zaz wide8 eqN neN zbz shr1 shr7 shr56
attribute [local go_sem high] zbb zbt
attribute [local go_sem] zag zbw zah zas zad zbe zaq zal zbl zan zbd zbf
attribute [local go_sem] load26 load73 load23 store26 build73
attribute [local go_sem ↓] lrow26 lrow73 lrow23 srow26 zero26 brow73 zac zaw zbg zaa zab
attribute [local go_sem] zai zav zat zbj zbk zbp zao zau zbq zbi zbh
attribute [local go_sem] nn2 nm2 nn3 nm3 nn4 nm4 nn5 nm5 nn6 nm6 nn7 nm7 nn8 nm8
section
attribute [local go_sem] zar
def bytesOf (x : BitVec 64) : List (BitVec 8) := (List.range 8).map (byteAt x)
def ycells (l : List (BitVec 8)) : List Value := l.map fun b => Y b
theorem infoY : (Tryz.prog.info? 5).map (fun i => (i.zero, i.size, i.bytes)) = some (some (.int .u8 0), 1, 1) := by kernel_rfl
theorem ycells_range (x : BitVec 64) (j : Nat) : ycells ((List.range (j + 1)).map (byteAt x)) = ycells ((List.range j).map (byteAt x)) ++ [Y (byteAt x j)] := by
  unfold ycells; rw [List.range_succ, List.map_append, List.map_append]; rfl
theorem rBytes_any (x : BitVec 64) (w : World) : Calls Tryz.prog 147 #[U x] w fun e w' => ∃ a c, e = .returned (.slice a 8 c) ∧ w'.ownsRow w.heap.size 5 1 (.slice a 8 c) 8 (ycells (bytesOf x)) ∧ Ch [] w w' := by
  obtain ⟨i0, hi, hz0, hz1, hz2⟩ := info_parts infoY
  go_enter Tryz.func147, Tryz.ntmps147
  go_wp2
  go_loopw [3, 5] (fun v i wr => ∃ j : Nat, i = .int .i64 j ∧ j ≤ 8 ∧ wr.ownsRow w.heap.size 5 1 v j (ycells ((List.range j).map (byteAt x))) ∧ Ch [] w wr) (fun _ i _ => 8 - (intOf i).toNat)
  case atStart => exact ⟨0, rfl, by omega, World.ownsRow_nil _ _ _ _, Ch.refl _ _⟩
  case round =>
    obtain ⟨j, hj, hj8, hown, hcr⟩ := hrel
    subst hj
    have hz := hcr.size
    by_cases hlt : j < 8
    · have A1 := fun w => rAt_any x j (by omega) w
      have HS := Lib.hid (ycells_range x j)
      have hob := own_block hown
      generalize ycells ((List.range j).map (byteAt x)) = ys at *
      go_wp2_with (first
        | (go_at_call 88; refine (A1 _).mono ?_; rintro e w' ⟨rfl, rfl⟩)
        | (at_builtin; refine wpList_append_own _ rfl _ _ 228 rfl w.heap.size 5 i0 (.int .u8 0) 1 1 Tryz.underlying228 hi hz0 hz1 hz2 rfl (by decide) _ _ _ rfl (hown.alloc _) ⟨wr.heap.size, 0, none⟩ 1 1 [Y (byteAt x j)] rfl rfl (cell_one_new _ _ _) (by simp [Value.oneCell']) (by unfold maxLen; omega) (by omega) (by simp; omega) ?_; intro v' w1 hown' hgrow _; have HO := Lib.hid hown'; have HG := Lib.hid hgrow; clear hown' hgrow))
      have hgr : (wr.alloc (.cells #[Y (byteAt x j)] 5)).grownBy w1 u3.ownBlock := HG.out
      have hW1 : Ch (u3.ownBlock.toList) wr w1 := (((Ch.refl [] wr).alloc (.cells #[Y (byteAt x j)] 5)).of_nil).trans2 (Ch.of_grown (S := u3.ownBlock.toList) hgr (fun k hk => by simp [hk])) (fun t ht => .inl ht)
      have hSS : ∀ s ∈ u3.ownBlock.toList, w.heap.size ≤ s := fun s hs => hob s (by simpa using hs)
      go_roundw
      case rel => exact ⟨j + 1, by go_num, hlt, by rw [HS.out]; exact HO.out, hcr.trans2 hW1 (fun t ht => .inr (hSS t ht))⟩
      case measure => simp [intOf]; omega
    · have hj8 : j = 8 := by omega
      subst hj8
      have HO := Lib.hid hown
      obtain ⟨a, c, rfl⟩ := own_form hown
      clear hown
      go_wp2
      go_ret
      exact ⟨a, c, rfl, HO.out, hcr⟩
end
section
attribute [local go_sem] zar
def accB (l : List (BitVec 8)) : BitVec 64 := l.foldr (fun b y => 256#64 * y + b.setWidth 64) 0#64
theorem acc_zero (y : BitVec 64) (b : BitVec 8) : byteAt (256#64 * y + b.setWidth 64) 0 = b := by
  apply BitVec.eq_of_toNat_eq
  rw [byteAt_nat, BitVec.toNat_add, BitVec.toNat_mul, BitVec.toNat_setWidth, BitVec.toNat_ofNat]
  have := b.isLt
  have := y.isLt
  omega
theorem acc_succ (y : BitVec 64) (b : BitVec 8) : ∀ n, n < 7 → byteAt (256#64 * y + b.setWidth 64) (n + 1) = byteAt y n := by
  intro n hn
  apply BitVec.eq_of_toNat_eq
  rw [byteAt_nat, byteAt_nat, BitVec.toNat_add, BitVec.toNat_mul, BitVec.toNat_setWidth, BitVec.toNat_ofNat]
  have hb := b.isLt
  have hy := y.isLt
  generalize b.toNat = b at *
  generalize y.toNat = y at *
  match n, hn with
  | 0, _ => omega
  | 1, _ => omega
  | 2, _ => omega
  | 3, _ => omega
  | 4, _ => omega
  | 5, _ => omega
  | 6, _ => omega
theorem acc_byte : ∀ (l : List (BitVec 8)) (n : Nat), n < 8 → byteAt (accB l) n = (l[n]?).getD 0#8
  | [], n, hn => by
    have e : accB [] = 0#64 := rfl
    rw [e]
    apply BitVec.eq_of_toNat_eq
    rw [byteAt_nat]; simp
  | b :: l, 0, _ => acc_zero (accB l) b
  | b :: l, n + 1, hn => by
    have e : accB (b :: l) = 256#64 * accB l + b.setWidth 64 := rfl
    rw [e, acc_succ _ _ _ (by omega), acc_byte l n (by omega)]
    simp
theorem bytesOf_len (x : BitVec 64) : (bytesOf x).length = 8 := by simp [bytesOf]
theorem bytesOf_get (x : BitVec 64) (n : Nat) (h : n < 8) : (bytesOf x)[n]? = some (byteAt x n) := by
  unfold bytesOf
  rw [List.getElem?_map, List.getElem?_range h]; rfl
theorem acc_put (x : BitVec 64) (n : Nat) (hn : n < 8) (b : BitVec 8) : accB ((bytesOf x).set n b) = withB x n b := by
  apply ext_bytes
  intro m hm
  rw [acc_byte _ m hm, byteAt_withB x n m b hn hm, List.getElem?_set]
  by_cases h : n = m
  · subst h
    rw [if_pos rfl, if_pos rfl, if_pos (by rw [bytesOf_len]; exact hn)]; rfl
  · rw [if_neg h, if_neg (fun e => h e.symm), bytesOf_get x m hm]; rfl
theorem acc_drop {l : List (BitVec 8)} {k : Nat} {b : BitVec 8} (h : l[k]? = some b) : accB (l.drop k) = 256#64 * accB (l.drop (k + 1)) + b.setWidth 64 := by
  have hk := (List.getElem?_eq_some_iff.1 h).1
  have e : l.drop k = b :: l.drop (k + 1) := by
    rw [List.drop_eq_getElem_cons hk]
    have := (List.getElem?_eq_some_iff.1 h).2
    rw [this]
  rw [e]; rfl
theorem rOf_any (l : List (BitVec 8)) (hl : l.length ≤ 8) (g c : Nat) (cur : Array Value) (w : World) (hW : w.heap[g]? = some (.cells cur 5 (0, 0))) (hcur : ∀ (j : Nat) (b : BitVec 8), l[j]? = some b → cur[j]? = some (Y b)) :
    Calls Tryz.prog 156 #[.slice (some ⟨g, 0, none⟩) l.length c] w fun e w' => e = .returned (U (accB l)) ∧ w = w' := by
  have HC := Lib.hid hcur
  clear hcur
  go_enter Tryz.func156, Tryz.ntmps156
  go_wp2
  go_loop [3, 4] (fun v i => ∃ (j : Nat) (x : Int), j ≤ l.length ∧ x + 1 = j ∧ i = .int .i64 x ∧ v = U (accB (l.drop j))) (fun _ i => (intOf i + 1).toNat)
  case atStart => exact ⟨l.length, _, Nat.le_refl _, by omega, rfl, by rw [List.drop_length]; rfl⟩
  case round =>
    obtain ⟨j, x, hj, hx, rfl, rfl⟩ := hrel
    cases j with
    | zero =>
      obtain rfl : x = -1 := by omega
      go_wp2
      go_ret
      exact ⟨rfl, rfl⟩
    | succ k =>
      obtain rfl : x = (k : Int) := by omega
      have hlt : k < l.length := by omega
      have hk8 : k < 8 := by omega
      obtain ⟨b, hb⟩ : ∃ b, l[k]? = some b := ⟨l[k]'hlt, List.getElem?_eq_getElem hlt⟩
      have hc := HC.out k b hb
      have HD := Lib.hid (acc_drop hb)
      clear hb hx
      go_wp2
      go_round
      case rel => exact ⟨k, _, by omega, by omega, rfl, by rw [HD.out]⟩
      case measure => simp [intOf]
end
section
attribute [local go_sem] zar
theorem rPut_any (x : BitVec 64) (b : BitVec 8) (n : Nat) (hn : n < 8) (w : World) : Calls Tryz.prog 158 #[U x, Y b, I n] w fun e w' => e = .returned (U (withB x n b)) ∧ Ch [] w w' := by
  have HE := Lib.hid (acc_put x n hn b)
  go_enter Tryz.func158, Tryz.ntmps158
  go_wp2_with fail
  refine (rBytes_any x w).mono ?_
  rintro e w1 ⟨a, c, rfl, hown, hc1⟩
  obtain ⟨_, ⟨hv, h0⟩ | ⟨g, cap, cur, hv, hg, hW, hle, _, hsz, hx⟩⟩ := hown
  · cases hv
  · simp only [Value.slice.injEq] at hv
    obtain ⟨rfl, -, rfl⟩ := hv
    have hnc : n < cur.size := by omega
    have hC : Ch [] w (w1.setCell ⟨g, n, none⟩ (Y b)) := hc1.setCell (p := ⟨g, n, none⟩) (.inr hg) _
    have O1 := rOf_any ((bytesOf x).set n b) (by rw [List.length_set, bytesOf_len]; omega) g c (cur.setIfInBounds n (Y b)) (w1.setCell ⟨g, n, none⟩ (Y b)) (by rw [zaa, if_pos rfl, hW]; rfl) (fun j y hj => by
      rw [List.getElem?_set] at hj
      rw [Array.getElem?_setIfInBounds]
      by_cases h : n = j
      · subst h
        rw [if_pos rfl, if_pos (by rw [bytesOf_len]; exact hn)] at hj
        rw [if_pos rfl, if_pos hnc]
        rw [← Option.some.inj hj]
      · rw [if_neg h] at hj ⊢
        have h1 : (ycells (bytesOf x))[j]? = some (Y y) := by unfold ycells; rw [List.getElem?_map, hj]; rfl
        rw [← hx, List.getElem?_take] at h1
        split at h1
        · simpa using h1
        · cases h1)
    rw [List.length_set, bytesOf_len, HE.out] at O1
    have hn0 : (0 : Int) ≤ (n : Int) := by omega
    have hn8 : (n : Int) < 8 := by omega
    have hsome : cur[n]? = some (cur[n]'hnc) := Array.getElem?_eq_getElem hnc
    have HC := Lib.hid hC
    clear hx hle hg hsz hC hc1
    go_wp2_with (go_at_call 156; refine O1.mono ?_; rintro e w' ⟨rfl, rfl⟩)
    go_ret
    exact ⟨rfl, HC.out⟩
theorem two_mul8 (n : Nat) : BitVec.ofInt 8 (2 * N (laneM n)) = laneM (n + 1) := by
  unfold laneM
  rw [BitVec.ofInt_mul, zar]
  apply BitVec.eq_of_toNat_eq
  rw [BitVec.toNat_mul, BitVec.toNat_shiftLeft, BitVec.toNat_shiftLeft, Nat.shiftLeft_eq, Nat.shiftLeft_eq, Nat.pow_succ]
  show (2 * (1 * 2 ^ n % 256)) % 256 = 1 * (2 ^ n * 2) % 256
  omega
theorem rWith_any (m : BitVec 8) (n : Nat) (hn : n ≤ 64) (w : World) : Calls Tryz.prog 274 #[Y m, I n] w fun e w' => e = .returned (Y (m + laneM n)) ∧ w = w' := by
  go_enter Tryz.func274, Tryz.ntmps274
  go_wp2
  go_loop [5, 7] (fun v i => ∃ j : Nat, j ≤ n ∧ i = .int .i64 j ∧ v = Y (laneM j)) (fun _ i => n - (intOf i).toNat)
  case atStart => exact ⟨0, Nat.zero_le _, rfl, rfl⟩
  case round =>
    obtain ⟨j, hj, rfl, rfl⟩ := hrel
    by_cases hlt : j < n
    · have HS := Lib.hid (two_mul8 j)
      go_wp2
      go_round
      case rel => exact ⟨j + 1, by omega, by go_num, by first | rw [HS.out] | (rw [← HS.out]; rfl) | (rw [← HS.out, BitVec.ofInt_mul, zar]; rfl)⟩
      case measure => simp [intOf]; omega
    · have hjn : j = n := by omega
      have HJ := Lib.hid hjn
      clear hjn
      go_wp2
      go_ret
      refine ⟨?_, rfl⟩
      rw [← HJ.out]; rfl
end
section
attribute [local go_sem] zar
attribute [local go_sem] box26 zbx cell0 cell1 cell2 cell3 cell4 cell5 cell6
attribute [local go_sem high] zcb
attribute [local irreducible] tcells
theorem build_slice8 (w : World) : (Instr.buildSlice 228 8 #[(0, .int .u8 128), (1, .int .u8 128), (2, .int .u8 128), (3, .int .u8 128), (4, .int .u8 128), (5, .int .u8 128), (6, .int .u8 128), (7, .int .u8 128)]).run Tryz.prog w = .ok (.slice (some ⟨w.heap.size, 0, none⟩) 8 8) (w.alloc (.cells (#[.int .u8 128, .int .u8 128, .int .u8 128, .int .u8 128, .int .u8 128, .int .u8 128, .int .u8 128, .int .u8 128]) 5)) := by kernel_rfl
theorem build_ctrl (x y : BitVec 64) (w : World) : (Instr.build 23 #[(0, U x), (1, U y)]).run Tryz.prog w = .ok (.agg #[U x, U y]) w := by kernel_rfl
theorem build_new (c : BitVec 64) (d : Int) (p x : BitVec 64) (w : World) : (buildRow 26 #[(0, U c), (1, I d), (2, U p), (3, .int .i64 14), (5, .agg #[U x, U x])]).run Tryz.prog w = .ok (.agg (tcells ⟨c, d, p, 14, 0, fun _ => x, fun _ => 0#64, fun _ => 0#64⟩)) w := by kernel_rfl
attribute [local go_sem] build_slice8 build_new
attribute [local go_sem high] build_ctrl
attribute [local go_sem ↓] brow26
theorem acc_tops : accB (List.replicate 8 128#8) = tops := by decide +kernel
theorem rNew_any (c : BitVec 64) (d : Int) (p : BitVec 64) (w : World) : Calls Tryz.prog 94 #[U c, I d, U p] w fun e w' => e = .returned (.agg (tcells (bareT c d p))) ∧ Ch [] w w' := by
  have O1 : ∀ (w : World) (g : Nat), w.heap[g]? = some (.cells (#[.int .u8 128, .int .u8 128, .int .u8 128, .int .u8 128, .int .u8 128, .int .u8 128, .int .u8 128, .int .u8 128]) 5 (0, 0)) → Calls Tryz.prog 156 #[.slice (some ⟨g, 0, none⟩) 8 8] w fun e w' => e = .returned (U tops) ∧ w = w' := fun w g hg => by
    have h := rOf_any (List.replicate 8 128#8) (by simp) g 8 (#[.int .u8 128, .int .u8 128, .int .u8 128, .int .u8 128, .int .u8 128, .int .u8 128, .int .u8 128, .int .u8 128]) w hg (fun j b hj => by
      rw [List.getElem?_replicate] at hj
      rw [show (#[.int .u8 128, .int .u8 128, .int .u8 128, .int .u8 128, .int .u8 128, .int .u8 128, .int .u8 128, .int .u8 128] : Array Value) = Array.replicate 8 (.int .u8 128) from rfl, Array.getElem?_replicate]
      split at hj
      · rename_i h; rw [if_pos h]; cases hj; rfl
      · cases hj)
    rwa [acc_tops] at h
  have HB : bareT c d p = ⟨c, d, p, 14, 0, fun _ => tops, fun _ => 0#64, fun _ => 0#64⟩ := rfl
  rw [HB]
  clear HB
  generalize tops = x at *
  obtain ⟨W0, hW0⟩ : ∃ W0, w.alloc (.cells (tcells zeroT) 26) = W0 := ⟨_, rfl⟩
  have hC0 : Ch [] w W0 := by rw [← hW0]; exact (Ch.refl [] w).alloc _
  have b0 : W0.heap[w.heap.size]? = some (.cells (tcells zeroT) 26 (0, 0)) := by rw [← hW0]; simp [go_sem]
  obtain ⟨W1, hW1⟩ : ∃ W1, W0.alloc (.cells (#[.int .u8 128, .int .u8 128, .int .u8 128, .int .u8 128, .int .u8 128, .int .u8 128, .int .u8 128, .int .u8 128]) 5) = W1 := ⟨_, rfl⟩
  have hC1 : Ch [] W0 W1 := by rw [← hW1]; exact (Ch.refl [] W0).alloc _
  have y1 : W1.heap[W0.heap.size]? = some (.cells (#[.int .u8 128, .int .u8 128, .int .u8 128, .int .u8 128, .int .u8 128, .int .u8 128, .int .u8 128, .int .u8 128]) 5 (0, 0)) := by rw [← hW1]; simp [go_sem]
  have b1 := hkeep hC1 b0
  go_enter Tryz.func94, Tryz.ntmps94
  go_wp2_with fail
  refine (O1 _ _ y1).mono ?_
  rintro e w' ⟨rfl, rfl⟩
  clear O1
  go_wp2
  refine bodyPost_ret (v := .agg (tcells ⟨c, d, p, 14, 0, fun _ => x, fun _ => 0#64, fun _ => 0#64⟩)) (zcf Tryz.results94 _ _ _ rfl (run_loadVar_row _ _ 26 26 (tcells _) (0, 0) _ ?_ Tryz.underlying26 rfl (by rw [zai]; kernel_rfl))) rfl ⟨rfl, ?_⟩
  · simp only [zab, if_true, b1, Option.map_some, zcb]
  · exact (hC0.trans hC1).onObj (.inr (Nat.le_refl _)) _
end
section
attribute [local go_sem] Oper.semAt_some zap
def WordsO (cur : Array Value) (o : Nat) (l : List (BitVec 64)) : Prop := ∀ (j : Nat) (x : BitVec 64), l[j]? = some x → cur[o + j]? = some (U x)
theorem eqWords0_any (a b : Option Addr) (c d : Nat) (w : World) : Calls Tryz.prog 31 #[.slice a 0 c, .slice b 0 d] w fun e w' => e = .returned (.bool true) ∧ Ch [] w w' := by
  go_enter Tryz.func31, Tryz.ntmps31
  go_wp2
  go_loopw [13] (fun i wr => ∃ j : Nat, i = .int .i64 j ∧ j ≤ 0 ∧ Ch [] w wr) (fun i _ => 0 - (intOf i).toNat)
  case atStart => exact ⟨0, rfl, Nat.zero_le _, Ch.refl _ _⟩
  case round =>
    obtain ⟨j, hj, hjl, hcr⟩ := hrel
    subst hj
    obtain rfl : j = 0 := by omega
    go_wp2
    go_ret
    exact ⟨rfl, hcr⟩
theorem eqWordsO_any (l : List (BitVec 64)) (oa ob : Nat) (a b : Option Addr) (c d : Nat) (cur cur2 : Array Value) (w : World) (hl : l.length ≤ 900000)
    (hpa : WordsO cur oa l) (ha : 0 < l.length → ∃ r, a = some ⟨r, oa, none⟩) (hr : ∀ r, a = some ⟨r, oa, none⟩ → w.heap[r]? = some (.cells cur 22 (0, 0)))
    (hpb : WordsO cur2 ob l) (hb : 0 < l.length → ∃ r, b = some ⟨r, ob, none⟩) (hs : ∀ r, b = some ⟨r, ob, none⟩ → w.heap[r]? = some (.cells cur2 22 (0, 0))) :
    Calls Tryz.prog 31 #[.slice a l.length c, .slice b l.length d] w fun e w' => e = .returned (.bool true) ∧ Ch [] w w' := by
  have HP := Lib.hid hpa
  have HA := Lib.hid ha
  have HR := Lib.hid hr
  have HPB := Lib.hid hpb
  have HAB := Lib.hid hb
  have HRB := Lib.hid hs
  clear hpa ha hr hpb hb hs
  go_enter Tryz.func31, Tryz.ntmps31
  go_wp2
  go_loopw [13] (fun i wr => ∃ j : Nat, i = .int .i64 j ∧ j ≤ l.length ∧ Ch [] w wr) (fun i _ => l.length - (intOf i).toNat)
  case atStart => exact ⟨0, rfl, Nat.zero_le _, Ch.refl _ _⟩
  case round =>
    obtain ⟨j, hj, hjl, hcr⟩ := hrel
    subst hj
    rcases Nat.lt_or_ge j l.length with hlt | hge
    · obtain ⟨r, hra⟩ := HA.out (by omega)
      obtain ⟨q, hqb⟩ := HAB.out (by omega)
      obtain ⟨y, hy⟩ : ∃ y, l[j]? = some y := ⟨l[j]'hlt, List.getElem?_eq_getElem hlt⟩
      have hrow : cur[oa + j]? = some (U y) := HP.out j y hy
      have hrow2 : cur2[ob + j]? = some (U y) := HPB.out j y hy
      subst hra hqb
      have hrr : wr.heap[r]? = some (.cells cur 22 (0, 0)) := hkeep hcr (HR.out r rfl)
      have hqq : wr.heap[q]? = some (.cells cur2 22 (0, 0)) := hkeep hcr (HRB.out q rfl)
      have hdec : decide (j < l.length) = true := by simpa using hlt
      have hg0 : ∀ g : Gar wr, (g.1).heap[q]? = some (.cells cur2 22 (0, 0)) := fun g => hkeep g.2 hqq
      have hg1 : ∀ g : Gar wr, (g.1).heap[r]? = some (.cells cur 22 (0, 0)) := fun g => hkeep g.2 hrr
      clear hy
      go_wp2
      refine zda (by kernel_rfl) (by kernel_rfl) ?_
      repeat (go_big_quiet_step (fail))
      refine wpQuiet_nil ?_
      rintro w1 ⟨g1, hw1⟩
      have hc1 : Ch [] w w1 := hcr.trans (by rw [hw1]; exact g1.2)
      clear hw1 g1 hg0 hg1
      go_wp2
      go_roundw
      case rel => exact ⟨j + 1, by go_num, hlt, hc1⟩
      case measure => simp [intOf]; omega
    · have hj : j = l.length := by omega
      subst hj
      go_wp2
      go_ret
      exact ⟨rfl, hcr⟩
end
end Go.Proofs.Hc
namespace Go.Proofs.Hc
open Go.RowKit
theorem partw_len {L : List (BitVec 64)} {o k : Nat} (h : o + k ≤ L.length) : ((L.drop o).take k).length = k := by
  rw [List.length_take, List.length_drop]; omega
theorem partw_of {cur : Array Value} {n L : List (BitVec 64)} (o k : Nat) (hw : WordsAt cur n) (h : ∀ j, o ≤ j → j < o + k → n[j]? = L[j]?) : WordsO cur o ((L.drop o).take k) := by
  intro j x hj
  rw [List.getElem?_take] at hj
  split at hj
  · rename_i hk
    rw [List.getElem?_drop] at hj
    exact hw (o + j) x (by rw [h (o + j) (by omega) (by omega)]; exact hj)
  · cases hj
theorem eq_parts (n L : List (BitVec 64)) (o k Q R c d : Nat) (curn curL : Array Value) (w : World) (hk : o + k ≤ L.length) (hl : L.length ≤ 900000) (hn : WordsAt curn n) (hL : WordsAt curL L) (h : ∀ j, o ≤ j → j < o + k → n[j]? = L[j]?)
    (hq : w.heap[Q]? = some (.cells curn 22 (0, 0))) (hr : w.heap[R]? = some (.cells curL 22 (0, 0))) :
    Calls Tryz.prog 31 #[.slice (some ⟨Q, o, none⟩) k c, .slice (some ⟨R, o, none⟩) k d] w fun e w' => e = .returned (.bool true) ∧ Ch [] w w' := by
  have := eqWordsO_any ((L.drop o).take k) o o (some ⟨Q, o, none⟩) (some ⟨R, o, none⟩) c d curn curL w (by rw [partw_len hk]; omega) (partw_of o k hn h) (fun _ => ⟨Q, rfl⟩) (fun r e => by cases e; exact hq) (partw_of o k hL (fun _ _ _ => rfl)) (fun _ => ⟨R, rfl⟩) (fun r e => by cases e; exact hr)
  rw [partw_len hk] at this
  exact this
theorem eq_noparts (a b : Option Addr) (c d : Nat) (w : World) : Calls Tryz.prog 31 #[.slice a 0 c, .slice b 0 d] w fun e w' => e = .returned (.bool true) ∧ Ch [] w w' := by
  have h0 : ∀ (x y : Option Addr), Calls Tryz.prog 31 #[.slice x 0 c, .slice y 0 d] w fun e w' => e = .returned (.bool true) ∧ Ch [] w w' := fun x y =>
    eqWords0_any x y c d w
  exact h0 a b
end Go.Proofs.Hc
