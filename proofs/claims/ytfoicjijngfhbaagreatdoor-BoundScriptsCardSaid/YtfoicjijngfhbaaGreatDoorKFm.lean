/- Leaf contracts: words, bytes, hashes. -/
import Derived.Test.YtfoicjijngfhbaaGreatDoorKDa
import Derived.Test.YtfoicjijngfhbaaGreatDoorKDb
import Derived.Test.YtfoicjijngfhbaaGreatDoorKHm
import Derived.Test.YtfoicjijngfhbaaGreatDoorKHr
import Derived.Below
import Derived.BigQuiet
import Derived.Deep.Draws
import Derived.Deep.QuietTactic
import Derived.Lib.Hide
import Derived.RangeFuncRecord
import Derived.Test.YtfoicjijngfhbaaGreatDoorProg
import Derived.WalkKit
import Derived.Deep.Cut
import Derived.Deep.RegionHeld
import Derived.Laws.CopyRow
import Derived.Laws.Tables
import Derived.LoopIn
import Derived.LoopNIn
import Derived.OwnWalkIn
import Derived.RangeFuncCalls
import Derived.RangeFuncSeq
import Derived.Recover
import Derived.Sort.Defs
import Derived.TacticsInMore
import Derived.WalkLawsBesides
import Derived.Deep.Slices
import Derived.OpenShut
import Derived.ProofKit
import Derived.Test.YtfoicjijngfhbaaGreatDoorRows
set_option linter.unusedSimpArgs false
set_option linter.unusedVariables false
namespace Go.Proofs.Hc
open Go.RowKit
def mixF (x : BitVec 64) (n : Nat) : BitVec 64 := x ^^^ (x >>> n)
def hashOf (s k : BitVec 64) : BitVec 64 := mixF (mixF ((k ^^^ s) * 0xbf58476d1ce4e5b9#64) 32 * 0x94d049bb133111eb#64) 29
attribute [local go_sem] wrap_u64 wrap_u8 bits_xor64 bits_and64 bits_or64 bits_not64 bits_xor8 bits_and8 bits_or8 signed64 signed8 ofInt_N BitVec.ofInt_add BitVec.ofInt_mul ofInt_sub' ofInt8_N64 ofInt64_N8 wide8 eqN neN shr_pow shr1 shr7 shr56
attribute [local go_sem high] bits_com64 shl_wrap
theorem times_any (x : BitVec 64) (y : Int) (w : World) :
    Calls Tryz.prog 102 #[U x, .int .u64 y] w fun e w' => e = .returned (U (x * BitVec.ofInt 64 y)) ∧ w = w' := by
  go_enter Tryz.func102, Tryz.ntmps102
  go_wp2
  go_ret
  exact ⟨rfl, rfl⟩
theorem folded_any (x : BitVec 64) (n : Int) (h : 0 ≤ n) (w : World) :
    Calls Tryz.prog 103 #[U x, I n] w fun e w' => e = .returned (U (mixF x n.toNat)) ∧ w = w' := by
  obtain ⟨n, rfl⟩ := Int.eq_ofNat_of_zero_le h
  go_enter Tryz.func103, Tryz.ntmps103
  have hm : N x / 2 ^ min n 64 = N (x >>> n) := shr_min x n
  go_wp2
  go_ret
  exact ⟨by unfold mixF; rfl, rfl⟩
theorem hashOf_any (s k : BitVec 64) (w : World) :
    Calls Tryz.prog 96 #[U s, U k] w fun e w' => e = .returned (U (hashOf s k)) ∧ w = w' := by
  go_enter Tryz.func96, Tryz.ntmps96
  go_wp2_with (first
    | (go_at_call 102; refine (times_any _ _ _).mono ?_; rintro e w' ⟨rfl, rfl⟩)
    | (go_at_call 103; refine (folded_any _ _ (by decide) _).mono ?_; rintro e w' ⟨rfl, rfl⟩))
  go_ret
  exact ⟨by unfold hashOf; rfl, rfl⟩
end Go.Proofs.Hc
/- PURE: hashes of different keys differ; with how few bits no prefix is had by too many. -/
namespace Go.Proofs.Hc
theorem mixF32_inj {x y : BitVec 64} (h : mixF x 32 = mixF y 32) : x = y := by
  have k : ∀ z : BitVec 64, mixF z 32 ^^^ (mixF z 32 >>> 32) = z := fun z => by
    unfold mixF
    rw [BitVec.ushiftRight_xor_distrib, ← BitVec.shiftRight_add, BitVec.ushiftRight_eq_zero (show 64 ≤ 32 + 32 by omega), BitVec.xor_zero, BitVec.xor_assoc, BitVec.xor_self, BitVec.xor_zero]
  rw [← k x, ← k y, h]
theorem mixF29_inj {x y : BitVec 64} (h : mixF x 29 = mixF y 29) : x = y := by
  have k : ∀ z : BitVec 64, mixF z 29 ^^^ ((mixF z 29 >>> 29) ^^^ (mixF z 29 >>> 58)) = z := fun z => by
    have e1 : mixF z 29 >>> 29 = z >>> 29 ^^^ z >>> 58 := by
      unfold mixF
      rw [BitVec.ushiftRight_xor_distrib, ← BitVec.shiftRight_add]
    have e2 : mixF z 29 >>> 58 = z >>> 58 := by
      unfold mixF
      rw [BitVec.ushiftRight_xor_distrib, ← BitVec.shiftRight_add, BitVec.ushiftRight_eq_zero (show 64 ≤ 29 + 58 by omega), BitVec.xor_zero]
    rw [e1, e2, BitVec.xor_assoc (z >>> 29), BitVec.xor_self, BitVec.xor_zero]
    unfold mixF
    rw [BitVec.xor_assoc, BitVec.xor_self, BitVec.xor_zero]
  rw [← k x, ← k y, h]
theorem mul_odd {c c' x y : BitVec 64} (hc : c * c' = 1#64) (h : x * c = y * c) : x = y := by
  rw [← BitVec.mul_one x, ← BitVec.mul_one y, ← hc, ← BitVec.mul_assoc, ← BitVec.mul_assoc, h]
theorem hashOf_inj (s : BitVec 64) {x y : BitVec 64} (h : hashOf s x = hashOf s y) : x = y := by
  have h1 := mul_odd (c' := 0x319642b2d24d8ec3#64) (by decide) (mixF29_inj h)
  have h2 := mul_odd (c' := 0x96de1b173f119089#64) (by decide) (mixF32_inj h1)
  have h3 := congrArg (fun z => z ^^^ s) h2
  simpa [BitVec.xor_assoc] using h3
def prefW (n : Nat) (h : BitVec 64) : BitVec 64 := h >>> (64 - n)
/-- How many of the hashes have this prefix of n bits. -/
def crowdF (n : Nat) (hs : List (BitVec 64)) (p : BitVec 64) : Int := ((hs.filter fun h => prefW n h == p).length : Nat)
theorem crowdF_nil (n : Nat) : crowdF n [] = fun _ => 0 := rfl
theorem crowdF_snoc (n : Nat) (hs : List (BitVec 64)) (h : BitVec 64) : crowdF n (hs ++ [h]) = fun p => if p = prefW n h then crowdF n hs (prefW n h) + 1 else crowdF n hs p := by
  funext p
  unfold crowdF
  rw [List.filter_append]
  by_cases hp : p = prefW n h
  · subst hp
    simp
  · have : (prefW n h == p) = false := by simpa using fun e => hp e.symm
    simp [this, hp]
theorem crowdF_le (n : Nat) (hs : List (BitVec 64)) (p : BitVec 64) : 0 ≤ crowdF n hs p ∧ crowdF n hs p ≤ hs.length := ⟨by unfold crowdF; omega, by unfold crowdF; exact_mod_cast List.length_filter_le _ _⟩
/-- Is no prefix of n bits had by more than m of the hashes? -/
def fitsN (m : Nat) (hs : List (BitVec 64)) (n : Nat) : Bool := hs.all fun h => decide (crowdF n hs (prefW n h) ≤ m)
theorem fits_iff (m : Nat) (hs : List (BitVec 64)) (n : Nat) : fitsN m hs n = true ↔ ∀ p, crowdF n hs p ≤ m := by
  unfold fitsN
  rw [List.all_eq_true]
  constructor
  · intro h p
    by_cases h0 : crowdF n hs p = 0
    · rw [h0]; omega
    · have h1 : (hs.filter fun h => prefW n h == p) ≠ [] := fun e => h0 (by unfold crowdF; rw [e]; rfl)
      obtain ⟨x, hx⟩ := List.exists_mem_of_ne_nil _ h1
      obtain ⟨hx1, hx2⟩ := List.mem_filter.1 hx
      have := of_decide_eq_true (h x hx1)
      rwa [show prefW n x = p by simpa using hx2] at this
  · intro h x _
    exact decide_eq_true (h _)
theorem nodup_filter_eq {l : List (BitVec 64)} (h : l.Nodup) (p : BitVec 64) : (l.filter fun x => x == p).length ≤ 1 := by
  have : (l.filter fun x => x == p).length = l.count p := by
    rw [List.count_eq_countP, List.countP_eq_length_filter]
  rw [this]
  exact List.nodup_iff_count.1 h p
theorem fits_all (m : Nat) (hm : 1 ≤ m) (hs : List (BitVec 64)) (h : hs.Nodup) : fitsN m hs 64 = true := by
  rw [fits_iff]
  intro p
  have : ∀ x : BitVec 64, prefW 64 x = x := fun x => by unfold prefW; simp
  unfold crowdF
  simp only [this]
  have := nodup_filter_eq h p
  omega
/-- The first number of bits from n on, of so many, at which they fit. -/
def deepF (m : Nat) (hs : List (BitVec 64)) : Nat → Nat → Nat
  | 0, n => n
  | f + 1, n => if fitsN m hs n then n else deepF m hs f (n + 1)
def deepN (m : Nat) (hs : List (BitVec 64)) : Nat := deepF m hs 64 0
theorem deepF_yes (m : Nat) (hs : List (BitVec 64)) (f n : Nat) (h : fitsN m hs n = true) : deepF m hs f n = n := by
  cases f with
  | zero => rfl
  | succ f => rw [deepF, if_pos h]
theorem deepF_no (m : Nat) (hs : List (BitVec 64)) (n : Nat) (hn : n < 64) (h : fitsN m hs n = false) : deepF m hs (64 - n) n = deepF m hs (64 - (n + 1)) (n + 1) := by
  rw [show 64 - n = (64 - (n + 1)) + 1 by omega, deepF, if_neg (by rw [h]; decide)]
theorem hashes_nodup (s : BitVec 64) {ks : List (BitVec 64)} (h : ks.Nodup) : (ks.map (hashOf s)).Nodup := by
  rw [List.Nodup, List.pairwise_map]
  exact h.imp fun hab e => hab (hashOf_inj s e)
end Go.Proofs.Hc
/- PURE: the reference of layer 7: prefixes bit by bit, the most that share one. -/
namespace Go.Proofs.Hc
theorem pref_step (h : BitVec 64) (i : Nat) (hi : i < 64) : prefW (i + 1) h = (2#64 * prefW i h) + (if h.getLsbD (63 - i) then 1#64 else 0#64) := by
  unfold prefW
  apply BitVec.eq_of_toNat_eq
  have hb : h.getLsbD (63 - i) = decide (h.toNat / 2 ^ (63 - i) % 2 = 1) := by
    rw [← BitVec.testBit_toNat, Nat.testBit_eq_decide_div_mod_eq]
  have hp : 2 ^ (64 - i) = 2 ^ (63 - i) * 2 := by rw [← Nat.pow_succ]; congr 1; omega
  have e1 : (h >>> (64 - (i + 1))).toNat = h.toNat / 2 ^ (63 - i) := by
    rw [BitVec.toNat_ushiftRight, Nat.shiftRight_eq_div_pow, show 64 - (i + 1) = 63 - i by omega]
  have e2 : (h >>> (64 - i)).toNat = h.toNat / 2 ^ (63 - i) / 2 := by
    rw [BitVec.toNat_ushiftRight, Nat.shiftRight_eq_div_pow, hp, Nat.div_div_eq_div_mul]
  rw [e1, BitVec.toNat_add, BitVec.toNat_mul, e2, hb]
  have hlt : h.toNat / 2 ^ (63 - i) < 18446744073709551616 := Nat.lt_of_le_of_lt (Nat.div_le_self _ _) h.isLt
  generalize h.toNat / 2 ^ (63 - i) = q at *
  by_cases hq : q % 2 = 1
  · rw [decide_eq_true hq]
    show q = (2 * (q / 2) % 18446744073709551616 + 1) % 18446744073709551616
    omega
  · rw [decide_eq_false hq]
    show q = (2 * (q / 2) % 18446744073709551616 + 0) % 18446744073709551616
    omega
theorem pref_zero (h : BitVec 64) : prefW 0 h = 0#64 := by
  unfold prefW
  exact BitVec.ushiftRight_eq_zero (by omega)
/-- By how many a prefix is had at most, among the hashes looked at. -/
def mostR (n : Nat) (hs l : List (BitVec 64)) : Int := l.foldl (fun m h => if m < crowdF n hs (prefW n h) then crowdF n hs (prefW n h) else m) 0
theorem mostR_snoc (n : Nat) (hs l : List (BitVec 64)) (h : BitVec 64) : mostR n hs (l ++ [h]) = if mostR n hs l < crowdF n hs (prefW n h) then crowdF n hs (prefW n h) else mostR n hs l := by
  unfold mostR
  rw [List.foldl_append]
  rfl
theorem mostR_le (n : Nat) (hs : List (BitVec 64)) (m : Int) (hm : 0 ≤ m) (l : List (BitVec 64)) : mostR n hs l ≤ m ↔ ∀ h ∈ l, crowdF n hs (prefW n h) ≤ m := by
  have key : ∀ (l : List (BitVec 64)) (a : Int), l.foldl (fun m h => if m < crowdF n hs (prefW n h) then crowdF n hs (prefW n h) else m) a ≤ m ↔ (a ≤ m ∧ ∀ h ∈ l, crowdF n hs (prefW n h) ≤ m) := by
    intro l
    induction l with
    | nil => intro a; simp
    | cons h l ih =>
      intro a
      rw [List.foldl_cons, ih]
      constructor
      · rintro ⟨h1, h2⟩
        have h3 : a ≤ m ∧ crowdF n hs (prefW n h) ≤ m := by
          split at h1 <;> omega
        exact ⟨h3.1, fun x hx => by
          rcases List.mem_cons.1 hx with rfl | hx
          · exact h3.2
          · exact h2 x hx⟩
      · rintro ⟨h1, h2⟩
        have h3 := h2 h (by simp)
        refine ⟨?_, fun x hx => h2 x (by simp [hx])⟩
        split <;> omega
  unfold mostR
  rw [key]
  constructor
  · exact fun h => h.2
  · exact fun h => ⟨hm, h⟩
theorem mostR_ge (n : Nat) (hs l : List (BitVec 64)) : 0 ≤ mostR n hs l ∧ mostR n hs l ≤ hs.length := by
  refine ⟨?_, (mostR_le n hs _ (by omega) l).2 fun h _ => (crowdF_le n hs _).2⟩
  have key : ∀ (l : List (BitVec 64)) (a : Int), 0 ≤ a → 0 ≤ l.foldl (fun m h => if m < crowdF n hs (prefW n h) then crowdF n hs (prefW n h) else m) a := by
    intro l
    induction l with
    | nil => intro a h; exact h
    | cons h l ih =>
      intro a ha
      rw [List.foldl_cons]
      refine ih _ ?_
      have := (crowdF_le n hs (prefW n h)).1
      split <;> omega
  exact key l 0 (by omega)
theorem most_fits (m n : Nat) (hs : List (BitVec 64)) : mostR n hs hs ≤ m ↔ fitsN m hs n = true := by
  rw [mostR_le n hs m (by omega)]
  unfold fitsN
  rw [List.all_eq_true]
  exact ⟨fun h x hx => decide_eq_true (h x hx), fun h x hx => of_decide_eq_true (h x hx)⟩
end Go.Proofs.Hc
/- slices.reverseRangeOrdered at words. -/
namespace Go.Proofs.Hc
open Go.RowKit
set_option linter.unusedVariables false
set_option linter.unusedSimpArgs false
attribute [local go_sem] wrap_u64 wrap_u8 bits_xor64 bits_and64 bits_or64 bits_not64 bits_xor8 bits_and8 bits_or8 signed64 signed8 ofInt_N BitVec.ofInt_add BitVec.ofInt_mul ofInt_sub' ofInt8_N64 ofInt64_N8 wide8 eqN neN shr_pow shr1 shr7 shr56
attribute [local go_sem high] bits_com64 shl_wrap
attribute [local go_sem] nn2 nm2 nn3 nm3 nn4 nm4 nn5 nm5 nn6 nm6 nn7 nm7 nn8 nm8
attribute [local go_sem] Oper.semAt_some make_func1
attribute [local go_sem] cell_heap ice_heap cellAt_cells iceAt_cells setAt_cells size_setCell rowAt_cells canLay_cells laidAt_cells size_onObj rowRes_some layRes_true
attribute [local go_sem ↓] heap_alloc heap_drew heap_drewN heap_setCell heap_putObj heap_onObj
theorem rev_go (i j : Nat) (d : Array (BitVec 64)) (h : i < j) : Go.Sort.reverseLoop i j d = Go.Sort.reverseLoop (i + 1) (j - 1) (Go.Sort.swp d i j) := by
  rw [Go.Sort.reverseLoop, if_pos h]
theorem rev_end (i j : Nat) (d : Array (BitVec 64)) (h : ¬ i < j) : Go.Sort.reverseLoop i j d = d := by
  rw [Go.Sort.reverseLoop, if_neg h]
set_option maxHeartbeats 4000000 in
set_option maxRecDepth 100000 in
theorem rev_any (q cap a b n : Nat) (d : Array (BitVec 64)) (hn : d.size = n) (z : Array Value) (w : World) (hab : a < b) (hb : b ≤ n) (hs : n < 1152921504606846976) (hq : RowW w q d z) :
    Calls Tryz.prog 74 #[.slice (some ⟨q, 0, none⟩) n cap, I a, I b] w fun e w' => e = .returned (.tuple #[]) ∧ RowW w' q (Go.Sort.reverseRange d a b) z ∧ Ch [q] w w' := by
  unfold Go.Sort.reverseRange
  obtain ⟨j0, hj0⟩ : ∃ j, b - 1 = j := ⟨_, rfl⟩
  rw [hj0]
  have e1 : (b : Int) - 1 = j0 := by omega
  have hj1 : j0 < n := by omega
  have HN := Lib.hid hn
  have HQ := Lib.hid hq
  clear hn hq hj0
  go_enter Tryz.func74, Tryz.ntmps74
  go_wp2
  go_loopw [6, 7] (fun vi vj wr => ∃ (i j : Nat) (dj : Array (BitVec 64)), vi = I i ∧ vj = I j ∧ i ≤ n ∧ j < n ∧ dj.size = n ∧ RowW wr q dj z ∧ Go.Sort.reverseLoop i j dj = Go.Sort.reverseLoop a j0 d ∧ Ch [q] w wr) (fun vi vj _ => (intOf vj).toNat + 1 - (intOf vi).toNat)
  case atStart => exact ⟨a, j0, d, rfl, by first | rfl | go_num, by omega, hj1, HN.out, HQ.out, rfl, Ch.refl _ _⟩
  case round =>
    obtain ⟨i, j, dj, hi, hj, hin, hjn, hdj, hrow, hrv, hC⟩ := hrel
    subst hi hj
    have HV := Lib.hid hrv
    clear hrv HQ HN
    rcases (show ¬ i < j ∨ i < j by omega) with hlt | hlt
    · have hE := Lib.hid (rev_end i j dj hlt)
      have HRW := Lib.hid hrow
      have hlti : ¬ (i : Int) < j := by omega
      clear hrow hdj
      go_wp2
      go_end0
      exact ⟨rfl, by rw [← HV.out, hE.out]; exact HRW.out, hC⟩
    · have hE := Lib.hid (rev_go i j dj hlt)
      have hlti : (i : Int) < j := by omega
      have cA := dcells_get dj z i (by omega)
      have cB := dcells_get dj z j (by omega)
      have SW := fun wq (h : RowW wq q dj z) => RowW.swap h i j (by omega) (by omega)
      have hsz := (swp_size dj i j).trans hdj
      obtain ⟨X, hX⟩ : ∃ x, dj[i]! = x := ⟨_, rfl⟩
      obtain ⟨Y, hY⟩ : ∃ x, dj[j]! = x := ⟨_, rfl⟩
      rw [hX] at cA SW
      rw [hY] at cB SW
      have HSW := Lib.hid SW
      have HSZ := Lib.hid hsz
      have hrow2 : wr.heap[q]? = some (.cells (dcells dj z) 22 (0, 0)) := hrow
      have k1 : (i : Int) < n := by omega
      have k2 : (j : Int) < n := by omega
      have k3 : (0 : Int) ≤ i := by omega
      have k4 : (0 : Int) ≤ j := by omega
      have k5 : ¬ i = j := by omega
      have k6 : ¬ j = i := by omega
      have HR := Lib.hid hrow
      have HC := Lib.hid hC
      clear hrow SW hsz hC
      go_wp2
      go_region
      all_goals go_wp2
      go_roundw
      case rel => exact ⟨i + 1, j - 1, _, by go_num, by go_num, by omega, by omega, HSZ.out, HSW.out wr HR.out, by rw [← HV.out, hE.out], (((HC.out.setCell (.inl (by simp)) _).setCell (.inl (by simp)) _)).drew⟩
      case measure => simp [intOf]; omega
end Go.Proofs.Hc
/- Law 29: words of the arguments' reading. -/
namespace Go.Proofs.Hc
open Go.ChangeShapes Go.WideShapes Go.ChangeAt Go.RowKit
set_option linter.unusedVariables false
section
variable {H : Type} {enc : TypeId × Value → H} {w : World} {base : Nat} {spare : Nat → Bool} {held : Bool}
theorem one_cellB {cs : List Value} {o : Nat} {v : Value} (h : (cs.drop o).take 1 = [v]) : cs[o]? = some v := by
  have := congrArg (fun l => l[0]?) h
  simpa using this
theorem cellsB_int : Tryz.prog.cellsOf 3 = 1 := by kernel_rfl
theorem cell_inB {w : World} {b o : Nat} {v : Value} (h : w.cell? ⟨b, o, none⟩ = some v) : b < w.heap.size := World.block_lt_of_cell? w _ h
end
end Go.Proofs.Hc
/- the facts of BoundScripts' row: of their own, for the kernel's memory -/
namespace Go.Proofs.YtfoicjijngfhbaaGreatDoor
open Go.ChangeShapes Go.WideShapes Go.ChangeAt Go.RowKit
theorem scripts29_closed : joinedFacts Tryz.pinned.checked.prog 3 Tryz.f3 Rows.boundScriptsSpec Rows.boundScriptsRow = true := by kernel_rfl
theorem scripts29_named : Tryz.pinned.checked.prog.funcNamed Rows.boundScriptsRow.func = some 3 := by kernel_rfl
theorem scripts29_inst : Tryz.f3.isInstance Tryz.pinned.checked.prog Rows.boundScriptsRow.origin Rows.boundScriptsRow.targs := of_decide_eq_true (by kernel_rfl)
theorem scripts29_wrap : Tryz.f3.isWrapper Tryz.pinned.checked.prog Rows.boundScriptsRow.wrapper Rows.boundScriptsRow.mainSum := by unfold Func.isWrapper; first | (rw [if_pos (by decide +kernel)]; kernel_rfl) | (rw [if_neg (by decide +kernel)]; exact ⟨rfl, rfl⟩)
end Go.Proofs.YtfoicjijngfhbaaGreatDoor
