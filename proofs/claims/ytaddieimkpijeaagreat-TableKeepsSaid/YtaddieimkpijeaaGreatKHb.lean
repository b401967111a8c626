/- Leaf contracts: words, bytes, hashes. -/
import Derived.Test.YtaddieimkpijeaaGreatKHa
set_option linter.unusedSimpArgs false
set_option linter.unusedVariables false
namespace Go.Proofs.Hc
open Go.RowKit

def lows : BitVec 64 := 0x7f7f7f7f7f7f7f7f#64
def tops : BitVec 64 := 0x8080808080808080#64
def ones : BitVec 64 := 0x0101010101010101#64
def byteAt (x : BitVec 64) (n : Nat) : BitVec 8 := (x >>> (8 * n)).setWidth 8
def withB (x : BitVec 64) (n : Nat) (b : BitVec 8) : BitVec 64 := (x &&& ~~~(255#64 <<< (8 * n))) ||| (b.setWidth 64 <<< (8 * n))
def noughts (x : BitVec 64) : BitVec 64 := ~~~(((x &&& lows) + lows) ||| x ||| lows)
def gathered (x : BitVec 64) : BitVec 8 := (((x >>> 7) * 0x0102040810204080#64) >>> 56).setWidth 8
def fillB (b : BitVec 8) : BitVec 64 := b.setWidth 64 * ones
def alike (v w : BitVec 64) : BitVec 8 := gathered (noughts (v ^^^ w))
def equalM (w : BitVec 64) (b : BitVec 8) : BitVec 8 := alike w (fillB b)
def lessM (x y : BitVec 64) : BitVec 64 := ~~~((x ||| tops) - (y &&& lows)) &&& tops
def belowM (x : BitVec 64) (b : BitVec 8) : BitVec 8 := gathered ((~~~x &&& fillB b &&& tops) ||| (~~~(x ^^^ fillB b) &&& lessM x (fillB b)))
def mixF (x : BitVec 64) (n : Nat) : BitVec 64 := x ^^^ (x >>> n)
def hashOf (s k : BitVec 64) : BitVec 64 := mixF (mixF ((k ^^^ s) * 0xbf58476d1ce4e5b9#64) 32 * 0x94d049bb133111eb#64) 29
def hash1 (h : BitVec 64) : BitVec 64 := h >>> 7
def hash2 (h : BitVec 64) : BitVec 8 := h.setWidth 8 &&& 127#8
def isLane (n : Int) : Bool := decide (0 ≤ n) && decide (n < 8)

attribute [local go_sem] wrap_u64 wrap_u8 bits_xor64 bits_and64 bits_or64 bits_not64 bits_xor8 bits_and8 bits_or8 signed64 signed8 ofInt_N BitVec.ofInt_add BitVec.ofInt_mul ofInt_sub' ofInt8_N64 ofInt64_N8 wide8 eqN neN shr_pow shr1 shr7 shr56
attribute [local go_sem high] bits_com64 shl_wrap

theorem shift_any (n : Nat) (w : World) (h : n < 8) :
    Calls Tryz.prog 160 #[I n] w fun e w' => e = .returned (I ((8 * n : Nat) : Int)) ∧ w = w' := by
  go_enter Tryz.func160, Tryz.ntmps160
  go_wp2
  go_ret
  exact ⟨by rw [show ((8 * n : Nat) : Int) = (n : Int) * 8 by omega]; rfl, rfl⟩
theorem word_at_any (x : BitVec 64) (n : Nat) (w : World) (h : n < 8) :
    Calls Tryz.prog 145 #[U x, I n] w fun e w' => e = .returned (Y (byteAt x n)) ∧ w = w' := by
  go_enter Tryz.func145, Tryz.ntmps145
  go_wp2_with (go_at_call 160; refine (shift_any _ _ h).mono ?_; rintro e w' ⟨rfl, rfl⟩)
  go_ret
  exact ⟨rfl, rfl⟩
theorem noughts_any (x : BitVec 64) (w : World) :
    Calls Tryz.prog 163 #[U x] w fun e w' => e = .returned (U (noughts x)) ∧ w = w' := by
  go_enter Tryz.func163, Tryz.ntmps163
  go_wp2
  go_ret
  exact ⟨by unfold noughts lows; rfl, rfl⟩
theorem gathered_any (x : BitVec 64) (w : World) :
    Calls Tryz.prog 162 #[U x] w fun e w' => e = .returned (Y (gathered x)) ∧ w = w' := by
  go_enter Tryz.func162, Tryz.ntmps162
  go_wp2
  go_ret
  exact ⟨by unfold gathered; rfl, rfl⟩
theorem with_any (x : BitVec 64) (n : Nat) (b : BitVec 8) (w : World) (h : n < 8) :
    Calls Tryz.prog 167 #[U x, I n, Y b] w fun e w' => e = .returned (U (withB x n b)) ∧ Ch [] w w' := by
  go_enter Tryz.func167, Tryz.ntmps167
  go_wp2
  go_quiet ((go_at_call 160; exact quietL (shift_any _ _ h)))
  go_wp2
  go_ret
  exact ⟨by unfold withB; rfl, (Ch.refl [] w).drewN nq⟩
theorem fillB_any (b : BitVec 8) (w : World) :
    Calls Tryz.prog 113 #[Y b] w fun e w' => e = .returned (U (fillB b)) ∧ w = w' := by
  go_enter Tryz.func113, Tryz.ntmps113
  go_wp2
  go_ret
  exact ⟨by unfold fillB ones; rfl, rfl⟩
theorem alike_any (x y : BitVec 64) (w : World) :
    Calls Tryz.prog 157 #[U x, U y] w fun e w' => e = .returned (Y (alike x y)) ∧ w = w' := by
  go_enter Tryz.func157, Tryz.ntmps157
  go_wp2_with (first
    | (go_at_call 163; refine (noughts_any _ _).mono ?_; rintro e w' ⟨rfl, rfl⟩)
    | (go_at_call 162; refine (gathered_any _ _).mono ?_; rintro e w' ⟨rfl, rfl⟩))
  go_ret
  exact ⟨rfl, rfl⟩
theorem equal_any (x : BitVec 64) (b : BitVec 8) (w : World) :
    Calls Tryz.prog 137 #[U x, Y b] w fun e w' => e = .returned (Y (equalM x b)) ∧ w = w' := by
  go_enter Tryz.func137, Tryz.ntmps137
  go_wp2_with (first
    | (go_at_call 113; refine (fillB_any _ _).mono ?_; rintro e w' ⟨rfl, rfl⟩)
    | (go_at_call 157; refine (alike_any _ _ _).mono ?_; rintro e w' ⟨rfl, rfl⟩))
  go_ret
  exact ⟨rfl, rfl⟩
theorem below_any (x : BitVec 64) (b : BitVec 8) (w : World) :
    Calls Tryz.prog 153 #[U x, Y b] w fun e w' => e = .returned (Y (belowM x b)) ∧ w = w' := by
  go_enter Tryz.func153, Tryz.ntmps153
  go_wp2_with (first
    | (go_at_call 113; refine (fillB_any _ _).mono ?_; rintro e w' ⟨rfl, rfl⟩)
    | (go_at_call 162; refine (gathered_any _ _).mono ?_; rintro e w' ⟨rfl, rfl⟩))
  go_ret
  exact ⟨by unfold belowM lessM lows tops; rfl, rfl⟩
theorem times_any (x : BitVec 64) (y : Int) (w : World) :
    Calls Tryz.prog 117 #[U x, .int .u64 y] w fun e w' => e = .returned (U (x * BitVec.ofInt 64 y)) ∧ w = w' := by
  go_enter Tryz.func117, Tryz.ntmps117
  go_wp2
  go_ret
  exact ⟨rfl, rfl⟩
theorem folded_any (x : BitVec 64) (n : Int) (h : 0 ≤ n) (w : World) :
    Calls Tryz.prog 118 #[U x, I n] w fun e w' => e = .returned (U (mixF x n.toNat)) ∧ w = w' := by
  obtain ⟨n, rfl⟩ := Int.eq_ofNat_of_zero_le h
  go_enter Tryz.func118, Tryz.ntmps118
  have hm : N x / 2 ^ min n 64 = N (x >>> n) := shr_min x n
  go_wp2
  go_ret
  exact ⟨by unfold mixF; rfl, rfl⟩
theorem hashOf_any (s k : BitVec 64) (w : World) :
    Calls Tryz.prog 82 #[U s, U k] w fun e w' => e = .returned (U (hashOf s k)) ∧ w = w' := by
  go_enter Tryz.func82, Tryz.ntmps82
  go_wp2_with (first
    | (go_at_call 117; refine (times_any _ _ _).mono ?_; rintro e w' ⟨rfl, rfl⟩)
    | (go_at_call 118; refine (folded_any _ _ (by decide) _).mono ?_; rintro e w' ⟨rfl, rfl⟩))
  go_ret
  exact ⟨by unfold hashOf; rfl, rfl⟩
theorem hash1_any (h : BitVec 64) (w : World) :
    Calls Tryz.prog 124 #[U h] w fun e w' => e = .returned (U (hash1 h)) ∧ w = w' := by
  go_enter Tryz.func124, Tryz.ntmps124
  go_wp2
  go_ret
  exact ⟨rfl, rfl⟩
theorem hash2_any (h : BitVec 64) (w : World) :
    Calls Tryz.prog 133 #[U h] w fun e w' => e = .returned (Y (hash2 h)) ∧ w = w' := by
  go_enter Tryz.func133, Tryz.ntmps133
  go_wp2
  go_ret
  exact ⟨rfl, rfl⟩
end Go.Proofs.Hc
