import Derived.Test.YtcikopeddljgkaaDoorBo
import Derived.Lib.Tables
/- slices.Sort of one word. -/
namespace Go.Proofs.Hc
open Go.RowKit
set_option linter.unusedVariables false
set_option maxRecDepth 100000 in
theorem len64_one (w : World) : Calls Tryd.prog 74 #[.int .u64 1] w fun e w' => e = .returned (I 1) ∧ w = w' := by
  have h1 : Lib.len8 1 = 1 := by decide +kernel
  go_enter Tryd.func74, Tryd.ntmps74
  go_wp2
  go_ret
  exact ⟨rfl, rfl⟩
attribute [local go_sem] wrap_u64 wrap_u8 bits_xor64 bits_and64 bits_or64 bits_not64 bits_xor8 bits_and8 bits_or8 signed64 signed8 ofInt_N BitVec.ofInt_add BitVec.ofInt_mul ofInt_sub' ofInt8_N64 ofInt64_N8 wide8 eqN neN shr_pow shr1 shr7 shr56
attribute [local go_sem high] bits_com64 shl_wrap
attribute [local go_sem] nn2 nm2 nn3 nm3 nn4 nm4 nn5 nm5 nn6 nm6 nn7 nm7 nn8 nm8
attribute [local go_sem] Oper.semAt_some make_func1 make_funcB
theorem len_one (w : World) : Calls Tryd.prog 54 #[.int .u64 1] w fun e w' => e = .returned (I 1) ∧ w = w' := by
  go_enter Tryd.func54, Tryd.ntmps54
  go_wp2_with (go_at_call 74; refine (len64_one _).mono ?_; rintro e w' ⟨rfl, rfl⟩)
  go_ret
  exact ⟨rfl, rfl⟩
theorem insert_one (a : Option Addr) (c : Nat) (w : World) : Calls Tryd.prog 64 #[.slice a 1 c, I 0, I 1] w fun e w' => e = .returned (.tuple #[]) ∧ w = w' := by
  go_enter Tryd.func64, Tryd.ntmps64
  go_wp2
  refine wp_loop_rounds 1 ?_
  rw [rounds_succ]
  go_wp2
  go_end0
  exact ⟨rfl, rfl⟩
theorem pdq_one (a : Option Addr) (c : Nat) (w : World) : Calls Tryd.prog 53 #[.slice a 1 c, I 0, I 1, I 1] w fun e w' => e = .returned (.tuple #[]) ∧ w = w' := by
  go_enter Tryd.func53, Tryd.ntmps53
  go_wp2
  refine wp_loop_rounds 1 ?_
  rw [rounds_succ]
  go_wp2_with (go_at_call 64; refine (insert_one _ _ _).mono ?_; rintro e w' ⟨rfl, rfl⟩)
  exact bodyPost_ret (results_none rfl _ _ _) rfl ⟨rfl, rfl⟩
theorem sort_one (k : BitVec 64) : SortC [k] [k] := by
  intro v w base hown
  obtain ⟨a, c, rfl⟩ := own_val hown
  have HO := Lib.hid hown
  clear hown
  show Calls Tryd.prog 46 #[.slice a 1 c] w _
  go_enter Tryd.func46, Tryd.ntmps46
  go_wp2_with (first
    | (go_at_call 54; refine (len_one _).mono ?_; rintro e w' ⟨rfl, rfl⟩)
    | (go_at_call 53; refine (pdq_one _ _ _).mono ?_; rintro e w' ⟨rfl, rfl⟩))
  go_end0
  exact ⟨rfl, HO.out, ⟨rfl, rfl, rfl, Nat.le_refl _, fun _ _ _ => rfl⟩⟩
end Go.Proofs.Hc
