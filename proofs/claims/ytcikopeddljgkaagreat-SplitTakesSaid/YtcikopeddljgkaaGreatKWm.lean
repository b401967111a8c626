/- Law 22: SplitTakes. -/
import Derived.Test.YtcikopeddljgkaaGreatKWg
import Derived.Test.YtcikopeddljgkaaGreatKWh
import Derived.Test.YtcikopeddljgkaaGreatKWi
import Derived.Test.YtcikopeddljgkaaGreatKWj
import Derived.Test.YtcikopeddljgkaaGreatKWk
set_option linter.unusedSimpArgs false
set_option linter.unusedVariables false
namespace Go.Proofs.Hc
open Go.RowKit
theorem takesLaw22 (p : PartT) (a1 : Option Addr) (n1 c1 : Nat) (ps : Nat → BitVec 64 × Bool) (a : Option Addr) (n0 c0 : Nat) (ks : Nat → BitVec 64) (w : World) (hn1 : n1 ≤ 9223372036854775807) (hsn : SeenIn w a1 n1 ps) (hn : n0 ≤ c0) (hc : c0 ≤ 9223372036854775807) (ha : a = none → n0 = 0 ∧ c0 = 0) (hk : KeysIn w a n0 ks) :
    Calls Tryz.prog 8 #[.agg (partC p), .slice a1 n1 c1, .slice a n0 c0] w fun e w' => e = .returned (.bool true) ∧ Ch [] w w' := by
  cases hr : rightS p with
  | false =>
    rcases Nat.eq_zero_or_pos (min n0 180) with h0 | h1
    · exact takes22_R0 p a1 n1 c1 ps a n0 c0 ks w hn1 hsn hn hc ha hk hr h0
    · exact takes22_R1 p a1 n1 c1 ps a n0 c0 ks w hn1 hsn hn hc ha hk hr _ rfl h1
  | true =>
    by_cases h6 : p.ph ≤ 6
    · rcases Nat.eq_zero_or_pos (min n0 180) with h0 | h1
      · exact takes22_H0 p a1 n1 c1 ps a n0 c0 ks w hn1 hsn hn hc ha hk hr h6 h0
      · have hw := doP_where22 (l := frontW ks (min n0 180)) (a := accS p) (whereS_in ((rightS_iff p).1 hr) h6).1
        rw [frontW_len] at hw
        cases hd : doP (frontW ks (min n0 180)) (accS p) with
        | none => exact takes22_Hout p a1 n1 c1 ps a n0 c0 ks w hn1 hsn hn hc ha hk hr h6 _ rfl h1 hd (hw.1 hd)
        | some y => exact takes22_Hin p a1 n1 c1 ps a n0 c0 ks w hn1 hsn hn hc ha hk hr h6 _ rfl h1 y hd (hw.2 y hd)
    · rcases Nat.eq_zero_or_pos (min n0 180) with h0 | h1
      · exact takes22_O0 p a1 n1 c1 ps a n0 c0 ks w hn1 hsn hn hc ha hk hr h6 h0
      · exact takes22_O1 p a1 n1 c1 ps a n0 c0 ks w hn1 hsn hn hc ha hk hr h6 _ rfl h1
end Go.Proofs.Hc
