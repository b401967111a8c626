/- Law 20: RehashTakes. -/
import Derived.Test.YtcikopeddljgkaaGreatKTm
import Derived.Test.YtcikopeddljgkaaGreatKTn
import Derived.Test.YtcikopeddljgkaaGreatKTo
import Derived.Test.YtcikopeddljgkaaGreatKTp
import Derived.Test.YtcikopeddljgkaaGreatKTq
set_option linter.unusedSimpArgs false
set_option linter.unusedVariables false
namespace Go.Proofs.Hc
open Go.RowKit
theorem doP_where {l : List (BitVec 64)} {a : AccT} (h0 : 0 ≤ a.at_) : (doP l a = none → (l.length : Int) ≤ a.at_) ∧ (∀ y, doP l a = some y → ¬ (l.length : Int) ≤ a.at_) := by
  unfold doP
  constructor
  · intro h
    split at h
    · rename_i hn
      have := List.getElem?_eq_none_iff.1 hn
      omega
    · cases h
  · intro y h
    split at h
    · cases h
    · rename_i hn
      have := (List.getElem?_eq_some_iff.1 hn).1
      omega
theorem takesLaw20 (p : LayT) (a1 : Option Addr) (n1 c1 : Nat) (ps : Nat → BitVec 64 × Bool) (a : Option Addr) (n0 c0 : Nat) (ks : Nat → BitVec 64) (w : World) (hn1 : n1 ≤ 9223372036854775807) (hsn : SeenIn w a1 n1 ps) (hn : n0 ≤ c0) (hc : c0 ≤ 9223372036854775807) (ha : a = none → n0 = 0 ∧ c0 = 0) (hk : KeysIn w a n0 ks) :
    Calls Tryz.prog 10 #[.agg (layC p), .slice a1 n1 c1, .slice a n0 c0] w fun e w' => e = .returned (.bool true) ∧ Ch [] w w' := by
  cases hr : rightL p with
  | false =>
    rcases Nat.eq_zero_or_pos (min n0 140) with h0 | h1
    · exact takes20_R0 p a1 n1 c1 ps a n0 c0 ks w hn1 hsn hn hc ha hk hr h0
    · exact takes20_R1 p a1 n1 c1 ps a n0 c0 ks w hn1 hsn hn hc ha hk hr _ rfl h1
  | true =>
    by_cases h4 : p.ph ≤ 4
    · obtain ⟨ac, hac⟩ := needL_yes hr h4
      rcases Nat.eq_zero_or_pos (min n0 140) with h0 | h1
      · exact takes20_H0 p a1 n1 c1 ps a n0 c0 ks w hn1 hsn hn hc ha hk hr ac hac h0
      · have hw := doP_where (l := frontW ks (min n0 140)) (needL_acc hac).2.1
        rw [frontW_len] at hw
        cases hd : doP (frontW ks (min n0 140)) ac with
        | none => exact takes20_Hout p a1 n1 c1 ps a n0 c0 ks w hn1 hsn hn hc ha hk hr ac hac _ rfl h1 hd (hw.1 hd)
        | some y => exact takes20_Hin p a1 n1 c1 ps a n0 c0 ks w hn1 hsn hn hc ha hk hr ac hac _ rfl h1 y hd (hw.2 y hd)
    · rcases Nat.eq_zero_or_pos (min n0 140) with h0 | h1
      · exact takes20_O0 p a1 n1 c1 ps a n0 c0 ks w hn1 hsn hn hc ha hk hr h4 h0
      · exact takes20_O1 p a1 n1 c1 ps a n0 c0 ks w hn1 hsn hn hc ha hk hr h4 _ rfl h1
end Go.Proofs.Hc
