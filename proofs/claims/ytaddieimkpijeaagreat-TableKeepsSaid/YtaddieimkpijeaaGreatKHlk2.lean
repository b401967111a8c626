/- Law 17, TableKeeps: whatever the table and the pairs. -/
import Derived.Test.YtaddieimkpijeaaGreatKHlk
set_option linter.unusedSimpArgs false
set_option linter.unusedVariables false
namespace Go.Proofs.Hc
open Go.RowKit
theorem keepsLaw (t : Tab) (s : BitVec 64) (la : Option Addr) (ll lc : Nat) (ps : Nat → BitVec 64 × BitVec 64) (w : World) (hll : ll ≤ 9223372036854775807) (hk : PairsIn w la ll ps) :
    Calls Tryz.prog 8 #[U s, .agg (tcells t), .slice la ll lc] w fun e w' => e = .returned (.bool true) ∧ Ch [] w w' := by
  cases hm : mayT t s with
  | false => exact keeps_bad t s la ll lc w hm
  | true => exact keeps_ok t s la ll lc ps w ((may_iff t s).1 hm) hll hk
end Go.Proofs.Hc
