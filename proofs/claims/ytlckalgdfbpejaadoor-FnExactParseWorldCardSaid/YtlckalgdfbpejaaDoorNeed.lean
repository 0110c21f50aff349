/- The laws' size of a need, its copy, and FormatNeed of both sides. Conditions: those typed. -/
import Derived.Test.YtlckalgdfbpejaaDoorRows
import Derived.WalkKit
import Derived.ProofKit
import Derived.Test.YtlckalgdfbpejaaDoorReg
import Derived.Test.YtlckalgdfbpejaaDoorStr
set_option linter.unusedVariables false
set_option linter.unusedSimpArgs false
set_option maxRecDepth 100000
namespace Go.Proofs.YtlckalgdfbpejaaDoor
open Go.RowKit

def needText (a b : ByteArray) : ByteArray := a ++ ⟨#[32]⟩ ++ b
theorem FormatNeed_impl (a b : ByteArray) (w : World) (h : a.size + b.size ≤ 2147483648) :
    Calls Tryd.prog 97 #[.agg #[.string a, .string b]] w fun e w' => e = .returned (.string (needText a b)) ∧ Below w.heap.size w w' := by
  go_enter Tryd.func97, Tryd.ntmps97
  go_wp2
  go_ret
  exact ⟨rfl, (Below.refl _ _).alloc (Nat.le_refl _) _⟩

end Go.Proofs.YtlckalgdfbpejaaDoor
