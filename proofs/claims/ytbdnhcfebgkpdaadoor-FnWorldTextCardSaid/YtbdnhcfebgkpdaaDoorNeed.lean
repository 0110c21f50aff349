/- The laws' size of a need, its copy, and FormatNeed of both sides. Conditions: those typed. -/
import Derived.Test.YtbdnhcfebgkpdaaDoorRows
import Derived.WalkKit
import Derived.ProofKit
import Derived.Test.YtbdnhcfebgkpdaaDoorReg
import Derived.Test.YtbdnhcfebgkpdaaDoorStr
set_option linter.unusedVariables false
set_option linter.unusedSimpArgs false
set_option maxRecDepth 100000
namespace Go.Proofs.YtbdnhcfebgkpdaaDoor
open Go.RowKit

def needText (a b : ByteArray) : ByteArray := a ++ ⟨#[32]⟩ ++ b
theorem FormatNeed_spec (a b : ByteArray) (w : World) (h : a.size + b.size ≤ 2147483648) :
    Calls Tryd.prog 16 #[.agg #[.string a, .string b]] w fun e w' => e = .returned (.string (needText a b)) ∧ Below w.heap.size w w' := by
  go_enter Tryd.func16, Tryd.ntmps16
  go_wp2
  go_ret
  exact ⟨rfl, (Below.refl _ _).alloc (Nat.le_refl _) _⟩
theorem FormatNeed_impl (a b : ByteArray) (w : World) (h : a.size + b.size ≤ 2147483648) :
    Calls Tryd.prog 15 #[.agg #[.string a, .string b]] w fun e w' => e = .returned (.string (needText a b)) ∧ Below w.heap.size w w' := by
  go_enter Tryd.func15, Tryd.ntmps15
  go_wp2
  go_ret
  exact ⟨rfl, (Below.refl _ _).alloc (Nat.le_refl _) _⟩

end Go.Proofs.YtbdnhcfebgkpdaaDoor
