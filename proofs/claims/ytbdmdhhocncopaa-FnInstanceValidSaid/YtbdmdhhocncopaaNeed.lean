/- The laws' size of a need, its copy, and FormatNeed of both sides. Conditions: those typed. -/
import Derived.Test.YtbdmdhhocncopaaRows
import Derived.WalkKit
import Derived.ProofKit
import Derived.Test.YtbdmdhhocncopaaReg
import Derived.Test.YtbdmdhhocncopaaStr
set_option linter.unusedVariables false
set_option linter.unusedSimpArgs false
set_option maxRecDepth 100000
namespace Go.Proofs.Ytbdmdhhocncopaa
open Go.RowKit

def needText (a b : ByteArray) : ByteArray := a ++ ⟨#[32]⟩ ++ b
end Go.Proofs.Ytbdmdhhocncopaa
