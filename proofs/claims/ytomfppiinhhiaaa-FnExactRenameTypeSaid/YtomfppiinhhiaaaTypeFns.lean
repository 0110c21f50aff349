/- HeadOf, DepthOf and SizeOf of the program and of the reference. Conditions: the text is at most 2^31 bytes long. -/
import Derived.Test.YtomfppiinhhiaaaImplT
import Derived.Test.YtomfppiinhhiaaaSizes
import Derived.Test.YtomfppiinhhiaaaDepthI
set_option linter.unusedVariables false
set_option linter.unusedSimpArgs false
set_option maxRecDepth 100000
namespace Go.Proofs.Ytomfppiinhhiaaa
open Go.RowKit Ty
attribute [local go_sem] take1

def headL (l : List UInt8) : List UInt8 := match ty l with | some t => [t.head] | none => []
def depthI (l : List UInt8) : Int := match ty l with | some t => t.depth | none => -1
def sizeI (l : List UInt8) : Int := match ty l with | some t => t.size | none => -1
theorem headL_len (l : List UInt8) : (headL l).length ≤ 1 := by unfold headL; split <;> simp

end Go.Proofs.Ytomfppiinhhiaaa
