/- Variables: isVar, l1Variable and CountVar of both sides. Conditions: the text is at most 2^31 bytes long. -/
import Derived.Test.YtomfppiinhhiaaaImplT
import Derived.Test.YtomfppiinhhiaaaL1Read
import Derived.Test.YtomfppiinhhiaaaDepthI
import Derived.Deep.QuietTactic
import Derived.BigQuiet
set_option linter.unusedVariables false
set_option linter.unusedSimpArgs false
set_option maxRecDepth 100000
namespace Go.Proofs.Ytomfppiinhhiaaa
open Go.RowKit Ty

/-- a letter that is a variable -/
def isV (c : UInt8) : Bool := ([120, 121, 122, 88, 89, 90] : List UInt8).contains c
/-- a text that is a variable -/
def isVarL (v : List UInt8) : Bool := match v with | [c] => isV c | _ => false

theorem isV_index (c : UInt8) : isV c = decide (6 ≤ Lib.indexByte [105, 98, 117, 108, 109, 112, 120, 121, 122, 88, 89, 90] c) := by
  by_cases h : c ∈ ([105, 98, 117, 108, 109, 112, 120, 121, 122, 88, 89, 90] : List UInt8)
  · simp at h
    rcases h with rfl | rfl | rfl | rfl | rfl | rfl | rfl | rfl | rfl | rfl | rfl | rfl <;> decide
  · have e1 : isV c = false := by
      simp only [List.mem_cons, not_or] at h
      simp [isV, h]
    rw [e1, indexByte_neg]
    · decide
    · intro j hj e
      exact h (List.mem_of_getElem? e)

/-- what CountVar returns -/
def countI (l v : List UInt8) : Int := if (ty l).isSome then (match v with | [c] => if isV c then (l.count c : Int) else -1 | _ => -1) else -1


theorem count_take_succ (l : List UInt8) (c : UInt8) (k : Nat) (h : k < l.length) : (l.take (k + 1)).count c = (l.take k).count c + if l[k] = c then 1 else 0 := by
  rw [List.take_succ_eq_append_getElem h, List.count_append]
  by_cases e : l[k] = c <;> simp [e]

end Go.Proofs.Ytomfppiinhhiaaa
