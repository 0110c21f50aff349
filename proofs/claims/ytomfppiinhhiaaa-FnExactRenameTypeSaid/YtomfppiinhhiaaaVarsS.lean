/- VarsOf and IsGround of the reference. Conditions: the text is at most 2^31 bytes long. -/
import Derived.Test.YtomfppiinhhiaaaVar
set_option linter.unusedVariables false
set_option linter.unusedSimpArgs false
set_option maxRecDepth 100000
namespace Go.Proofs.Ytomfppiinhhiaaa
open Go.RowKit Ty

/-- the variables in their order -/
def vlist : List UInt8 := [88, 89, 90, 120, 121, 122]
/-- what VarsOf returns -/
def varsL (l : List UInt8) : List UInt8 := vlist.filter (fun v => decide (0 < countI l [v]))
theorem varsL_len (l : List UInt8) : (varsL l).length ≤ 6 := List.length_filter_le _ vlist
theorem filter_take_succ {α : Type} (p : α → Bool) (xs : List α) (k : Nat) (h : k < xs.length) : (xs.take (k + 1)).filter p = (xs.take k).filter p ++ if p xs[k] then [xs[k]] else [] := by
  rw [List.take_succ_eq_append_getElem h, List.filter_append]
  by_cases e : p xs[k] <;> simp [e]
theorem app_lists (x : List UInt8) (c : UInt8) : ({ data := x.toArray } : ByteArray) ++ { data := #[c] } = ⟨(x ++ [c]).toArray⟩ := ByteArray.mk_append_mk x [c]

end Go.Proofs.Ytomfppiinhhiaaa
