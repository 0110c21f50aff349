/- BindingsValid of both sides. Conditions: those typed.  -/
import Derived.Test.YtlhildfiddphcaaBindS
import Derived.Test.YtlhildfiddphcaaVar
import Derived.Test.YtlhildfiddphcaaImplT
import Derived.Test.YtlhildfiddphcaaL1Read
import Derived.Test.YtlhildfiddphcaaStrOrd
import Derived.Deep.QuietTactic
import Derived.BigQuiet
set_option linter.unusedVariables false
set_option linter.unusedSimpArgs false
set_option maxRecDepth 100000
namespace Go.Proofs.Ytlhildfiddphcaa
open Go.RowKit Ty

/-- the binding with number i is as it must be -/
def good (xs : List BB) (i : Nat) : Prop := ∃ (c : UInt8) (y : ByteArray), xs[i]? = some (⟨#[c]⟩, y) ∧ isV c = true ∧ (ty y.data.toList).isSome = true ∧ ∀ j, i = j + 1 → ∃ (d : UInt8) (z : ByteArray), xs[j]? = some (⟨#[d]⟩, z) ∧ d.toNat < c.toNat
open Classical in
/-- what BindingsValid returns -/
noncomputable def bvB (xs : List BB) : Bool := decide (∀ i, i < xs.length → good xs i)
open Classical in
theorem bvB_no {xs : List BB} {i : Nat} (h : i < xs.length) (hg : ¬ good xs i) : bvB xs = false := by
  unfold bvB; exact decide_eq_false fun h2 => hg (h2 i h)
open Classical in
theorem bvB_yes {xs : List BB} (h : ∀ i, i < xs.length → good xs i) : bvB xs = true := by
  unfold bvB; exact decide_eq_true h

end Go.Proofs.Ytlhildfiddphcaa
