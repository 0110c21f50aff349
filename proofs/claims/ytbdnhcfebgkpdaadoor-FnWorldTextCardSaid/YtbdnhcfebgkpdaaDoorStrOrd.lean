/- The order of two texts of one byte. Conditions: none. -/
import Derived.Test.YtbdnhcfebgkpdaaDoorRows
import Derived.WalkKit
set_option linter.unusedVariables false
set_option linter.unusedSimpArgs false
namespace Go.Proofs.YtbdnhcfebgkpdaaDoor
open Go.RowKit

theorem less1 (c d : UInt8) : Op.bytesLess [c] [d] = decide (c.toNat < d.toNat) := by
  by_cases h : c = d
  · subst h; simp [Op.bytesLess]
  · have h' : (c == d) = false := by simpa using h
    simp [Op.bytesLess, h', UInt8.lt_iff_toNat_lt]
theorem geq1 (P : Program) (t : TypeId) (c d : UInt8) (w : World) : (binOp .geq t (.string ⟨#[c]⟩) (.string ⟨#[d]⟩)).run P w = .ok (.bool (decide (d.toNat ≤ c.toNat))) w := by
  have h := less1 c d
  unfold binOp Op.stringOp
  simp
  rw [h]
  by_cases h : d.toNat ≤ c.toNat
  · simp [h, show ¬ c.toNat < d.toNat by omega]
  · simp [h, show c.toNat < d.toNat by omega]
theorem leq1 (P : Program) (t : TypeId) (c d : UInt8) (w : World) : (binOp .leq t (.string ⟨#[c]⟩) (.string ⟨#[d]⟩)).run P w = .ok (.bool (decide (c.toNat ≤ d.toNat))) w := by
  have h := less1 c d
  unfold binOp Op.stringOp
  simp
  rw [h]
  by_cases e : c = d
  · subst e; simp
  · have e' : ¬ c.toNat = d.toNat := fun h => e (UInt8.toNat_inj.1 h)
    by_cases h : c.toNat ≤ d.toNat
    · simp [e, h, show c.toNat < d.toNat by omega]
    · simp [e, h, show ¬ c.toNat < d.toNat by omega]
end Go.Proofs.YtbdnhcfebgkpdaaDoor
