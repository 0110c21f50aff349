/- More tools for a region that draws its order: two operations that may come up, where memory is held; the end. Conditions: none. -/
import Derived.Test.YtbdnhcfebgkpdaaDoorReg
set_option linter.unusedVariables false
set_option linter.unusedSimpArgs false
set_option maxRecDepth 100000
namespace Go.Proofs.YtbdnhcfebgkpdaaDoor
open Go.RowKit
section
variable {P : Program} {md : Region.Mode} {ops : Array Oper} {Q : Exit → Act → World → Prop} {S : World → Prop} {m : Nat}
/-- two operations may come up -/
theorem wpAnyT_two {n : Nat} {listed : Array Bool} {a : Act} {w : World} (i j : Nat) {o p : Oper} (ho : ops[i]? = some o) (hp : ops[j]? = some p) (hr : Region.ready md ops listed = [i, j])
    (h : ∀ K : Act → World → Prop, (∀ a w, (i < m → S w) → wpAnyT P md ops Q S m n (listed.setIfInBounds i true) a w → K a w) → if Region.wanted o (yielded ops a.tmps) = true then Oper.wp P o a w K Q else K (a.put o.dst undef) w)
    (h2 : ∀ K : Act → World → Prop, (∀ a w, (j < m → S w) → wpAnyT P md ops Q S m n (listed.setIfInBounds j true) a w → K a w) → if Region.wanted p (yielded ops a.tmps) = true then Oper.wp P p a w K Q else K (a.put p.dst undef) w) : wpAnyT P md ops Q S m (n + 1) listed a w := by
  refine ⟨fun h0 => by rw [h0] at hr; simp at hr, ?_⟩
  rw [hr]
  intro k hk
  simp at hk
  rcases hk with rfl | rfl
  · exact wpOp_step ho fun K hK => h K fun a w h1 h2 => hK a w ⟨h1, h2⟩
  · exact wpOp_step hp fun K hK => h2 K fun a w h1 h2 => hK a w ⟨h1, h2⟩
/-- three operations may come up -/
theorem wpAnyT_three {n : Nat} {listed : Array Bool} {a : Act} {w : World} (i j k : Nat) {o p q : Oper} (ho : ops[i]? = some o) (hp : ops[j]? = some p) (hq : ops[k]? = some q) (hr : Region.ready md ops listed = [i, j, k])
    (h : ∀ K : Act → World → Prop, (∀ a w, (i < m → S w) → wpAnyT P md ops Q S m n (listed.setIfInBounds i true) a w → K a w) → if Region.wanted o (yielded ops a.tmps) = true then Oper.wp P o a w K Q else K (a.put o.dst undef) w)
    (h2 : ∀ K : Act → World → Prop, (∀ a w, (j < m → S w) → wpAnyT P md ops Q S m n (listed.setIfInBounds j true) a w → K a w) → if Region.wanted p (yielded ops a.tmps) = true then Oper.wp P p a w K Q else K (a.put p.dst undef) w)
    (h3 : ∀ K : Act → World → Prop, (∀ a w, (k < m → S w) → wpAnyT P md ops Q S m n (listed.setIfInBounds k true) a w → K a w) → if Region.wanted q (yielded ops a.tmps) = true then Oper.wp P q a w K Q else K (a.put q.dst undef) w) : wpAnyT P md ops Q S m (n + 1) listed a w := by
  refine ⟨fun h0 => by rw [h0] at hr; simp at hr, ?_⟩
  rw [hr]
  intro x hx
  simp at hx
  rcases hx with rfl | rfl | rfl
  · exact wpOp_step ho fun K hK => h K fun a w h1 h2 => hK a w ⟨h1, h2⟩
  · exact wpOp_step hp fun K hK => h2 K fun a w h1 h2 => hK a w ⟨h1, h2⟩
  · exact wpOp_step hq fun K hK => h3 K fun a w h1 h2 => hK a w ⟨h1, h2⟩
theorem wpAnyT_end {listed : Array Bool} {a : Act} {w : World} (hr : Region.ready md ops listed = []) (h : Q .normal a w) : wpAnyT P md ops Q S m 0 listed a w := ⟨hr, h⟩
end
theorem keepsP_undrew {P : Nat → Prop} {w w' : World} (h : w.drew.grownBy w' none) : w.grownBy w' none := ⟨h.os, h.tape, h.output, h.size, h.block⟩
end Go.Proofs.YtbdnhcfebgkpdaaDoor
