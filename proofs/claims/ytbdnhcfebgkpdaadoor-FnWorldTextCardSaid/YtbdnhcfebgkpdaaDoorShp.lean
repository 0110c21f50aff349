/- A lifted walk whose contract is handed the world's shape beside what the laid variables hold. Conditions: none. -/
import Derived.Test.YtbdnhcfebgkpdaaDoorRows
import Derived.Handed
import Derived.ChangeOld
import Derived.Shelf.Vars
namespace Go.Proofs.YtbdnhcfebgkpdaaDoor.Shp
open Go
variable {H : Type} {enc : TypeId × Value → H}
theorem lifted_and_shape {a : Assume} {C : Checked} {os : Os} {f : FuncId} {fn : Func} {s : ChangeSpec} {conds : List PathCond} {apart fresh handsOn again : Bool} {X : World → Array Value → Prop}
    (hX : ∀ (w w' : World) (args : Array Value), w.heap = w'.heap → X w args → X w' args)
    (own : ownKnob C.prog.godebug = none) (started : os.Started) (noInit : C.prog.inits.idxOf? f = none) (hfn : C.prog.funcs[f]? = some fn)
    (witness : ∃ (w : World) (tape : Tape) (i : Input), w.os = os ∧ (w.forCall tape i).Shaped C.prog ∧ i.vars = [] ∧ Input.okWide C.prog (w.forCall tape i) .any w.heap.size f i ∧
      ((s.pre enc C.prog fn conds apart (w.forCall tape i).memory i.args ∧ X (w.forCall tape i).memory i.args) ∧ sizedMet enc C.prog fn (OpenSpec.ofChange s) apart (w.forCall tape i).memory i.args) ∧ a.holds C.prog (lone (Frame.enter C.prog f i.args .normal) [] (w.forCall tape i)))
    (contract : ∀ (W : World) (base : Nat) (args : Array Value) (ds gs : List (DataW H)) (before : List MemPlace), W.ShapedOpen C.prog → X W args →
      (∀ (j : Nat) t v, fn.params[j]? = some t → args[j]? = some v → Value.okWide C.prog W .any base t v) →
      DataW.Whole enc C.prog fn.params.toList s.vars apart W args.toList ds gs before →
      conds.all (PathCond.test C.prog ⟨fn.params.toList, ds, s.plain.varTypes C.prog, gs⟩) = true →
      a.holds C.prog (lone (Frame.enter C.prog f args .normal) [] W) →
      Calls C.prog f args W fun e W' => ∃ v, e = .returned v ∧ s.post enc C.prog fn apart fresh handsOn again W args v W') :
    ReturnsInHanded a C os f .any (fun w args => (s.pre enc C.prog fn conds apart w args ∧ X w args) ∧ sizedMet enc C.prog fn (OpenSpec.ofChange s) apart w args) (s.post enc C.prog fn apart fresh handsOn again) := by
  refine returnsInHanded_of_calls own started noInit witness fun w tape i _ shape _ typed before met => ?_
  obtain ⟨_, _, _, fn', found, _, _, _, _, values⟩ := typed
  obtain rfl : fn' = fn := Option.some.inj (found.symm.trans hfn)
  obtain ⟨⟨⟨ds, gs, places, whole, conds'⟩, x⟩, -⟩ := before
  have whole' := DataW.Whole.of_heap (w' := w.forCall tape i) (by rfl) whole
  refine (contract _ w.heap.size i.args ds gs places shape (hX _ _ _ (by rfl) x) values whole' conds' met).mono fun e W' h => ?_
  obtain ⟨v, rfl, p⟩ := h
  exact ChangeSpec.post_blind p
end Go.Proofs.YtbdnhcfebgkpdaaDoor.Shp
