/- FnExactParseNeed answers true for every input: the program's ParseNeed returns what the reference's returns. Conditions: none. -/
import Derived.Test.YtidcfefgpfobaaaNeedP
import Derived.Test.YtidcfefgpfobaaaRows
import Derived.Test.YtidcfefgpfobaaaFacts
import Derived.WalkKit
import Derived.ProofKit
import Derived.OpenShut
import Derived.ShutString
import Derived.ChangeOld
import Derived.Below
import Derived.Carry
import Derived.Lib.SmallJoins
set_option linter.unusedVariables false
set_option linter.unusedSimpArgs false
set_option maxRecDepth 100000
namespace Go.Proofs.Ytidcfefgpfobaaa.fnExactParseNeed
open Go.ChangeShapes Go.WideShapes Go.ChangeAt Go.RowKit Go.Joins Ty
open Go.ChangeMaps (open_string shut_string)

theorem own : ownKnob Try.prog.godebug = none := by kernel_rfl
theorem laidOut : laidOutB Try.prog = true := by kernel_rfl
theorem bytes (s : ByteArray) : ∃ l : List UInt8, s = ⟨l.toArray⟩ ∧ s.size = l.length := ⟨s.data.toList, rfl, by simp⟩

theorem walk (a0 : ByteArray) (w0 : a0.size ≤ maxLen) (w : World) :
    Calls Try.prog 3 #[.string a0] w fun e w' => e = .returned (.bool true) ∧ Below w.heap.size w w' := by
  obtain ⟨l, rfl, hz⟩ := bytes a0
  by_cases hl : l.length ≤ 1048576
  rotate_left
  · unfold maxLen at w0
    go_enter Try.func3, Try.ntmps3
    go_wp2_with fail
    go_ret
    exact ⟨rfl, Below.refl _ _⟩
  · obtain ⟨A, B, o, hs, hi⟩ : ∃ (A B : ByteArray) (o : Bool), (∀ w, Calls Try.prog 15 #[.string ⟨l.toArray⟩] w fun e w' => e = .returned (.tuple #[.agg #[.string A, .string B], .bool o]) ∧ Below w.heap.size w w') ∧ (∀ w, Calls Try.prog 16 #[.string ⟨l.toArray⟩] w fun e w' => e = .returned (.tuple #[.agg #[.string A, .string B], .bool o]) ∧ Below w.heap.size w w') := by
      cases h : need l with
      | none => exact ⟨_, _, _, fun w => (ParseNeed_spec l w (by omega)).mono (by rintro e w' ⟨rfl, hb⟩; rw [h]; exact ⟨rfl, hb⟩), fun w => (ParseNeed_impl l w (by omega)).mono (by rintro e w' ⟨rfl, hb⟩; rw [h]; exact ⟨rfl, hb⟩)⟩
      | some p => obtain ⟨c, t⟩ := p; exact ⟨_, _, _, fun w => (ParseNeed_spec l w (by omega)).mono (by rintro e w' ⟨rfl, hb⟩; rw [h]; exact ⟨rfl, hb⟩), fun w => (ParseNeed_impl l w (by omega)).mono (by rintro e w' ⟨rfl, hb⟩; rw [h]; exact ⟨rfl, hb⟩)⟩
    cases o with
    | false =>
      go_enter Try.func3, Try.ntmps3
      go_wp2_with fail
      refine (hs _).mono ?_
      rintro e w1 ⟨rfl, hb⟩
      have HB1 := hid hb
      clear hb
      go_wp2_with fail
      refine (hi _).mono ?_
      rintro e w2 ⟨rfl, hb⟩
      have hx := below_heap hb (by simp) (heap_alloc_new _ _)
      have k0 : w2.cell? ⟨w1.heap.size, 0, none⟩ = some (.string A) := heap_cell hx 0
      have k1 : w2.cell? ⟨w1.heap.size, 1, none⟩ = some (.string B) := heap_cell hx 1
      have hz1 := HB1.out.size
      have hz2 := hb.size
      simp only [World.size_alloc] at hz2
      have hlt : w1.heap.size < w2.heap.size := by omega
      have HB2 : Hid (Below w.heap.size w w2) := (HB1.out.alloc hz1 _).trans (hb.mono (by simp; omega))
      clear hb hx
      go_wp2_with (first
        | (go_at_call 17; refine (eqNeed_same A B _).mono ?_; rintro e w3 ⟨rfl, hb⟩; have HB3 : Hid (Below w.heap.size w w3) := (HB2.out.alloc (by omega) _).trans (hb.mono (by simp; omega)); clear hb))
      go_ret
      exact ⟨rfl, HB3.out⟩
    | true =>
      go_enter Try.func3, Try.ntmps3
      go_wp2_with fail
      refine (hs _).mono ?_
      rintro e w1 ⟨rfl, hb⟩
      have HB1 := hid hb
      clear hb
      go_wp2_with fail
      refine (hi _).mono ?_
      rintro e w2 ⟨rfl, hb⟩
      have hx := below_heap hb (by simp) (heap_alloc_new _ _)
      have k0 : w2.cell? ⟨w1.heap.size, 0, none⟩ = some (.string A) := heap_cell hx 0
      have k1 : w2.cell? ⟨w1.heap.size, 1, none⟩ = some (.string B) := heap_cell hx 1
      have hz1 := HB1.out.size
      have hz2 := hb.size
      simp only [World.size_alloc] at hz2
      have hlt : w1.heap.size < w2.heap.size := by omega
      have HB2 : Hid (Below w.heap.size w w2) := (HB1.out.alloc hz1 _).trans (hb.mono (by simp; omega))
      clear hb hx
      go_wp2_with (first
        | (go_at_call 17; refine (eqNeed_same A B _).mono ?_; rintro e w3 ⟨rfl, hb⟩; have HB3 : Hid (Below w.heap.size w w3) := (HB2.out.alloc (by omega) _).trans (hb.mono (by simp; omega)); clear hb))
      go_ret
      exact ⟨rfl, HB3.out⟩

theorem lifted (os : Os) (started : os.Started) (H : Type) (enc : TypeId × Value → H) :
    ReturnsInHanded {} Try.checked os 3 .any (Rows.fnExactParseNeedSpec.pre6 enc Try.prog Try.f3 Rows.fnExactParseNeedRow.domain false) (Rows.fnExactParseNeedSpec.post enc Try.prog Try.f3 false true false false) := by
  refine returnsInHanded_of_change (C := Try.checked) own started (by kernel_rfl) Try.func3
    (ChangeSpec.witness6 (enc := enc) (C := Try.checked) false ⟨#[], #[.string ByteArray.empty], []⟩ 8 (by kernel_rfl) (by kernel_rfl) (by kernel_rfl) (by kernel_rfl)) ?_
  intro W base args ds gs before hval0 hW hcnd _
  have hval : ∀ (j : Nat) t v, Try.f3.params[j]? = some t → args[j]? = some v → Value.okWide Try.prog W .any base t v := hval0
  have hW' := hW
  obtain ⟨p, q, hA0, hV, rfl, hfz, hnd⟩ := hW
  have hA : DataW.TrodAll enc Try.prog W 0 (fun _ => true) true Try.f3.params.toList args.toList ds p := hA0
  rw [Try.params3] at hA hval
  have hL := DataW.TrodAll.lt hA
  obtain ⟨v0, vs0, d0, ds0, p0, q0, hargs, rfl, rfl, h0, r0⟩ := trodAll_cons hA
  obtain ⟨rfl, rfl, rfl⟩ := trodAll_nil r0
  obtain rfl : args = #[v0] := by cases args; simp_all
  obtain ⟨rfl, rfl⟩ := trodVars_none hV
  have k0 := h0
  have l0 : ∀ x ∈ p0, x.block < W.heap.size := fun x hx => hL x (by simp [hx])
  obtain ⟨a0, rfl, -, -, w0⟩ := open_string Try.underlying9 (hval 0 9 v0 rfl rfl) h0
  clear hA0 hval0
  simp only [List.append_nil] at hW'
  refine (walk a0 w0 W).mono fun e W' ⟨he, bel⟩ => ?_
  subst he
  exact ⟨_, rfl, _, _, _, [], _, [], hW', (trodAll_cons_mk (shut_bool Try.underlying4 _) trodAll_mk0), (trodAll_cons_mk (Below.trod laidOut (by kernel_rfl) (of_decide_eq_true (by kernel_rfl)) k0 bel l0) trodAll_mk0), rfl, bel.frame _, fun h => by cases h⟩
theorem e1 : Rows.fnExactParseNeedRow.lifted = Rows.fnExactParseNeedRow.lifted := rfl
theorem e2 : Rows.fnExactParseNeedRow.make = Rows.fnExactParseNeedRow.make := rfl
theorem e3 : Rows.fnExactParseNeedRow.plainKeys = Rows.fnExactParseNeedRow.plainKeys := rfl
theorem facts : joinedFacts Try.pinned.checked.prog 3 Try.f3 Rows.fnExactParseNeedSpec Rows.fnExactParseNeedRow = true := by
  refine Facts.joined e1 e2 e3 ?_ ?_ ?_ ?_ ?_ ?_ ?_ ?_ ?_ ?_ ?_ ?_ ?_ ?_ ?_ ?_ ?_ ?_ ?_ ?_ ?_ ?_ ?_
  all_goals as_aux_lemma => kernel_rfl
theorem over : Rows.fnExactParseNeedRow.holds Try.pinned (OpenSpec.ofChange Rows.fnExactParseNeedSpec) :=
  OpenClaim.holds_of_wide 3 Try.f3 rfl rfl rfl rfl rfl rfl rfl ⟨rfl, rfl, rfl, rfl, rfl⟩ rfl rfl rfl rfl rfl (by kernel_rfl) Try.func3 facts
    (of_decide_eq_true (by kernel_rfl)) (by unfold Func.isWrapper; first | (rw [if_pos (by decide +kernel)]; kernel_rfl) | (rw [if_neg (by decide +kernel)]; exact ⟨rfl, rfl⟩))
    (fun os started H enc _ => lifted os started H enc)
end Go.Proofs.Ytidcfefgpfobaaa.fnExactParseNeed
namespace Go.Proofs.Ytidcfefgpfobaaa
theorem fnExactParseNeed_holds : Rows.FnExactParseNeedSaid := fnExactParseNeed.over
end Go.Proofs.Ytidcfefgpfobaaa
