/- FnExactBindingsValid answers true for every input: the program's BindingsValid returns what the reference's returns. Conditions: none. -/
import Derived.Test.YtidcfefgpfobaaaBindV
import Derived.Test.YtidcfefgpfobaaaRows
import Derived.Test.YtidcfefgpfobaaaFacts
import Derived.WalkKit
import Derived.ProofKit
import Derived.OpenShut
import Derived.ShutString
import Derived.ChangeOld
import Derived.Below
import Derived.Carry
import Derived.Lib.SmallJoins
set_option linter.unusedVariables false
set_option linter.unusedSimpArgs false
set_option maxRecDepth 100000
namespace Go.Proofs.Ytidcfefgpfobaaa.fnExactBindingsValid
open Go.ChangeShapes Go.WideShapes Go.ChangeAt Go.RowKit Go.Joins Ty
open Go.ChangeMaps (open_string shut_string)

theorem own : ownKnob Try.prog.godebug = none := by kernel_rfl
theorem laidOut : laidOutB Try.prog = true := by kernel_rfl
theorem bytes (s : ByteArray) : ∃ l : List UInt8, s = ⟨l.toArray⟩ ∧ s.size = l.length := ⟨s.data.toList, rfl, by simp⟩

theorem walk (w : World) (v0 : Value) (xs0 : List BB) (s0 : SP w v0 xs0) :
    Calls Try.prog 5 #[v0] w fun e w' => e = .returned (.bool true) ∧ Below w.heap.size w w' := by
  by_cases h : tot xs0 + xs0.length ≤ 1048576
  rotate_left
  · have hz : Hid (szP xs0 1048576 = -1) := by show _ = _; unfold szP; rw [if_neg (by omega)]
    go_enter Try.func5, Try.ntmps5
    go_wp2_with (go_at_call 20; refine (szBindingS_any v0 xs0 _ w (by omega) (by omega) s0).mono ?_; rintro e w1 ⟨rfl, hb⟩; rw [hz.out]; have HB := hid hb; clear hb)
    go_ret
    exact ⟨rfl, HB.out⟩
  · obtain ⟨m, hm, hz⟩ : ∃ m : Nat, m ≤ 1048576 ∧ Hid (szP xs0 1048576 = m) := ⟨1048576 - xs0.length - tot xs0, by omega, by show _ = _; unfold szP; rw [if_pos (by omega)]; omega⟩
    have hl0 : xs0.length ≤ 1048576 := by omega
    go_enter Try.func5, Try.ntmps5
    go_wp2_with fail
    refine (szBindingS_any v0 xs0 _ w (by omega) (by omega) s0).mono ?_
    rintro e w1 ⟨rfl, hb⟩
    have S1 := hid (s0.below hb)
    have B1 : Hid (Below w.heap.size w w1) := hid hb
    rw [hz.out]
    clear hb
    go_wp2_with fail
    refine (toBindingS_any v0 xs0 _ hl0 S1.out).mono ?_
    rintro e w2 ⟨g2, rfl, -, -, sp2, hb⟩
    have S2 := hid (S1.out.below hb)
    have B2 : Hid (Below w.heap.size w w2) := hid (B1.out.trans (hb.mono B1.out.size))
    have P2 := hid sp2
    clear sp2
    clear hb
    go_wp2_with fail
    refine (BindingsValid_spec _ xs0 _ h P2.out).mono ?_
    rintro e w3 ⟨rfl, hb⟩
    have S3 := hid (S2.out.below hb)
    have B3 : Hid (Below w.heap.size w w3) := hid (B2.out.trans (hb.mono B2.out.size))
    clear hb
    go_wp2_with fail
    refine (toBindingS_any v0 xs0 _ hl0 S3.out).mono ?_
    rintro e w4 ⟨g4, rfl, -, -, sp4, hb⟩
    have S4 := hid (S3.out.below hb)
    have B4 : Hid (Below w.heap.size w w4) := hid (B3.out.trans (hb.mono B3.out.size))
    have P4 := hid sp4
    clear sp4
    clear hb
    go_wp2_with fail
    refine (BindingsValid_impl _ xs0 _ h P4.out).mono ?_
    rintro e w5 ⟨rfl, hb⟩
    have S5 := hid (S4.out.below hb)
    have B5 : Hid (Below w.heap.size w w5) := hid (B4.out.trans (hb.mono B4.out.size))
    have P5 := hid (P4.out.below hb)
    clear hb
    go_wp2_with fail
    refine (toBindingS_any v0 xs0 _ hl0 S5.out).mono ?_
    rintro e w6 ⟨g6, rfl, -, -, sp6, hb⟩
    have S6 := hid (S5.out.below hb)
    have B6 : Hid (Below w.heap.size w w6) := hid (B5.out.trans (hb.mono B5.out.size))
    have P6 := hid sp6
    have Q6 := hid (P5.out.below hb)
    clear sp6
    clear hb
    go_wp2_with fail
    refine (eqBindingS_same _ _ xs0 _ Q6.out P6.out).mono ?_
    rintro e w7 ⟨rfl, hb⟩
    have S7 := hid (S6.out.below hb)
    have B7 : Hid (Below w.heap.size w w7) := hid (B6.out.trans (hb.mono B6.out.size))
    clear hb
    go_wp2
    go_ret
    exact ⟨rfl, B7.out⟩

theorem lifted (os : Os) (started : os.Started) (H : Type) (enc : TypeId × Value → H) :
    ReturnsInHanded {} Try.checked os 5 .any (Rows.fnExactBindingsValidSpec.pre6 enc Try.prog Try.f5 Rows.fnExactBindingsValidRow.domain false) (Rows.fnExactBindingsValidSpec.post enc Try.prog Try.f5 false true false false) := by
  refine returnsInHanded_of_change (C := Try.checked) own started (by kernel_rfl) Try.func5
    (ChangeSpec.witness6 (enc := enc) (C := Try.checked) false ⟨#[], #[.slice none 0 0], []⟩ 8 (by kernel_rfl) (by kernel_rfl) (by kernel_rfl) (by kernel_rfl)) ?_
  intro W base args ds gs before hval0 hW hcnd _
  have hval : ∀ (j : Nat) t v, Try.f5.params[j]? = some t → args[j]? = some v → Value.okWide Try.prog W .any base t v := hval0
  have hW' := hW
  obtain ⟨p, q, hA0, hV, rfl, hfz, hnd⟩ := hW
  have hA : DataW.TrodAll enc Try.prog W 0 (fun _ => true) true Try.f5.params.toList args.toList ds p := hA0
  rw [Try.params5] at hA hval
  have hL := DataW.TrodAll.lt hA
  obtain ⟨v0, vs0, d0, ds0, p0, q0, hargs, rfl, rfl, h0, r0⟩ := trodAll_cons hA
  obtain ⟨rfl, rfl, rfl⟩ := trodAll_nil r0
  obtain rfl : args = #[v0] := by cases args; simp_all
  obtain ⟨rfl, rfl⟩ := trodVars_none hV
  have k0 := h0
  have l0 : ∀ x ∈ p0, x.block < W.heap.size := fun x hx => hL x (by simp [hx])
  obtain ⟨xs0, s0⟩ := open_pairs Try.underlying30 Try.underlying56 (by kernel_rfl) rfl rfl (by kernel_rfl) (by kernel_rfl) (by kernel_rfl) (by kernel_rfl) (hval 0 30 v0 rfl rfl) h0
  clear hA0 hval0
  simp only [List.append_nil] at hW'
  refine (walk W _ _ s0).mono fun e W' ⟨he, bel⟩ => ?_
  subst he
  exact ⟨_, rfl, _, _, _, [], _, [], hW', (trodAll_cons_mk (shut_bool Try.underlying4 _) trodAll_mk0), (trodAll_cons_mk (Below.trod laidOut (by kernel_rfl) (of_decide_eq_true (by kernel_rfl)) k0 bel l0) trodAll_mk0), rfl, bel.frame _, fun h => by cases h⟩
theorem e1 : Rows.fnExactBindingsValidRow.lifted = Rows.fnExactParseNeedRow.lifted := rfl
theorem e2 : Rows.fnExactBindingsValidRow.make = Rows.fnExactParseNeedRow.make := rfl
theorem e3 : Rows.fnExactBindingsValidRow.plainKeys = Rows.fnExactParseNeedRow.plainKeys := rfl
theorem facts : joinedFacts Try.pinned.checked.prog 5 Try.f5 Rows.fnExactBindingsValidSpec Rows.fnExactBindingsValidRow = true := by
  refine Facts.joined e1 e2 e3 ?_ ?_ ?_ ?_ ?_ ?_ ?_ ?_ ?_ ?_ ?_ ?_ ?_ ?_ ?_ ?_ ?_ ?_ ?_ ?_ ?_ ?_ ?_
  all_goals as_aux_lemma => kernel_rfl
theorem over : Rows.fnExactBindingsValidRow.holds Try.pinned (OpenSpec.ofChange Rows.fnExactBindingsValidSpec) :=
  OpenClaim.holds_of_wide 5 Try.f5 rfl rfl rfl rfl rfl rfl rfl ⟨rfl, rfl, rfl, rfl, rfl⟩ rfl rfl rfl rfl rfl (by kernel_rfl) Try.func5 facts
    (of_decide_eq_true (by kernel_rfl)) (by unfold Func.isWrapper; first | (rw [if_pos (by decide +kernel)]; kernel_rfl) | (rw [if_neg (by decide +kernel)]; exact ⟨rfl, rfl⟩))
    (fun os started H enc _ => lifted os started H enc)
end Go.Proofs.Ytidcfefgpfobaaa.fnExactBindingsValid
namespace Go.Proofs.Ytidcfefgpfobaaa
theorem fnExactBindingsValid_holds : Rows.FnExactBindingsValidSaid := fnExactBindingsValid.over
end Go.Proofs.Ytidcfefgpfobaaa
