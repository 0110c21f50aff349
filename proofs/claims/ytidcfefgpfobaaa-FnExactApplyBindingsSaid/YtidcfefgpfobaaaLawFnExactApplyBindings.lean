/- FnExactApplyBindings answers true for every input: the program's ApplyBindings returns what the reference's returns. Conditions: none. -/
import Derived.Test.YtidcfefgpfobaaaSubA
import Derived.Test.YtidcfefgpfobaaaBindS
import Derived.Test.YtidcfefgpfobaaaRows
import Derived.Test.YtidcfefgpfobaaaFacts
import Derived.WalkKit
import Derived.ProofKit
import Derived.OpenShut
import Derived.ShutString
import Derived.ChangeOld
import Derived.Below
import Derived.Carry
import Derived.Lib.SmallJoins
set_option linter.unusedVariables false
set_option linter.unusedSimpArgs false
set_option maxRecDepth 100000
namespace Go.Proofs.Ytidcfefgpfobaaa.fnExactApplyBindings
open Go.ChangeShapes Go.WideShapes Go.ChangeAt Go.RowKit Go.Joins Ty
open Go.ChangeMaps (open_string shut_string)

theorem own : ownKnob Try.prog.godebug = none := by kernel_rfl
theorem laidOut : laidOutB Try.prog = true := by kernel_rfl
theorem bytes (s : ByteArray) : ∃ l : List UInt8, s = ⟨l.toArray⟩ ∧ s.size = l.length := ⟨s.data.toList, rfl, by simp⟩

theorem walk (w : World) (v0 : Value) (xs0 : List BB) (s0 : SP w v0 xs0) (a1 : ByteArray) (w1 : a1.size ≤ maxLen) :
    Calls Try.prog 9 #[v0, .string a1] w fun e w' => e = .returned (.bool true) ∧ Below w.heap.size w w' := by
  obtain ⟨l1, rfl, hz1⟩ := bytes a1
  by_cases hl11 : l1.length ≤ 1048576
  rotate_left
  · unfold maxLen at w1
    go_enter Try.func9, Try.ntmps9
    go_wp2_with fail
    go_ret
    exact ⟨rfl, Below.refl _ _⟩
  clear hz1 w1
  by_cases h : tot xs0 + xs0.length ≤ 1048576
  rotate_left
  · have hz : Hid (szP xs0 1048576 = -1) := by show _ = _; unfold szP; rw [if_neg (by omega)]
    go_enter Try.func9, Try.ntmps9
    go_wp2_with (go_at_call 20; refine (szBindingS_any v0 xs0 _ w (by omega) (by omega) s0).mono ?_; rintro e w1 ⟨rfl, hb⟩; rw [hz.out]; have HB := hid hb; clear hb)
    go_ret
    exact ⟨rfl, HB.out⟩
  obtain ⟨m, hm, hz⟩ : ∃ m : Nat, m ≤ 1048576 ∧ Hid (szP xs0 1048576 = m) := ⟨1048576 - xs0.length - tot xs0, by omega, by show _ = _; unfold szP; rw [if_pos (by omega)]; omega⟩
  have hl0 : xs0.length ≤ 1048576 := by omega
  cases ho : Sub.applyB xs0 l1 with
  | none =>
    have HO := hid ho
    clear ho
    go_enter Try.func9, Try.ntmps9
    go_wp2_with fail
    refine (szBindingS_any v0 xs0 _ w (by omega) (by omega) s0).mono ?_
    rintro e w1 ⟨rfl, hb⟩
    have S1 := hid (s0.below hb)
    have B1 : Hid (Below w.heap.size w w1) := hid hb
    rw [hz.out]
    clear hb
    go_wp2_with fail
    refine (toBindingS_any v0 xs0 _ hl0 S1.out).mono ?_
    rintro e w2 ⟨g2, rfl, -, -, sp2, hb⟩
    have S2 := hid (S1.out.below hb)
    have B2 : Hid (Below w.heap.size w w2) := hid (B1.out.trans (hb.mono B1.out.size))
    have P2 := hid sp2
    clear sp2
    clear hb
    go_wp2_with fail
    refine (Sub.ApplyBindings_spec _ xs0 l1 _ (by omega) h P2.out).mono ?_
    rintro e w3 ⟨rfl, hb⟩
    have S3 := hid (S2.out.below hb)
    have B3 : Hid (Below w.heap.size w w3) := hid (B2.out.trans (hb.mono B2.out.size))
    rw [HO.out]
    clear hb
    go_wp2_with fail
    refine (toBindingS_any v0 xs0 _ hl0 S3.out).mono ?_
    rintro e w4 ⟨g4, rfl, -, -, sp4, hb⟩
    have S4 := hid (S3.out.below hb)
    have B4 : Hid (Below w.heap.size w w4) := hid (B3.out.trans (hb.mono B3.out.size))
    have P4 := hid sp4
    clear sp4
    clear hb
    go_wp2_with fail
    refine (Sub.ApplyBindings_impl _ xs0 l1 _ (by omega) h P4.out).mono ?_
    rintro e w5 ⟨rfl, hb⟩
    have S5 := hid (S4.out.below hb)
    have B5 : Hid (Below w.heap.size w w5) := hid (B4.out.trans (hb.mono B4.out.size))
    have P5 := hid (P4.out.below hb)
    rw [HO.out]
    clear hb
    go_wp2_with fail
    refine (toBindingS_any v0 xs0 _ hl0 S5.out).mono ?_
    rintro e w6 ⟨g6, rfl, -, -, sp6, hb⟩
    have S6 := hid (S5.out.below hb)
    have B6 : Hid (Below w.heap.size w w6) := hid (B5.out.trans (hb.mono B5.out.size))
    have P6 := hid sp6
    have Q6 := hid (P5.out.below hb)
    clear sp6
    clear hb
    go_wp2_with fail
    refine (eqBindingS_same _ _ xs0 _ Q6.out P6.out).mono ?_
    rintro e w7 ⟨rfl, hb⟩
    have S7 := hid (S6.out.below hb)
    have B7 : Hid (Below w.heap.size w w7) := hid (B6.out.trans (hb.mono B6.out.size))
    clear hb
    go_wp2
    go_ret
    exact ⟨rfl, B7.out⟩
  | some d =>
    have HO := hid ho
    clear ho
    go_enter Try.func9, Try.ntmps9
    go_wp2_with fail
    refine (szBindingS_any v0 xs0 _ w (by omega) (by omega) s0).mono ?_
    rintro e w1 ⟨rfl, hb⟩
    have S1 := hid (s0.below hb)
    have B1 : Hid (Below w.heap.size w w1) := hid hb
    rw [hz.out]
    clear hb
    go_wp2_with fail
    refine (toBindingS_any v0 xs0 _ hl0 S1.out).mono ?_
    rintro e w2 ⟨g2, rfl, -, -, sp2, hb⟩
    have S2 := hid (S1.out.below hb)
    have B2 : Hid (Below w.heap.size w w2) := hid (B1.out.trans (hb.mono B1.out.size))
    have P2 := hid sp2
    clear sp2
    clear hb
    go_wp2_with fail
    refine (Sub.ApplyBindings_spec _ xs0 l1 _ (by omega) h P2.out).mono ?_
    rintro e w3 ⟨rfl, hb⟩
    have S3 := hid (S2.out.below hb)
    have B3 : Hid (Below w.heap.size w w3) := hid (B2.out.trans (hb.mono B2.out.size))
    rw [HO.out]
    clear hb
    go_wp2_with fail
    refine (toBindingS_any v0 xs0 _ hl0 S3.out).mono ?_
    rintro e w4 ⟨g4, rfl, -, -, sp4, hb⟩
    have S4 := hid (S3.out.below hb)
    have B4 : Hid (Below w.heap.size w w4) := hid (B3.out.trans (hb.mono B3.out.size))
    have P4 := hid sp4
    clear sp4
    clear hb
    go_wp2_with fail
    refine (Sub.ApplyBindings_impl _ xs0 l1 _ (by omega) h P4.out).mono ?_
    rintro e w5 ⟨rfl, hb⟩
    have S5 := hid (S4.out.below hb)
    have B5 : Hid (Below w.heap.size w w5) := hid (B4.out.trans (hb.mono B4.out.size))
    have P5 := hid (P4.out.below hb)
    rw [HO.out]
    clear hb
    go_wp2_with fail
    refine (toBindingS_any v0 xs0 _ hl0 S5.out).mono ?_
    rintro e w6 ⟨g6, rfl, -, -, sp6, hb⟩
    have S6 := hid (S5.out.below hb)
    have B6 : Hid (Below w.heap.size w w6) := hid (B5.out.trans (hb.mono B5.out.size))
    have P6 := hid sp6
    have Q6 := hid (P5.out.below hb)
    clear sp6
    clear hb
    go_wp2_with fail
    refine (eqBindingS_same _ _ xs0 _ Q6.out P6.out).mono ?_
    rintro e w7 ⟨rfl, hb⟩
    have S7 := hid (S6.out.below hb)
    have B7 : Hid (Below w.heap.size w w7) := hid (B6.out.trans (hb.mono B6.out.size))
    clear hb
    go_wp2
    go_ret
    exact ⟨rfl, B7.out⟩

theorem lifted (os : Os) (started : os.Started) (H : Type) (enc : TypeId × Value → H) :
    ReturnsInHanded {} Try.checked os 9 .any (Rows.fnExactApplyBindingsSpec.pre6 enc Try.prog Try.f9 Rows.fnExactApplyBindingsRow.domain false) (Rows.fnExactApplyBindingsSpec.post enc Try.prog Try.f9 false true false false) := by
  refine returnsInHanded_of_change (C := Try.checked) own started (by kernel_rfl) Try.func9
    (ChangeSpec.witness6 (enc := enc) (C := Try.checked) false ⟨#[], #[.slice none 0 0, .string ByteArray.empty], []⟩ 8 (by kernel_rfl) (by kernel_rfl) (by kernel_rfl) (by kernel_rfl)) ?_
  intro W base args ds gs before hval0 hW hcnd _
  have hval : ∀ (j : Nat) t v, Try.f9.params[j]? = some t → args[j]? = some v → Value.okWide Try.prog W .any base t v := hval0
  have hW' := hW
  obtain ⟨p, q, hA0, hV, rfl, hfz, hnd⟩ := hW
  have hA : DataW.TrodAll enc Try.prog W 0 (fun _ => true) true Try.f9.params.toList args.toList ds p := hA0
  rw [Try.params9] at hA hval
  have hL := DataW.TrodAll.lt hA
  obtain ⟨v0, vs0, d0, ds0, p0, q0, hargs, rfl, rfl, h0, r0⟩ := trodAll_cons hA
  obtain ⟨v1, vs1, d1, ds1, p1, q1, rfl, rfl, rfl, h1, r1⟩ := trodAll_cons r0
  obtain ⟨rfl, rfl, rfl⟩ := trodAll_nil r1
  obtain rfl : args = #[v0, v1] := by cases args; simp_all
  obtain ⟨rfl, rfl⟩ := trodVars_none hV
  have k0 := h0
  have l0 : ∀ x ∈ p0, x.block < W.heap.size := fun x hx => hL x (by simp [hx])
  have k1 := h1
  have l1 : ∀ x ∈ p1, x.block < W.heap.size := fun x hx => hL x (by simp [hx])
  obtain ⟨xs0, s0⟩ := open_pairs Try.underlying30 Try.underlying56 (by kernel_rfl) rfl rfl (by kernel_rfl) (by kernel_rfl) (by kernel_rfl) (by kernel_rfl) (hval 0 30 v0 rfl rfl) h0
  obtain ⟨a1, rfl, -, -, w1⟩ := open_string Try.underlying9 (hval 1 9 v1 rfl rfl) h1
  clear hA0 hval0
  simp only [List.append_nil] at hW'
  refine (walk W _ _ s0 a1 w1).mono fun e W' ⟨he, bel⟩ => ?_
  subst he
  exact ⟨_, rfl, _, _, _, [], _, [], hW', (trodAll_cons_mk (shut_bool Try.underlying4 _) trodAll_mk0), (trodAll_cons_mk (Below.trod laidOut (by kernel_rfl) (of_decide_eq_true (by kernel_rfl)) k0 bel l0) (trodAll_cons_mk (Below.trod laidOut (by kernel_rfl) (of_decide_eq_true (by kernel_rfl)) k1 bel l1) trodAll_mk0)), rfl, bel.frame _, fun h => by cases h⟩
theorem e1 : Rows.fnExactApplyBindingsRow.lifted = Rows.fnExactParseNeedRow.lifted := rfl
theorem e2 : Rows.fnExactApplyBindingsRow.make = Rows.fnExactParseNeedRow.make := rfl
theorem e3 : Rows.fnExactApplyBindingsRow.plainKeys = Rows.fnExactParseNeedRow.plainKeys := rfl
theorem facts : joinedFacts Try.pinned.checked.prog 9 Try.f9 Rows.fnExactApplyBindingsSpec Rows.fnExactApplyBindingsRow = true := by
  refine Facts.joined e1 e2 e3 ?_ ?_ ?_ ?_ ?_ ?_ ?_ ?_ ?_ ?_ ?_ ?_ ?_ ?_ ?_ ?_ ?_ ?_ ?_ ?_ ?_ ?_ ?_
  all_goals as_aux_lemma => kernel_rfl
theorem over : Rows.fnExactApplyBindingsRow.holds Try.pinned (OpenSpec.ofChange Rows.fnExactApplyBindingsSpec) :=
  OpenClaim.holds_of_wide 9 Try.f9 rfl rfl rfl rfl rfl rfl rfl ⟨rfl, rfl, rfl, rfl, rfl⟩ rfl rfl rfl rfl rfl (by kernel_rfl) Try.func9 facts
    (of_decide_eq_true (by kernel_rfl)) (by unfold Func.isWrapper; first | (rw [if_pos (by decide +kernel)]; kernel_rfl) | (rw [if_neg (by decide +kernel)]; exact ⟨rfl, rfl⟩))
    (fun os started H enc _ => lifted os started H enc)
end Go.Proofs.Ytidcfefgpfobaaa.fnExactApplyBindings
namespace Go.Proofs.Ytidcfefgpfobaaa
theorem fnExactApplyBindings_holds : Rows.FnExactApplyBindingsSaid := fnExactApplyBindings.over
end Go.Proofs.Ytidcfefgpfobaaa
