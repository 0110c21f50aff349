/- FnExactMakeType answers true for every input: the program's MakeType returns what the reference's returns. Conditions: none. -/
import Derived.Test.YtidcfefgpfobaaaMkTypeS
import Derived.Test.YtidcfefgpfobaaaStrsArg
import Derived.Test.YtidcfefgpfobaaaRows
import Derived.Test.YtidcfefgpfobaaaFacts
import Derived.WalkKit
import Derived.ProofKit
import Derived.OpenShut
import Derived.ShutString
import Derived.ChangeOld
import Derived.Below
import Derived.Carry
import Derived.Lib.SmallJoins
set_option linter.unusedVariables false
set_option linter.unusedSimpArgs false
set_option maxRecDepth 100000
namespace Go.Proofs.Ytidcfefgpfobaaa.fnExactMakeType
open Go.ChangeShapes Go.WideShapes Go.ChangeAt Go.RowKit Go.Joins Ty
open Go.ChangeMaps (open_string shut_string)

theorem own : ownKnob Try.prog.godebug = none := by kernel_rfl
theorem laidOut : laidOutB Try.prog = true := by kernel_rfl
theorem bytes (s : ByteArray) : ∃ l : List UInt8, s = ⟨l.toArray⟩ ∧ s.size = l.length := ⟨s.data.toList, rfl, by simp⟩
theorem tail_tot (xs : List ByteArray) : (Lib.joinTail [44] (xs.map (·.data.toList))).length ≤ StrsArg.tot xs + xs.length := by
  unfold Lib.joinTail
  induction xs with
  | nil => simp
  | cons x xs ih =>
    have e : StrsArg.tot (x :: xs) = x.size + StrsArg.tot xs := by simp [StrsArg.tot]
    have e2 : x.data.toList.length = x.size := by simp
    simp at ih ⊢
    omega
theorem join_tot (xs : List ByteArray) : (Lib.join (xs.map (·.data.toList)) [44]).length ≤ StrsArg.tot xs + xs.length := by
  cases xs with
  | nil => simp [Lib.join]
  | cons x xs =>
    rw [List.map_cons, Lib.join_cons, List.length_append]
    have e : StrsArg.tot (x :: xs) = x.size + StrsArg.tot xs := by simp [StrsArg.tot]
    have e2 : x.data.toList.length = x.size := by simp
    have := tail_tot xs
    simp only [List.length_cons]
    omega

theorem walk (w : World) (a0 : ByteArray) (w0 : a0.size ≤ maxLen) (v1 : Value) (xs1 : List ByteArray) (s1 : StrsArg.SA w v1 xs1) :
    Calls Try.prog 11 #[.string a0, v1] w fun e w' => e = .returned (.bool true) ∧ Below w.heap.size w w' := by
  obtain ⟨l0, rfl, hz0⟩ := bytes a0
  by_cases hl00 : l0.length ≤ 1048576
  rotate_left
  · unfold maxLen at w0
    go_enter Try.func11, Try.ntmps11
    go_wp2_with fail
    go_ret
    exact ⟨rfl, Below.refl _ _⟩
  clear hz0 w0
  by_cases h : StrsArg.tot xs1 + xs1.length ≤ 1048576
  rotate_left
  · have hz : Hid (StrsArg.szS xs1 1048576 = -1) := by show _ = _; unfold StrsArg.szS; rw [if_neg (by omega)]
    go_enter Try.func11, Try.ntmps11
    go_wp2_with fail
    refine (StrsArg.szStringS_any v1 xs1 1048576 w (by omega) (by omega) s1).mono ?_
    rintro e w1 ⟨rfl, rfl⟩
    rw [hz.out]
    go_wp2
    go_ret
    exact ⟨rfl, Below.refl _ _⟩
  · obtain ⟨m, hm, hz⟩ : ∃ m : Nat, m ≤ 1048576 ∧ Hid (StrsArg.szS xs1 1048576 = m) := ⟨1048576 - xs1.length - StrsArg.tot xs1, by omega, by show _ = _; unfold StrsArg.szS; rw [if_pos (by omega)]; omega⟩
    have hl0 : xs1.length ≤ 1048576 := by omega
    have hsz : Hid (∀ (k : Nat) (x : ByteArray), xs1[k]? = some x → x.size ≤ 2147483648) := fun k x hx => by
      have := StrsArg.tot_mem (List.mem_of_getElem? hx)
      omega
    have hSL : Hid (MkType.StrsLen xs1) := ⟨hl0, by have := join_tot xs1; omega⟩
    cases ho : MkType.mkT l0 xs1 with
    | none =>
      have HO := hid ho
      clear ho
      go_enter Try.func11, Try.ntmps11
      go_wp2_with fail
      refine (StrsArg.szStringS_any v1 xs1 1048576 w (by omega) (by omega) s1).mono ?_
      rintro e w1 ⟨rfl, rfl⟩
      rw [hz.out]
      go_wp2_with fail
      refine (StrsArg.toStringS_any v1 xs1 w hl0 s1).mono ?_
      rintro e w2 ⟨g2, c2, rfl, hr2, hb⟩
      have R2 := hid hr2
      have B2 := hid hb
      have S2 := hid (s1.below hb)
      have z2 := hb.size
      clear hr2 hb
      go_wp2_with fail
      refine (MkType.MakeType_spec l0 xs1 _ _ _ hl00 hSL.out hsz.out R2.out).mono ?_
      rintro e w3 ⟨rfl, hb⟩
      have B3 : Hid (Below w.heap.size w w3) := B2.out.trans (hb.mono z2)
      have S3 := hid (S2.out.below hb)
      have z3 := hb.size
      clear hb
      rw [HO.out]
      go_wp2_with fail
      refine (StrsArg.toStringS_any v1 xs1 w3 hl0 S3.out).mono ?_
      rintro e w4 ⟨g4, c4, rfl, hr4, hb⟩
      have R4 := hid hr4
      have B4 : Hid (Below w.heap.size w w4) := B3.out.trans (hb.mono (by omega))
      have S4 := hid (S3.out.below hb)
      have z4 := hb.size
      clear hr4 hb
      go_wp2_with fail
      refine (MkType.MakeType_impl l0 xs1 _ _ _ hl00 hSL.out R4.out).mono ?_
      rintro e w5 ⟨rfl, hb⟩
      have B5 : Hid (Below w.heap.size w w5) := B4.out.trans (hb.mono (by omega))
      have S5 := hid (S4.out.below hb)
      have R5 := hid (ListS.row_below hb R4.out)
      have z5 := hb.size
      clear hb
      rw [HO.out]
      go_wp2_with fail
      refine (StrsArg.toStringS_any v1 xs1 w5 hl0 S5.out).mono ?_
      rintro e w6 ⟨g6, c6, rfl, hr6, hb⟩
      have R6 := hid hr6
      have R56 := hid (ListS.row_below hb R5.out)
      have B6 : Hid (Below w.heap.size w w6) := B5.out.trans (hb.mono (by omega))
      clear hr6 hb
      go_wp2_with fail
      refine (ListS.eqStringS_same _ _ xs1 _ _ _ (by omega) R56.out R6.out).mono ?_
      rintro e w7 ⟨rfl, n7, rfl⟩
      go_wp2
      go_ret
      exact ⟨rfl, below_drewN B6.out n7⟩
    | some d =>
      have HO := hid ho
      clear ho
      go_enter Try.func11, Try.ntmps11
      go_wp2_with fail
      refine (StrsArg.szStringS_any v1 xs1 1048576 w (by omega) (by omega) s1).mono ?_
      rintro e w1 ⟨rfl, rfl⟩
      rw [hz.out]
      go_wp2_with fail
      refine (StrsArg.toStringS_any v1 xs1 w hl0 s1).mono ?_
      rintro e w2 ⟨g2, c2, rfl, hr2, hb⟩
      have R2 := hid hr2
      have B2 := hid hb
      have S2 := hid (s1.below hb)
      have z2 := hb.size
      clear hr2 hb
      go_wp2_with fail
      refine (MkType.MakeType_spec l0 xs1 _ _ _ hl00 hSL.out hsz.out R2.out).mono ?_
      rintro e w3 ⟨rfl, hb⟩
      have B3 : Hid (Below w.heap.size w w3) := B2.out.trans (hb.mono z2)
      have S3 := hid (S2.out.below hb)
      have z3 := hb.size
      clear hb
      rw [HO.out]
      go_wp2_with fail
      refine (StrsArg.toStringS_any v1 xs1 w3 hl0 S3.out).mono ?_
      rintro e w4 ⟨g4, c4, rfl, hr4, hb⟩
      have R4 := hid hr4
      have B4 : Hid (Below w.heap.size w w4) := B3.out.trans (hb.mono (by omega))
      have S4 := hid (S3.out.below hb)
      have z4 := hb.size
      clear hr4 hb
      go_wp2_with fail
      refine (MkType.MakeType_impl l0 xs1 _ _ _ hl00 hSL.out R4.out).mono ?_
      rintro e w5 ⟨rfl, hb⟩
      have B5 : Hid (Below w.heap.size w w5) := B4.out.trans (hb.mono (by omega))
      have S5 := hid (S4.out.below hb)
      have R5 := hid (ListS.row_below hb R4.out)
      have z5 := hb.size
      clear hb
      rw [HO.out]
      go_wp2_with fail
      refine (StrsArg.toStringS_any v1 xs1 w5 hl0 S5.out).mono ?_
      rintro e w6 ⟨g6, c6, rfl, hr6, hb⟩
      have R6 := hid hr6
      have R56 := hid (ListS.row_below hb R5.out)
      have B6 : Hid (Below w.heap.size w w6) := B5.out.trans (hb.mono (by omega))
      clear hr6 hb
      go_wp2_with fail
      refine (ListS.eqStringS_same _ _ xs1 _ _ _ (by omega) R56.out R6.out).mono ?_
      rintro e w7 ⟨rfl, n7, rfl⟩
      go_wp2
      go_ret
      exact ⟨rfl, below_drewN B6.out n7⟩

theorem lifted (os : Os) (started : os.Started) (H : Type) (enc : TypeId × Value → H) :
    ReturnsInHanded {} Try.checked os 11 .any (Rows.fnExactMakeTypeSpec.pre6 enc Try.prog Try.f11 Rows.fnExactMakeTypeRow.domain false) (Rows.fnExactMakeTypeSpec.post enc Try.prog Try.f11 false true false false) := by
  refine returnsInHanded_of_change (C := Try.checked) own started (by kernel_rfl) Try.func11
    (ChangeSpec.witness6 (enc := enc) (C := Try.checked) false ⟨#[], #[.string ByteArray.empty, .slice none 0 0], []⟩ 8 (by kernel_rfl) (by kernel_rfl) (by kernel_rfl) (by kernel_rfl)) ?_
  intro W base args ds gs before hval0 hW hcnd _
  have hval : ∀ (j : Nat) t v, Try.f11.params[j]? = some t → args[j]? = some v → Value.okWide Try.prog W .any base t v := hval0
  have hW' := hW
  obtain ⟨p, q, hA0, hV, rfl, hfz, hnd⟩ := hW
  have hA : DataW.TrodAll enc Try.prog W 0 (fun _ => true) true Try.f11.params.toList args.toList ds p := hA0
  rw [Try.params11] at hA hval
  have hL := DataW.TrodAll.lt hA
  obtain ⟨v0, vs0, d0, ds0, p0, q0, hargs, rfl, rfl, h0, r0⟩ := trodAll_cons hA
  obtain ⟨v1, vs1, d1, ds1, p1, q1, rfl, rfl, rfl, h1, r1⟩ := trodAll_cons r0
  obtain ⟨rfl, rfl, rfl⟩ := trodAll_nil r1
  obtain rfl : args = #[v0, v1] := by cases args; simp_all
  obtain ⟨rfl, rfl⟩ := trodVars_none hV
  have k0 := h0
  have l0 : ∀ x ∈ p0, x.block < W.heap.size := fun x hx => hL x (by simp [hx])
  have k1 := h1
  have l1 : ∀ x ∈ p1, x.block < W.heap.size := fun x hx => hL x (by simp [hx])
  obtain ⟨a0, rfl, -, -, w0⟩ := open_string Try.underlying9 (hval 0 9 v0 rfl rfl) h0
  obtain ⟨xs1, s1⟩ := StrsArg.open_sa Try.underlying38 Try.underlying9 (by kernel_rfl) (hval 1 38 v1 rfl rfl) h1
  clear hA0 hval0
  simp only [List.append_nil] at hW'
  refine (walk W a0 w0 _ _ s1).mono fun e W' ⟨he, bel⟩ => ?_
  subst he
  exact ⟨_, rfl, _, _, _, [], _, [], hW', (trodAll_cons_mk (shut_bool Try.underlying4 _) trodAll_mk0), (trodAll_cons_mk (Below.trod laidOut (by kernel_rfl) (of_decide_eq_true (by kernel_rfl)) k0 bel l0) (trodAll_cons_mk (Below.trod laidOut (by kernel_rfl) (of_decide_eq_true (by kernel_rfl)) k1 bel l1) trodAll_mk0)), rfl, bel.frame _, fun h => by cases h⟩
theorem e1 : Rows.fnExactMakeTypeRow.lifted = Rows.fnExactParseNeedRow.lifted := rfl
theorem e2 : Rows.fnExactMakeTypeRow.make = Rows.fnExactParseNeedRow.make := rfl
theorem e3 : Rows.fnExactMakeTypeRow.plainKeys = Rows.fnExactParseNeedRow.plainKeys := rfl
theorem facts : joinedFacts Try.pinned.checked.prog 11 Try.f11 Rows.fnExactMakeTypeSpec Rows.fnExactMakeTypeRow = true := by
  refine Facts.joined e1 e2 e3 ?_ ?_ ?_ ?_ ?_ ?_ ?_ ?_ ?_ ?_ ?_ ?_ ?_ ?_ ?_ ?_ ?_ ?_ ?_ ?_ ?_ ?_ ?_
  all_goals as_aux_lemma => kernel_rfl
theorem over : Rows.fnExactMakeTypeRow.holds Try.pinned (OpenSpec.ofChange Rows.fnExactMakeTypeSpec) :=
  OpenClaim.holds_of_wide 11 Try.f11 rfl rfl rfl rfl rfl rfl rfl ⟨rfl, rfl, rfl, rfl, rfl⟩ rfl rfl rfl rfl rfl (by kernel_rfl) Try.func11 facts
    (of_decide_eq_true (by kernel_rfl)) (by unfold Func.isWrapper; first | (rw [if_pos (by decide +kernel)]; kernel_rfl) | (rw [if_neg (by decide +kernel)]; exact ⟨rfl, rfl⟩))
    (fun os started H enc _ => lifted os started H enc)
end Go.Proofs.Ytidcfefgpfobaaa.fnExactMakeType
namespace Go.Proofs.Ytidcfefgpfobaaa
theorem fnExactMakeType_holds : Rows.FnExactMakeTypeSaid := fnExactMakeType.over
end Go.Proofs.Ytidcfefgpfobaaa
