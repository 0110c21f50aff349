/- FnExactMakeDict answers true for every input: the program's MakeDict returns what the reference's returns. Conditions: none. -/
import Derived.Test.YtlckalgdfbpejaaDoorMkDict
import Derived.Test.YtlckalgdfbpejaaDoorStrsArg
import Derived.Test.YtlckalgdfbpejaaDoorRows
import Derived.Test.YtlckalgdfbpejaaDoorCards
import Derived.Test.YtlckalgdfbpejaaDoorTie
import Derived.LaidMore
import Derived.Lay
import Derived.SevenTiedAt
import Derived.Stop.Joined
import Derived.Test.YtlckalgdfbpejaaDoorFacts
import Derived.WalkKit
import Derived.ProofKit
import Derived.OpenShut
import Derived.ShutString
import Derived.ChangeOld
import Derived.Below
import Derived.Carry
import Derived.Lib.SmallJoins
set_option linter.unusedVariables false
set_option linter.unusedSimpArgs false
set_option maxRecDepth 100000
namespace Go.Proofs.YtlckalgdfbpejaaDoor.fnExactMakeDict
open Go.ChangeShapes Go.WideShapes Go.ChangeAt Go.RowKit Go.Joins 
open Go.ChangeMaps (open_string shut_string)

theorem own : ownKnob Tryd.prog.godebug = none := by kernel_rfl
theorem laidOut : laidOutB Tryd.prog = true := by kernel_rfl
theorem bytes (s : ByteArray) : ∃ l : List UInt8, s = ⟨l.toArray⟩ ∧ s.size = l.length := ⟨s.data.toList, rfl, by simp⟩

theorem walk (w : World) (a0 : Int) (w0 : -9223372036854775808 ≤ a0 ∧ a0 ≤ 9223372036854775807) (v1 : Value) (xs1 : List ByteArray) (s1 : StrsArg.SA w v1 xs1) :
    Calls Tryd.prog 5 #[.int .i64 a0, v1] w fun e w' => e = .returned (.bool true) ∧ Below w.heap.size w w' := by
  by_cases h : StrsArg.tot xs1 + xs1.length ≤ 1048576
  rotate_left
  · have hz : Hid (StrsArg.szS xs1 1048576 = -1) := by show _ = _; unfold StrsArg.szS; rw [if_neg (by omega)]
    go_enter Tryd.func5, Tryd.ntmps5
    go_wp2_with fail
    refine (StrsArg.szStringS_any v1 xs1 1048576 w (by omega) (by omega) s1).mono ?_
    rintro e w1 ⟨rfl, rfl⟩
    rw [hz.out]
    go_wp2
    go_ret
    exact ⟨rfl, Below.refl _ _⟩
  · obtain ⟨m, hm, hz⟩ : ∃ m : Nat, m ≤ 1048576 ∧ Hid (StrsArg.szS xs1 1048576 = m) := ⟨1048576 - xs1.length - StrsArg.tot xs1, by omega, by show _ = _; unfold StrsArg.szS; rw [if_pos (by omega)]; omega⟩
    have hl0 : xs1.length ≤ 1048576 := by omega
    have hsz : Hid (∀ (k : Nat) (x : ByteArray), xs1[k]? = some x → x.size ≤ 2147483648) := fun k x hx => by
      have := StrsArg.tot_mem (List.mem_of_getElem? hx)
      omega
    cases ho : MkDict.md a0 xs1 with
    | none =>
      have HO := hid ho
      clear ho
      go_enter Tryd.func5, Tryd.ntmps5
      go_wp2_with fail
      refine (StrsArg.szStringS_any v1 xs1 1048576 w (by omega) (by omega) s1).mono ?_
      rintro e w1 ⟨rfl, rfl⟩
      rw [hz.out]
      go_wp2_with fail
      refine (StrsArg.toStringS_any v1 xs1 w hl0 s1).mono ?_
      rintro e w2 ⟨g2, c2, rfl, hr2, hb⟩
      have R2 := hid hr2
      have B2 := hid hb
      have S2 := hid (s1.below hb)
      have z2 := hb.size
      clear hr2 hb
      go_wp2_with fail
      refine (MkDict.MakeDict_spec a0 xs1 _ _ _ w0 hl0 hsz.out R2.out).mono ?_
      rintro e w3 ⟨rfl, hb⟩
      have B3 : Hid (Below w.heap.size w w3) := B2.out.trans (hb.mono z2)
      have S3 := hid (S2.out.below hb)
      have z3 := hb.size
      clear hb
      rw [HO.out]
      go_wp2_with fail
      refine (StrsArg.toStringS_any v1 xs1 w3 hl0 S3.out).mono ?_
      rintro e w4 ⟨g4, c4, rfl, hr4, hb⟩
      have R4 := hid hr4
      have B4 : Hid (Below w.heap.size w w4) := B3.out.trans (hb.mono (by omega))
      have S4 := hid (S3.out.below hb)
      have z4 := hb.size
      clear hr4 hb
      go_wp2_with fail
      refine (MkDict.MakeDict_impl a0 xs1 _ _ _ w0 hl0 hsz.out R4.out).mono ?_
      rintro e w5 ⟨rfl, hb⟩
      have B5 : Hid (Below w.heap.size w w5) := B4.out.trans (hb.mono (by omega))
      have S5 := hid (S4.out.below hb)
      have R5 := hid (ListS.row_below hb R4.out)
      have z5 := hb.size
      clear hb
      rw [HO.out]
      go_wp2_with fail
      refine (StrsArg.toStringS_any v1 xs1 w5 hl0 S5.out).mono ?_
      rintro e w6 ⟨g6, c6, rfl, hr6, hb⟩
      have R6 := hid hr6
      have R56 := hid (ListS.row_below hb R5.out)
      have B6 : Hid (Below w.heap.size w w6) := B5.out.trans (hb.mono (by omega))
      clear hr6 hb
      go_wp2_with fail
      refine (ListS.eqStringS_same _ _ xs1 _ _ _ (by omega) R56.out R6.out).mono ?_
      rintro e w7 ⟨rfl, n7, rfl⟩
      go_wp2
      go_ret
      exact ⟨rfl, below_drewN B6.out n7⟩
    | some d =>
      have HO := hid ho
      clear ho
      go_enter Tryd.func5, Tryd.ntmps5
      go_wp2_with fail
      refine (StrsArg.szStringS_any v1 xs1 1048576 w (by omega) (by omega) s1).mono ?_
      rintro e w1 ⟨rfl, rfl⟩
      rw [hz.out]
      go_wp2_with fail
      refine (StrsArg.toStringS_any v1 xs1 w hl0 s1).mono ?_
      rintro e w2 ⟨g2, c2, rfl, hr2, hb⟩
      have R2 := hid hr2
      have B2 := hid hb
      have S2 := hid (s1.below hb)
      have z2 := hb.size
      clear hr2 hb
      go_wp2_with fail
      refine (MkDict.MakeDict_spec a0 xs1 _ _ _ w0 hl0 hsz.out R2.out).mono ?_
      rintro e w3 ⟨rfl, hb⟩
      have B3 : Hid (Below w.heap.size w w3) := B2.out.trans (hb.mono z2)
      have S3 := hid (S2.out.below hb)
      have z3 := hb.size
      clear hb
      rw [HO.out]
      go_wp2_with fail
      refine (StrsArg.toStringS_any v1 xs1 w3 hl0 S3.out).mono ?_
      rintro e w4 ⟨g4, c4, rfl, hr4, hb⟩
      have R4 := hid hr4
      have B4 : Hid (Below w.heap.size w w4) := B3.out.trans (hb.mono (by omega))
      have S4 := hid (S3.out.below hb)
      have z4 := hb.size
      clear hr4 hb
      go_wp2_with fail
      refine (MkDict.MakeDict_impl a0 xs1 _ _ _ w0 hl0 hsz.out R4.out).mono ?_
      rintro e w5 ⟨rfl, hb⟩
      have B5 : Hid (Below w.heap.size w w5) := B4.out.trans (hb.mono (by omega))
      have S5 := hid (S4.out.below hb)
      have R5 := hid (ListS.row_below hb R4.out)
      have z5 := hb.size
      clear hb
      rw [HO.out]
      go_wp2_with fail
      refine (StrsArg.toStringS_any v1 xs1 w5 hl0 S5.out).mono ?_
      rintro e w6 ⟨g6, c6, rfl, hr6, hb⟩
      have R6 := hid hr6
      have R56 := hid (ListS.row_below hb R5.out)
      have B6 : Hid (Below w.heap.size w w6) := B5.out.trans (hb.mono (by omega))
      clear hr6 hb
      go_wp2_with fail
      refine (ListS.eqStringS_same _ _ xs1 _ _ _ (by omega) R56.out R6.out).mono ?_
      rintro e w7 ⟨rfl, n7, rfl⟩
      go_wp2
      go_ret
      exact ⟨rfl, below_drewN B6.out n7⟩

theorem lifted (os : Os) (started : os.Started) (H : Type) (enc : TypeId × Value → H) :
    ReturnsInHanded {} Tryd.checked os 5 .any (fun w args => (Rows.fnExactMakeDictSpec.pre enc Tryd.prog Tryd.f5 Rows.fnExactMakeDictRow.domain false w args ∧ laidMetH Tryd.prog Rows.fnExactMakeDictRow.laid w) ∧ sizedMet enc Tryd.prog Tryd.f5 (OpenSpec.ofChange Rows.fnExactMakeDictSpec) false w args) (Rows.fnExactMakeDictSpec.post enc Tryd.prog Tryd.f5 false true false false) := by
  refine returnsInHanded_of_change_and (C := Tryd.checked) (X := fun w _ => laidMetH Tryd.prog Rows.fnExactMakeDictRow.laid w) (fun _ _ _ hh h => h.of_heap hh) own started (by kernel_rfl) Tryd.func5
    (ChangeSpec.witness_shaped (enc := enc) (C := Tryd.checked) (os := os) (X := fun w _ => laidMetH Tryd.prog Rows.fnExactMakeDictRow.laid w) false (World.laidAll Tryd.prog os Rows.fnExactMakeDictRow.laid) #[.int .i64 0, .slice none 0 0] 8 (World.laidAll_os _ _ _)
      (World.shaped_of_ZipB (by kernel_rfl) (by kernel_rfl)) (by kernel_rfl) (by kernel_rfl) (by kernel_rfl)
      (by rw [MakeChecks.laidMetH_plain _ _ _ (by kernel_rfl)]; exact laidMet_laidAll _ (by kernel_rfl) (by kernel_rfl))) ?_
  intro W base args ds gs before hval0 hW hcnd _ _ _
  have hval : ∀ (j : Nat) t v, Tryd.f5.params[j]? = some t → args[j]? = some v → Value.okWide Tryd.prog W .any base t v := hval0
  have hW' := hW
  obtain ⟨p, q, hA0, hV, rfl, hfz, hnd⟩ := hW
  have hA : DataW.TrodAll enc Tryd.prog W 0 (fun _ => true) true Tryd.f5.params.toList args.toList ds p := hA0
  rw [Tryd.params5] at hA hval
  have hL := DataW.TrodAll.lt hA
  obtain ⟨v0, vs0, d0, ds0, p0, q0, hargs, rfl, rfl, h0, r0⟩ := trodAll_cons hA
  obtain ⟨v1, vs1, d1, ds1, p1, q1, rfl, rfl, rfl, h1, r1⟩ := trodAll_cons r0
  obtain ⟨rfl, rfl, rfl⟩ := trodAll_nil r1
  obtain rfl : args = #[v0, v1] := by cases args; simp_all
  obtain ⟨rfl, rfl⟩ := trodVars_none hV
  have k0 := h0
  have l0 : ∀ x ∈ p0, x.block < W.heap.size := fun x hx => hL x (by simp [hx])
  have k1 := h1
  have l1 : ∀ x ∈ p1, x.block < W.heap.size := fun x hx => hL x (by simp [hx])
  obtain ⟨a0, rfl, -, -, ww0⟩ := open_int Tryd.underlying3 (hval 0 3 v0 rfl rfl) h0
  have w0 := bounds_i64 ww0
  obtain ⟨xs1, s1⟩ := StrsArg.open_sa Tryd.underlying27 Tryd.underlying9 (by kernel_rfl) (hval 1 27 v1 rfl rfl) h1
  clear hA0 hval0
  simp only [List.append_nil] at hW'
  refine (walk W a0 w0 _ _ s1).mono fun e W' ⟨he, bel⟩ => ?_
  subst he
  exact ⟨_, rfl, _, _, _, [], _, [], hW', (trodAll_cons_mk (shut_bool Tryd.underlying4 _) trodAll_mk0), (trodAll_cons_mk (Below.trod laidOut (by kernel_rfl) (of_decide_eq_true (by kernel_rfl)) k0 bel l0) (trodAll_cons_mk (Below.trod laidOut (by kernel_rfl) (of_decide_eq_true (by kernel_rfl)) k1 bel l1) trodAll_mk0)), rfl, bel.frame _, fun h => by cases h⟩
theorem e1 : Rows.fnExactMakeDictRow.lifted = Rows.fnExactInstancesInRow.lifted := rfl
theorem e2 : Rows.fnExactMakeDictRow.make = Rows.fnExactInstancesInRow.make := rfl
theorem e3 : Rows.fnExactMakeDictRow.plainKeys = Rows.fnExactInstancesInRow.plainKeys := rfl
theorem facts : joinedFacts Tryd.pinned.checked.prog 5 Tryd.f5 Rows.fnExactMakeDictSpec Rows.fnExactMakeDictRow = true := by
  refine Facts.joined e1 e2 e3 ?_ ?_ ?_ ?_ ?_ ?_ ?_ ?_ ?_ ?_ ?_ ?_ ?_ ?_ ?_ ?_ ?_ ?_ ?_ ?_ ?_ ?_ ?_
  all_goals as_aux_lemma => kernel_rfl
theorem over : Rows.fnExactMakeDictRow.holds Tryd.pinned (OpenSpec.ofChange Rows.fnExactMakeDictSpec) :=
  OpenClaim.holds_of_wide 5 Tryd.f5 rfl rfl rfl rfl rfl rfl rfl ⟨rfl, rfl, rfl, rfl, rfl⟩ rfl rfl rfl rfl rfl (by kernel_rfl) Tryd.func5 facts
    (of_decide_eq_true (by kernel_rfl)) (by unfold Func.isWrapper; first | (rw [if_pos (by decide +kernel)]; kernel_rfl) | (rw [if_neg (by decide +kernel)]; exact ⟨rfl, rfl⟩))
    (fun os started H enc _ => lifted os started H enc)
end Go.Proofs.YtlckalgdfbpejaaDoor.fnExactMakeDict
namespace Go.Proofs.YtlckalgdfbpejaaDoor
theorem fnExactMakeDict_holds : Rows.FnExactMakeDictCardSaid :=
  Claim7.holds_tied_plain_at .later [] Rows.fnExactMakeDictCard.laidKinds true Rows.fnExactMakeDictCard.stood.harness Rows.fnExactMakeDictCard.stood.looks
    fnExactMakeDict.over (fun _ h => by cases h) (by kernel_rfl) (fun _ h => by cases h) fnExactMakeDict_row_tie rfl ⟨rfl, rfl⟩ (by kernel_rfl) rfl
    (fun f fn hf hfn => by
      obtain rfl : f = 5 := Option.some.inj ((show Tryd.prog.funcNamed "loop.example/instancesearch/laws.FnExactMakeDict" = some 5 by kernel_rfl).symm.trans hf) |>.symm
      obtain rfl : fn = Tryd.f5 := (Option.some.inj (Tryd.func5.symm.trans hfn)).symm
      exact ⟨by kernel_rfl, fun j t ht => by
        rw [Tryd.params5] at ht
        have hm := Array.mem_of_getElem? ht
        have hall : (Tryd.f5.params.all fun u => !Tryd.prog.wantsStandIn u) = true := by kernel_rfl
        rw [Tryd.params5] at hall
        have := Array.all_eq_true'.1 hall t hm
        exact (show Tryd.prog.wantsStandIn t = false by simpa using this)⟩)
    (by kernel_rfl)
end Go.Proofs.YtlckalgdfbpejaaDoor
