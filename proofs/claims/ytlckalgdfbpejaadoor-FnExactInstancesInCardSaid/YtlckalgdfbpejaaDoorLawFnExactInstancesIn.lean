/- FnExactInstancesIn answers true for every input: the program's InstancesIn returns what the reference's returns. Conditions: none. -/
import Derived.Test.YtlckalgdfbpejaaDoorInsts
import Derived.Test.YtlckalgdfbpejaaDoorRows
import Derived.Test.YtlckalgdfbpejaaDoorCards
import Derived.Test.YtlckalgdfbpejaaDoorTie
import Derived.LaidMore
import Derived.Lay
import Derived.SevenTiedAt
import Derived.Stop.Joined
import Derived.Test.YtlckalgdfbpejaaDoorFacts
import Derived.WalkKit
import Derived.ProofKit
import Derived.OpenShut
import Derived.ShutString
import Derived.ChangeOld
import Derived.Below
import Derived.Carry
import Derived.Lib.SmallJoins
set_option linter.unusedVariables false
set_option linter.unusedSimpArgs false
set_option maxRecDepth 100000
namespace Go.Proofs.YtlckalgdfbpejaaDoor.fnExactInstancesIn
open Go.ChangeShapes Go.WideShapes Go.ChangeAt Go.RowKit Go.Joins 
open Go.ChangeMaps (open_string shut_string)

theorem own : ownKnob Tryd.prog.godebug = none := by kernel_rfl
theorem laidOut : laidOutB Tryd.prog = true := by kernel_rfl
theorem bytes (s : ByteArray) : ∃ l : List UInt8, s = ⟨l.toArray⟩ ∧ s.size = l.length := ⟨s.data.toList, rfl, by simp⟩

theorem walk (a0 : ByteArray) (w0 : a0.size ≤ maxLen) (w : World) :
    Calls Tryd.prog 3 #[.string a0] w fun e w' => e = .returned (.bool true) ∧ Below w.heap.size w w' := by
  obtain ⟨l, rfl, hz⟩ := bytes a0
  by_cases hl : l.length ≤ 1048576
  rotate_left
  · unfold maxLen at w0
    go_enter Tryd.func3, Tryd.ntmps3
    go_wp2_with fail
    go_ret
    exact ⟨rfl, Below.refl _ _⟩
  · clear hz
    have hnn : Hid ((Insts.sel l 10).length ≤ 1099511627776) := by show _ ≤ _; have := Insts.sel_len l 10; omega
    go_enter Tryd.func3, Tryd.ntmps3
    go_wp2_with fail
    refine (Insts.InstancesIn_spec l _ (by omega)).mono ?_
    rintro e w1 ⟨g1, c1, rfl, hr1, hb⟩
    have R1 := hid hr1
    have B1 := hid hb
    have hz1 := hb.size
    have hg1 := (row_block hr1).1
    have hl1 := (ListS.row_own hr1 g1 rfl).2
    clear hr1 hb
    go_wp2_with fail
    refine (Insts.InstancesIn_impl l _ (by omega)).mono ?_
    rintro e w2 ⟨g2, c2, rfl, hr2, hb⟩
    have R2 := hid hr2
    have R12 := hid (ListS.row_below hb R1.out)
    have B2 : Hid (Below w.heap.size w w2) := B1.out.trans (hb.mono hz1)
    have hz2 := hb.size
    have hg2 := (row_block hr2).1
    clear hr2 hb
    go_wp2_with fail
    refine (ListS.eqIntS_same _ _ (Insts.sel l 10) _ _ _ hnn.out R2.out R12.out).mono ?_
    rintro e w3 ⟨rfl, n3, rfl⟩
    have R2d : Hid ((w2.drewN n3).ownsRow 0 3 1 (.slice (some ⟨g2, 0, none⟩) (ListS.ints (Insts.sel l 10)).length c2) (ListS.ints (Insts.sel l 10)).length (ListS.ints (Insts.sel l 10))) := by
      have h := ListS.row_below (ListS.below_grownN w2 n3) (row_mono R2.out (Nat.zero_le _))
      show World.ownsRow _ _ _ _ _ _ _
      rw [ListS.ints_len]
      exact h
    go_wp2_with fail
    have hmk := ListS.markIntS_any (.slice (some ⟨g2, 0, none⟩) (ListS.ints (Insts.sel l 10)).length c2) (ListS.ints (Insts.sel l 10)) 1 (w2.drewN n3) (by decide) (by rw [ListS.ints_len]; exact hnn.out) R2d.out
    rw [ListS.ints_len] at hmk
    refine hmk.mono ?_
    clear hmk
    rintro e w4 ⟨rfl, hm, hg⟩
    have M4 := hid hm
    have hz4 : w2.heap.size ≤ w4.heap.size := hg.size
    have R14 := hid (ListS.row_grown hg (ListS.row_below (ListS.below_grownN w2 n3) R12.out) (fun g h => by simp [Value.ownBlock] at h; subst h; simp [Value.ownBlock]; omega))
    have B4 : Hid (Below w.heap.size w w4) := (below_drewN B2.out n3).grown hg (by show w.heap.size ≤ w2.heap.size; omega) (fun g h => by simp [Value.ownBlock] at h; omega)
    have hneg : ¬ (((1 + (Insts.sel l 10).length : Nat) : Int) < 0) := by omega
    have hsame : (((1 + (Insts.sel l 10).length : Nat) : Int) != ((1 + (Insts.sel l 10).length : Nat) : Int)) = false := by simp
    clear hm hg
    go_wp2_with fail
    refine (ListS.heldIntS_same _ 1 (Insts.sel l 10).length w4 _ (by decide) hnn.out M4.out).mono ?_
    rintro e w5 ⟨rfl, rfl⟩
    have M5 := M4
    have R15 := R14
    have B5 := B4
    have hz5 : w4.heap.size ≤ w4.heap.size := Nat.le_refl _
    clear M4 R14 B4
    go_wp2_with fail
    refine (Insts.InstancesIn_impl l _ (by omega)).mono ?_
    rintro e w6 ⟨g6, c6, rfl, hr6, hb⟩
    have R6 := hid hr6
    have R16 := hid (ListS.row_below hb R15.out)
    have M6 := hid (ListS.row_below hb M5.out)
    have B6 : Hid (Below w.heap.size w w6) := B5.out.trans (hb.mono (by omega))
    have hz6 := hb.size
    clear hr6 hb
    go_wp2_with fail
    refine (ListS.eqIntS_same _ _ (Insts.sel l 10) _ _ _ hnn.out R6.out R16.out).mono ?_
    rintro e w7 ⟨rfl, n7, rfl⟩
    have M7 := hid (ListS.row_below (ListS.below_grownN w6 n7) M6.out)
    go_wp2_with fail
    refine (ListS.heldIntS_same _ 1 (Insts.sel l 10).length (w6.drewN n7) _ (by decide) hnn.out M7.out).mono ?_
    rintro e w8 ⟨rfl, rfl⟩
    go_wp2
    go_ret
    exact ⟨rfl, below_drewN B6.out n7⟩

theorem lifted (os : Os) (started : os.Started) (H : Type) (enc : TypeId × Value → H) :
    ReturnsInHanded {} Tryd.checked os 3 .any (fun w args => (Rows.fnExactInstancesInSpec.pre enc Tryd.prog Tryd.f3 Rows.fnExactInstancesInRow.domain false w args ∧ laidMetH Tryd.prog Rows.fnExactInstancesInRow.laid w) ∧ sizedMet enc Tryd.prog Tryd.f3 (OpenSpec.ofChange Rows.fnExactInstancesInSpec) false w args) (Rows.fnExactInstancesInSpec.post enc Tryd.prog Tryd.f3 false true false false) := by
  refine returnsInHanded_of_change_and (C := Tryd.checked) (X := fun w _ => laidMetH Tryd.prog Rows.fnExactInstancesInRow.laid w) (fun _ _ _ hh h => h.of_heap hh) own started (by kernel_rfl) Tryd.func3
    (ChangeSpec.witness_shaped (enc := enc) (C := Tryd.checked) (os := os) (X := fun w _ => laidMetH Tryd.prog Rows.fnExactInstancesInRow.laid w) false (World.laidAll Tryd.prog os Rows.fnExactInstancesInRow.laid) #[.string ByteArray.empty] 8 (World.laidAll_os _ _ _)
      (World.shaped_of_ZipB (by kernel_rfl) (by kernel_rfl)) (by kernel_rfl) (by kernel_rfl) (by kernel_rfl)
      (by rw [MakeChecks.laidMetH_plain _ _ _ (by kernel_rfl)]; exact laidMet_laidAll _ (by kernel_rfl) (by kernel_rfl))) ?_
  intro W base args ds gs before hval0 hW hcnd _ _ _
  have hval : ∀ (j : Nat) t v, Tryd.f3.params[j]? = some t → args[j]? = some v → Value.okWide Tryd.prog W .any base t v := hval0
  have hW' := hW
  obtain ⟨p, q, hA0, hV, rfl, hfz, hnd⟩ := hW
  have hA : DataW.TrodAll enc Tryd.prog W 0 (fun _ => true) true Tryd.f3.params.toList args.toList ds p := hA0
  rw [Tryd.params3] at hA hval
  have hL := DataW.TrodAll.lt hA
  obtain ⟨v0, vs0, d0, ds0, p0, q0, hargs, rfl, rfl, h0, r0⟩ := trodAll_cons hA
  obtain ⟨rfl, rfl, rfl⟩ := trodAll_nil r0
  obtain rfl : args = #[v0] := by cases args; simp_all
  obtain ⟨rfl, rfl⟩ := trodVars_none hV
  have k0 := h0
  have l0 : ∀ x ∈ p0, x.block < W.heap.size := fun x hx => hL x (by simp [hx])
  obtain ⟨a0, rfl, -, -, w0⟩ := open_string Tryd.underlying9 (hval 0 9 v0 rfl rfl) h0
  clear hA0 hval0
  simp only [List.append_nil] at hW'
  refine (walk a0 w0 W).mono fun e W' ⟨he, bel⟩ => ?_
  subst he
  exact ⟨_, rfl, _, _, _, [], _, [], hW', (trodAll_cons_mk (shut_bool Tryd.underlying4 _) trodAll_mk0), (trodAll_cons_mk (Below.trod laidOut (by kernel_rfl) (of_decide_eq_true (by kernel_rfl)) k0 bel l0) trodAll_mk0), rfl, bel.frame _, fun h => by cases h⟩
theorem e1 : Rows.fnExactInstancesInRow.lifted = Rows.fnExactInstancesInRow.lifted := rfl
theorem e2 : Rows.fnExactInstancesInRow.make = Rows.fnExactInstancesInRow.make := rfl
theorem e3 : Rows.fnExactInstancesInRow.plainKeys = Rows.fnExactInstancesInRow.plainKeys := rfl
theorem facts : joinedFacts Tryd.pinned.checked.prog 3 Tryd.f3 Rows.fnExactInstancesInSpec Rows.fnExactInstancesInRow = true := by
  refine Facts.joined e1 e2 e3 ?_ ?_ ?_ ?_ ?_ ?_ ?_ ?_ ?_ ?_ ?_ ?_ ?_ ?_ ?_ ?_ ?_ ?_ ?_ ?_ ?_ ?_ ?_
  all_goals as_aux_lemma => kernel_rfl
theorem over : Rows.fnExactInstancesInRow.holds Tryd.pinned (OpenSpec.ofChange Rows.fnExactInstancesInSpec) :=
  OpenClaim.holds_of_wide 3 Tryd.f3 rfl rfl rfl rfl rfl rfl rfl ⟨rfl, rfl, rfl, rfl, rfl⟩ rfl rfl rfl rfl rfl (by kernel_rfl) Tryd.func3 facts
    (of_decide_eq_true (by kernel_rfl)) (by unfold Func.isWrapper; first | (rw [if_pos (by decide +kernel)]; kernel_rfl) | (rw [if_neg (by decide +kernel)]; exact ⟨rfl, rfl⟩))
    (fun os started H enc _ => lifted os started H enc)
end Go.Proofs.YtlckalgdfbpejaaDoor.fnExactInstancesIn
namespace Go.Proofs.YtlckalgdfbpejaaDoor
theorem fnExactInstancesIn_holds : Rows.FnExactInstancesInCardSaid :=
  Claim7.holds_tied_plain_at .later [] Rows.fnExactInstancesInCard.laidKinds true Rows.fnExactInstancesInCard.stood.harness Rows.fnExactInstancesInCard.stood.looks
    fnExactInstancesIn.over (fun _ h => by cases h) (by kernel_rfl) (fun _ h => by cases h) fnExactInstancesIn_row_tie rfl ⟨rfl, rfl⟩ (by kernel_rfl) rfl
    (fun f fn hf hfn => by
      obtain rfl : f = 3 := Option.some.inj ((show Tryd.prog.funcNamed "loop.example/instancesearch/laws.FnExactInstancesIn" = some 3 by kernel_rfl).symm.trans hf) |>.symm
      obtain rfl : fn = Tryd.f3 := (Option.some.inj (Tryd.func3.symm.trans hfn)).symm
      exact ⟨by kernel_rfl, fun j t ht => by
        rw [Tryd.params3] at ht
        have hm := Array.mem_of_getElem? ht
        have hall : (Tryd.f3.params.all fun u => !Tryd.prog.wantsStandIn u) = true := by kernel_rfl
        rw [Tryd.params3] at hall
        have := Array.all_eq_true'.1 hall t hm
        exact (show Tryd.prog.wantsStandIn t = false by simpa using this)⟩)
    (by kernel_rfl)
end Go.Proofs.YtlckalgdfbpejaaDoor
