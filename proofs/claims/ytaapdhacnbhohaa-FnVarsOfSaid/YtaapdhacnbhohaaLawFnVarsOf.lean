/- FnVarsOf answers true for every input: each variable of a drawn type stands in it at least once, together no more often than there are letters; both programs answer alike. Conditions: none. -/
import Derived.Test.YtaapdhacnbhohaaDrawV
import Derived.Test.YtaapdhacnbhohaaVSum
import Derived.Test.YtaapdhacnbhohaaGround
import Derived.Test.YtaapdhacnbhohaaRows
import Derived.Test.YtaapdhacnbhohaaFacts
import Derived.WalkKit
import Derived.ProofKit
import Derived.OpenShut
import Derived.ShutString
import Derived.ChangeOld
import Derived.Below
import Derived.Carry
import Derived.Lib.SmallJoins
set_option linter.unusedVariables false
set_option linter.unusedSimpArgs false
set_option maxRecDepth 100000
namespace Go.Proofs.Ytaapdhacnbhohaa.fnVarsOf
open Go.ChangeShapes Go.WideShapes Go.ChangeAt Go.RowKit Go.Joins Ty
open Go.ChangeMaps (open_string shut_string)

theorem own : ownKnob Try.prog.godebug = none := by kernel_rfl
theorem laidOut : laidOutB Try.prog = true := by kernel_rfl
theorem bytes (s : ByteArray) : ∃ l : List UInt8, s = ⟨l.toArray⟩ ∧ s.size = l.length := ⟨s.data.toList, rfl, by simp⟩
set_option maxHeartbeats 8000000 in
theorem walk (w : World) (v0 : Value) (xs0 : List Int) (s0 : Draw.SB w v0 xs0) (v1 : Value) (xs1 : List Int) (s1 : Draw.SB w v1 xs1) :
    Calls Try.prog 3 #[v0, v1] w fun e w' => e = .returned (.bool true) ∧ Below w.heap.size w w' := by
  obtain ⟨a0, c0, rfl⟩ := Draw.sb_slice s0
  obtain ⟨a1, c1, rfl⟩ := Draw.sb_slice s1
  by_cases hl0 : 1048576 < xs0.length
  · have hl0' : (xs0.length : Int) > 1048576 := by omega
    go_enter Try.func3, Try.ntmps3
    go_wp2
    go_ret
    exact ⟨rfl, Below.refl _ _⟩
  by_cases hl1 : 1048576 < xs1.length
  · have hl0' : ¬ (xs0.length : Int) > 1048576 := by omega
    have hl1' : (xs1.length : Int) > 1048576 := by omega
    go_enter Try.func3, Try.ntmps3
    go_wp2
    go_ret
    exact ⟨rfl, Below.refl _ _⟩
  have hl0' : ¬ (xs0.length : Int) > 1048576 := by omega
  have hl1' : ¬ (xs1.length : Int) > 1048576 := by omega
  have S0 := hid s0
  have S1 := hid s1
  have B : Hid (Below w.heap.size w w) := Below.refl _ _
  clear s0 s1
  go_enter Try.func3, Try.ntmps3
  go_wp2_with fail
  refine (Draw.DrawVarsOf_any _ xs0 w S0.out).mono ?_
  rintro e w1 ⟨s, rfl, -, hs, hb⟩
  replace B : Hid (Below w.heap.size w w1) := B.out.trans (hb.mono B.out.size)
  replace S1 : Hid (Draw.SB w1 (.slice a1 xs1.length c1) xs1) := S1.out.below hb
  clear hb 
  obtain ⟨l, rfl, hz⟩ := bytes s
  have hl : l.length ≤ 2147483648 := by omega
  have hl2 : l.length + 4 ≤ maxLen := by unfold maxLen; omega
  clear hz hs S0
  go_wp2_with fail
  refine (VarsOf_impl l w1 hl).mono ?_
  rintro e w2 ⟨rfl, hb⟩
  replace B : Hid (Below w.heap.size w w2) := B.out.trans (hb.mono B.out.size)
  replace S1 : Hid (Draw.SB w2 (.slice a1 xs1.length c1) xs1) := S1.out.below hb
  clear hb 
  go_wp2_with fail
  refine (VarsOf_spec l w2 hl).mono ?_
  rintro e w3 ⟨rfl, hb⟩
  replace B : Hid (Below w.heap.size w w3) := B.out.trans (hb.mono B.out.size)
  replace S1 : Hid (Draw.SB w3 (.slice a1 xs1.length c1) xs1) := S1.out.below hb
  clear hb 
  go_wp2_with fail
  refine (IsGround_impl l w3 hl).mono ?_
  rintro e w4 ⟨rfl, hb⟩
  replace B : Hid (Below w.heap.size w w4) := B.out.trans (hb.mono B.out.size)
  replace S1 : Hid (Draw.SB w4 (.slice a1 xs1.length c1) xs1) := S1.out.below hb
  clear hb 
  go_wp2_with fail
  refine (IsGround_spec l w4 hl).mono ?_
  rintro e w5 ⟨rfl, hb⟩
  replace B : Hid (Below w.heap.size w w5) := B.out.trans (hb.mono B.out.size)
  replace S1 : Hid (Draw.SB w5 (.slice a1 xs1.length c1) xs1) := S1.out.below hb
  clear hb 
  go_wp2_with fail
  refine (SizeOf_impl l w5 hl).mono ?_
  rintro e w6 ⟨rfl, hb⟩
  replace B : Hid (Below w.heap.size w w6) := B.out.trans (hb.mono B.out.size)
  replace S1 : Hid (Draw.SB w6 (.slice a1 xs1.length c1) xs1) := S1.out.below hb
  clear hb 
  go_wp2_with fail
  refine (SizeOf_spec l w6 hl).mono ?_
  rintro e w7 ⟨rfl, hb⟩
  replace B : Hid (Below w.heap.size w w7) := B.out.trans (hb.mono B.out.size)
  replace S1 : Hid (Draw.SB w7 (.slice a1 xs1.length c1) xs1) := S1.out.below hb
  clear hb 
  go_wp2_with fail
  refine (DepthOf_impl l w7 hl).mono ?_
  rintro e w8 ⟨rfl, hb⟩
  replace B : Hid (Below w.heap.size w w8) := B.out.trans (hb.mono B.out.size)
  replace S1 : Hid (Draw.SB w8 (.slice a1 xs1.length c1) xs1) := S1.out.below hb
  clear hb 
  go_wp2_with fail
  refine (DepthOf_spec l w8 hl).mono ?_
  rintro e w9 ⟨rfl, hb⟩
  replace B : Hid (Below w.heap.size w w9) := B.out.trans (hb.mono B.out.size)
  replace S1 : Hid (Draw.SB w9 (.slice a1 xs1.length c1) xs1) := S1.out.below hb
  clear hb 
  go_wp2_with fail
  refine (Draw.DrawCountVar_any _ xs1 w9 S1.out).mono ?_
  rintro e w10 ⟨s, u, rfl, hs, hu, hb⟩
  replace B : Hid (Below w.heap.size w w10) := B.out.trans (hb.mono B.out.size)
  replace S1 : Hid (Draw.SB w10 (.slice a1 xs1.length c1) xs1) := S1.out.below hb
  clear hb 
  clear S1
  obtain ⟨m, rfl, hz⟩ := bytes s
  obtain ⟨n, rfl, hz2⟩ := bytes u
  have hml : m.length ≤ 2147483648 := by omega
  have hnl : n.length ≤ 2147483648 := by omega
  clear hz hz2 hs hu
  go_wp2_with fail
  refine (CountVar_impl m n w10 hml hnl).mono ?_
  rintro e w11 ⟨rfl, hb⟩
  replace B : Hid (Below w.heap.size w w11) := B.out.trans (hb.mono B.out.size)
  clear hb 
  go_wp2_with fail
  refine (CountVar_spec m n w11 hml hnl).mono ?_
  rintro e w12 ⟨rfl, hb⟩
  replace B : Hid (Below w.heap.size w w12) := B.out.trans (hb.mono B.out.size)
  clear hb 
  clear hml hnl
  go_wp2_with fail
  have hv6 := varsL_len l
  go_loopg [9, 63] (varsL l).length (fun q sm i wr => ∃ k : Nat, k ≤ (varsL l).length ∧ (varsL l).length - k ≤ q ∧ i = .int .i64 k ∧ sm = .int .i64 (VSum.part l k) ∧ Below w.heap.size w wr)
  case atStart => exact ⟨0, Nat.zero_le _, by simp, rfl, rfl, B.out⟩
  case round =>
    clear B
    obtain ⟨k, hk, hq, rfl, rfl, hb⟩ := hrel
    have HB := hid hb
    clear hb
    by_cases hlt : k < (varsL l).length
    · obtain ⟨c, hc⟩ : ∃ c, (varsL l)[k]? = some c := ⟨_, List.getElem?_eq_getElem hlt⟩
      have hx := Draw.run_one _ _ _ hc
      obtain ⟨hcc, hc1⟩ := VSum.count_at hc
      have HP := hid (VSum.part_step hc)
      have hpb : VSum.part l (k + 1) ≤ 1000000 := VSum.part_small l (k + 1)
      have HCC := hid hcc
      clear hc hcc
      go_wp2_with fail
      refine (show Calls Try.prog _ #[_, .string ⟨#[c]⟩] wr _ from CountVar_impl l [c] wr hl (by simp)).mono ?_
      rintro e w1 ⟨rfl, hb⟩
      rw [HCC.out]
      have HB1 : Hid (Below w.heap.size w w1) := HB.out.trans (hb.mono HB.out.size)
      clear hb hx
      have hge : ¬ ((l.count c : Nat) : Int) < 1 := by omega
      have hsm : VSum.part l k + l.count c ≤ 1000000 := by rw [← HP.out]; exact hpb
      clear hpb
      go_wp2_with fail
      go_roundg ((varsL l).length - (k + 1))
      case measure => omega
      case rel => exact ⟨k + 1, by omega, by omega, by go_num, by rw [HP.out]; go_num, HB1.out⟩
    · have hke : k = (varsL l).length := by omega
      subst hke
      clear hlt hq hk
      have HG1 := hid (fun x => IsGround_impl l x hl)
      have HT1 := hid (fun x => TypeValid_impl l x hl2)
      have HZ1 := hid (fun x => SizeOf_impl l x hl)
      have hps : (VSum.part l (varsL l).length : Int) ≤ 1000000 := by have := VSum.part_small l (varsL l).length; omega
      obtain ⟨P, hP⟩ : ∃ P, P = VSum.part l (varsL l).length := ⟨_, rfl⟩
      rw [← hP] at hps
      rw [← hP]
      cases ht : ty l with
      | none =>
        have hv := VSum.vars_none ht
        have hg : groundB l = false := by unfold groundB; rw [ht]; rfl
        rw [ht] at HT1
        rw [hg] at HG1
        have hvi : (varsL l).isEmpty = true := by rw [hv]; rfl
        clear hv hg hP
        have B := HB
        clear HB
        go_wp2_with fail
        refine (HG1.out wr).mono ?_
        rintro e w21 ⟨rfl, hb⟩
        replace B : Hid (Below w.heap.size w w21) := B.out.trans (hb.mono B.out.size)
        clear hb 
        go_wp2_with fail
        refine (HT1.out w21).mono ?_
        rintro e w22 ⟨rfl, hb⟩
        replace B : Hid (Below w.heap.size w w22) := B.out.trans (hb.mono B.out.size)
        clear hb 
        go_wp2_with fail
        refine (HT1.out w22).mono ?_
        rintro e w23 ⟨rfl, hb⟩
        replace B : Hid (Below w.heap.size w w23) := B.out.trans (hb.mono B.out.size)
        clear hb 
        go_wp2_with fail
        refine (HT1.out w23).mono ?_
        rintro e w24 ⟨rfl, hb⟩
        replace B : Hid (Below w.heap.size w w24) := B.out.trans (hb.mono B.out.size)
        clear hb 
        go_wp2
        go_ret
        exact ⟨rfl, B.out⟩
      | some t =>
        have hpl := VSum.part_le ht
        rw [← hP] at hpl
        rw [ht] at HT1
        obtain ⟨b, hb⟩ : ∃ b, b = (varsL l).isEmpty := ⟨_, rfl⟩
        have hg : groundB l = b := by unfold groundB; rw [ht, hb]; rfl
        rw [hg] at HG1
        obtain ⟨z, hz⟩ : ∃ z, z = sizeI l := ⟨_, rfl⟩
        rw [← hz] at HZ1 hpl
        have hvi : (varsL l).isEmpty = b := hb.symm
        have HPL := hid hpl
        clear hg hP hb hz hpl
        have hpl : (P : Int) ≤ z := HPL.out
        cases b with
        | true =>
          have B := HB
          clear HB
          go_wp2_with fail
          refine (HG1.out wr).mono ?_
          rintro e w21 ⟨rfl, hb⟩
          replace B : Hid (Below w.heap.size w w21) := B.out.trans (hb.mono B.out.size)
          clear hb 
          go_wp2_with fail
          refine (HT1.out w21).mono ?_
          rintro e w22 ⟨rfl, hb⟩
          replace B : Hid (Below w.heap.size w w22) := B.out.trans (hb.mono B.out.size)
          clear hb 
          go_wp2_with fail
          refine (HT1.out w22).mono ?_
          rintro e w23 ⟨rfl, hb⟩
          replace B : Hid (Below w.heap.size w w23) := B.out.trans (hb.mono B.out.size)
          clear hb 
          go_wp2_with fail
          refine (HZ1.out w23).mono ?_
          rintro e w24 ⟨rfl, hb⟩
          replace B : Hid (Below w.heap.size w w24) := B.out.trans (hb.mono B.out.size)
          clear hb 
          go_wp2_with fail
          refine (HT1.out w24).mono ?_
          rintro e w25 ⟨rfl, hb⟩
          replace B : Hid (Below w.heap.size w w25) := B.out.trans (hb.mono B.out.size)
          clear hb 
          go_wp2
          go_ret
          exact ⟨rfl, B.out⟩
        | false =>
          have B := HB
          clear HB
          go_wp2_with fail
          refine (HG1.out wr).mono ?_
          rintro e w21 ⟨rfl, hb⟩
          replace B : Hid (Below w.heap.size w w21) := B.out.trans (hb.mono B.out.size)
          clear hb 
          go_wp2_with fail
          refine (HT1.out w21).mono ?_
          rintro e w22 ⟨rfl, hb⟩
          replace B : Hid (Below w.heap.size w w22) := B.out.trans (hb.mono B.out.size)
          clear hb 
          go_wp2_with fail
          refine (HT1.out w22).mono ?_
          rintro e w23 ⟨rfl, hb⟩
          replace B : Hid (Below w.heap.size w w23) := B.out.trans (hb.mono B.out.size)
          clear hb 
          go_wp2_with fail
          refine (HZ1.out w23).mono ?_
          rintro e w24 ⟨rfl, hb⟩
          replace B : Hid (Below w.heap.size w w24) := B.out.trans (hb.mono B.out.size)
          clear hb 
          go_wp2_with fail
          refine (HT1.out w24).mono ?_
          rintro e w25 ⟨rfl, hb⟩
          replace B : Hid (Below w.heap.size w w25) := B.out.trans (hb.mono B.out.size)
          clear hb 
          go_wp2
          go_ret
          exact ⟨rfl, B.out⟩

theorem lifted (os : Os) (started : os.Started) (H : Type) (enc : TypeId × Value → H) :
    ReturnsInHanded {} Try.checked os 3 .any (Rows.fnVarsOfSpec.pre6 enc Try.prog Try.f3 Rows.fnVarsOfRow.domain false) (Rows.fnVarsOfSpec.post enc Try.prog Try.f3 false true false false) := by
  refine returnsInHanded_of_change (C := Try.checked) own started (by kernel_rfl) Try.func3
    (ChangeSpec.witness6 (enc := enc) (C := Try.checked) false ⟨#[], #[.slice none 0 0, .slice none 0 0], []⟩ 8 (by kernel_rfl) (by kernel_rfl) (by kernel_rfl) (by kernel_rfl)) ?_
  intro W base args ds gs before hval0 hW hcnd _
  have hval : ∀ (j : Nat) t v, Try.f3.params[j]? = some t → args[j]? = some v → Value.okWide Try.prog W .any base t v := hval0
  have hW' := hW
  obtain ⟨p, q, hA0, hV, rfl, hfz, hnd⟩ := hW
  have hA : DataW.TrodAll enc Try.prog W 0 (fun _ => true) true Try.f3.params.toList args.toList ds p := hA0
  rw [Try.params3] at hA hval
  have hL := DataW.TrodAll.lt hA
  obtain ⟨v0, vs0, d0, ds0, p0, q0, hargs, rfl, rfl, h0, r0⟩ := trodAll_cons hA
  obtain ⟨v1, vs1, d1, ds1, p1, q1, rfl, rfl, rfl, h1, r1⟩ := trodAll_cons r0
  obtain ⟨rfl, rfl, rfl⟩ := trodAll_nil r1
  obtain rfl : args = #[v0, v1] := by cases args; simp_all
  obtain ⟨rfl, rfl⟩ := trodVars_none hV
  have k0 := h0
  have l0 : ∀ x ∈ p0, x.block < W.heap.size := fun x hx => hL x (by simp [hx])
  have k1 := h1
  have l1 : ∀ x ∈ p1, x.block < W.heap.size := fun x hx => hL x (by simp [hx])
  obtain ⟨xs0, s0⟩ := Draw.open_sb Try.underlying22 Try.underlying5 (by kernel_rfl) (hval 0 22 v0 rfl rfl) h0
  obtain ⟨xs1, s1⟩ := Draw.open_sb Try.underlying22 Try.underlying5 (by kernel_rfl) (hval 1 22 v1 rfl rfl) h1
  clear hA0 hval0
  simp only [List.append_nil] at hW'
  refine (walk W _ _ s0 _ _ s1).mono fun e W' ⟨he, bel⟩ => ?_
  subst he
  exact ⟨_, rfl, _, _, _, [], _, [], hW', (trodAll_cons_mk (shut_bool Try.underlying4 _) trodAll_mk0), (trodAll_cons_mk (Below.trod laidOut (by kernel_rfl) (of_decide_eq_true (by kernel_rfl)) k0 bel l0) (trodAll_cons_mk (Below.trod laidOut (by kernel_rfl) (of_decide_eq_true (by kernel_rfl)) k1 bel l1) trodAll_mk0)), rfl, bel.frame _, fun h => by cases h⟩
theorem e1 : Rows.fnVarsOfRow.lifted = Rows.fnVarsOfRow.lifted := rfl
theorem e2 : Rows.fnVarsOfRow.make = Rows.fnVarsOfRow.make := rfl
theorem e3 : Rows.fnVarsOfRow.plainKeys = Rows.fnVarsOfRow.plainKeys := rfl
theorem facts : joinedFacts Try.pinned.checked.prog 3 Try.f3 Rows.fnVarsOfSpec Rows.fnVarsOfRow = true := by
  refine Facts.joined e1 e2 e3 ?_ ?_ ?_ ?_ ?_ ?_ ?_ ?_ ?_ ?_ ?_ ?_ ?_ ?_ ?_ ?_ ?_ ?_ ?_ ?_ ?_ ?_ ?_
  all_goals as_aux_lemma => kernel_rfl
theorem over : Rows.fnVarsOfRow.holds Try.pinned (OpenSpec.ofChange Rows.fnVarsOfSpec) :=
  OpenClaim.holds_of_wide 3 Try.f3 rfl rfl rfl rfl rfl rfl rfl ⟨rfl, rfl, rfl, rfl, rfl⟩ rfl rfl rfl rfl rfl (by kernel_rfl) Try.func3 facts
    (of_decide_eq_true (by kernel_rfl)) (by unfold Func.isWrapper; first | (rw [if_pos (by decide +kernel)]; kernel_rfl) | (rw [if_neg (by decide +kernel)]; exact ⟨rfl, rfl⟩))
    (fun os started H enc _ => lifted os started H enc)
end Go.Proofs.Ytaapdhacnbhohaa.fnVarsOf
namespace Go.Proofs.Ytaapdhacnbhohaa
theorem fnVarsOf_holds : Rows.FnVarsOfSaid := fnVarsOf.over
end Go.Proofs.Ytaapdhacnbhohaa
