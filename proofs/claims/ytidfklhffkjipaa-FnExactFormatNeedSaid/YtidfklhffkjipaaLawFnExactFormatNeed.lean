/- FnExactFormatNeed answers true for every input: the program's FormatNeed returns what the reference's returns. Conditions: none. -/
import Derived.Test.YtidfklhffkjipaaNeed
import Derived.Test.YtidfklhffkjipaaRows
import Derived.WalkKit
import Derived.ProofKit
import Derived.OpenShut
import Derived.ShutString
import Derived.ChangeOld
import Derived.Below
import Derived.Carry
import Derived.Lib.SmallJoins
set_option linter.unusedVariables false
set_option linter.unusedSimpArgs false
set_option maxRecDepth 100000
namespace Go.Proofs.Ytidfklhffkjipaa.fnExactFormatNeed
open Go.ChangeShapes Go.WideShapes Go.ChangeAt Go.RowKit Go.Joins Ty
open Go.ChangeMaps (open_string shut_string)

theorem own : ownKnob Try.prog.godebug = none := by kernel_rfl
theorem laidOut : laidOutB Try.prog = true := by kernel_rfl
theorem bytes (s : ByteArray) : ∃ l : List UInt8, s = ⟨l.toArray⟩ ∧ s.size = l.length := ⟨s.data.toList, rfl, by simp⟩

theorem walk (a0 b0 : ByteArray) (w0 : a0.size ≤ maxLen) (u0 : b0.size ≤ maxLen) (w : World) :
    Calls Try.prog 4 #[.agg #[.string a0, .string b0]] w fun e w' => e = .returned (.bool true) ∧ Below w.heap.size w w' := by
  by_cases h : (a0.size : Int) + b0.size ≤ 1048576
  · have hn : ¬ (1048576 - (a0.size : Int) - b0.size < 0) := by omega
    go_enter Try.func4, Try.ntmps4
    go_wp2_with fail
    refine (szNeed_ok a0 b0 _ _ (by omega) h).mono ?_
    rintro e w1 ⟨rfl, hb⟩
    have bx0 := below_heap hb (by first | (simp; done) | (simp; omega) | omega) (heap_alloc_new _ _)
    have kx0_0 : w1.cell? ⟨w.heap.size, 0, none⟩ = some (.string a0) := heap_cell bx0 0
    have kx0_1 : w1.cell? ⟨w.heap.size, 1, none⟩ = some (.string b0) := heap_cell bx0 1
    have Bx0_1 := hid bx0
    clear bx0
    have hz1 := hb.size
    (try simp only [World.size_alloc] at hz1)
    have BL1 : Hid (Below w.heap.size w w1) := ((Below.refl _ _).alloc (Nat.le_refl _) _).trans (hb.mono (by first | (simp; done) | (simp; omega) | omega))
    clear hb
    go_wp2_with fail
    refine (toNeed_any a0 b0 _).mono ?_
    rintro e w2 ⟨rfl, hb⟩
    have bx0 := below_heap hb (by first | (simp; done) | (simp; omega) | omega) (Bx0_1.out)
    have kx0_0 : w2.cell? ⟨w.heap.size, 0, none⟩ = some (.string a0) := heap_cell bx0 0
    have kx0_1 : w2.cell? ⟨w.heap.size, 1, none⟩ = some (.string b0) := heap_cell bx0 1
    have Bx0_2 := hid bx0
    clear bx0
    have hz2 := hb.size
    (try simp only [World.size_alloc] at hz2)
    have BL2 : Hid (Below w.heap.size w w2) := BL1.out.trans (hb.mono (by first | (simp; done) | (simp; omega) | omega))
    clear hb
    go_wp2_with fail
    refine (FormatNeed_spec a0 b0 _ (by omega)).mono ?_
    rintro e w3 ⟨rfl, hb⟩
    have bx0 := below_heap hb (by first | (simp; done) | (simp; omega) | omega) (Bx0_2.out)
    have kx0_0 : w3.cell? ⟨w.heap.size, 0, none⟩ = some (.string a0) := heap_cell bx0 0
    have kx0_1 : w3.cell? ⟨w.heap.size, 1, none⟩ = some (.string b0) := heap_cell bx0 1
    have Bx0_3 := hid bx0
    clear bx0
    have hz3 := hb.size
    (try simp only [World.size_alloc] at hz3)
    have BL3 : Hid (Below w.heap.size w w3) := BL2.out.trans (hb.mono (by first | (simp; done) | (simp; omega) | omega))
    clear hb
    go_wp2_with fail
    refine (toNeed_any a0 b0 _).mono ?_
    rintro e w4 ⟨rfl, hb⟩
    have bx0 := below_heap hb (by first | (simp; done) | (simp; omega) | omega) (Bx0_3.out)
    have kx0_0 : w4.cell? ⟨w.heap.size, 0, none⟩ = some (.string a0) := heap_cell bx0 0
    have kx0_1 : w4.cell? ⟨w.heap.size, 1, none⟩ = some (.string b0) := heap_cell bx0 1
    have Bx0_4 := hid bx0
    clear bx0
    have hz4 := hb.size
    (try simp only [World.size_alloc] at hz4)
    have BL4 : Hid (Below w.heap.size w w4) := BL3.out.trans (hb.mono (by first | (simp; done) | (simp; omega) | omega))
    clear hb
    go_wp2_with fail
    refine (FormatNeed_impl a0 b0 _ (by omega)).mono ?_
    rintro e w5 ⟨rfl, hb⟩
    have bx0 := below_heap hb (by first | (simp; done) | (simp; omega) | omega) (Bx0_4.out)
    have kx0_0 : w5.cell? ⟨w.heap.size, 0, none⟩ = some (.string a0) := heap_cell bx0 0
    have kx0_1 : w5.cell? ⟨w.heap.size, 1, none⟩ = some (.string b0) := heap_cell bx0 1
    have Bx0_5 := hid bx0
    clear bx0
    have hz5 := hb.size
    (try simp only [World.size_alloc] at hz5)
    have BL5 : Hid (Below w.heap.size w w5) := BL4.out.trans (hb.mono (by first | (simp; done) | (simp; omega) | omega))
    clear hb
    go_wp2
    go_ret
    exact ⟨rfl, BL5.out⟩
  · go_enter Try.func4, Try.ntmps4
    go_wp2_with (first
      | (go_at_call 15; refine (szNeed_no a0 b0 _ _ w0 u0 (by omega) (by omega) (by omega)).mono ?_; rintro e w1 ⟨rfl, hb⟩; have HB1 := hid hb; clear hb))
    go_ret
    exact ⟨rfl, ((Below.refl _ _).alloc (Nat.le_refl _) _).trans (HB1.out.mono (by simp))⟩

theorem lifted (os : Os) (started : os.Started) (H : Type) (enc : TypeId × Value → H) :
    ReturnsInHanded {} Try.checked os 4 .any (Rows.fnExactFormatNeedSpec.pre6 enc Try.prog Try.f4 Rows.fnExactFormatNeedRow.domain false) (Rows.fnExactFormatNeedSpec.post enc Try.prog Try.f4 false true false false) := by
  refine returnsInHanded_of_change (C := Try.checked) own started (by kernel_rfl) Try.func4
    (ChangeSpec.witness6 (enc := enc) (C := Try.checked) false ⟨#[], #[.agg #[.string ByteArray.empty, .string ByteArray.empty]], []⟩ 8 (by kernel_rfl) (by kernel_rfl) (by kernel_rfl) (by kernel_rfl)) ?_
  intro W base args ds gs before hval0 hW hcnd _
  have hval : ∀ (j : Nat) t v, Try.f4.params[j]? = some t → args[j]? = some v → Value.okWide Try.prog W .any base t v := hval0
  have hW' := hW
  obtain ⟨p, q, hA0, hV, rfl, hfz, hnd⟩ := hW
  have hA : DataW.TrodAll enc Try.prog W 0 (fun _ => true) true Try.f4.params.toList args.toList ds p := hA0
  rw [Try.params4] at hA hval
  have hL := DataW.TrodAll.lt hA
  obtain ⟨v0, vs0, d0, ds0, p0, q0, hargs, rfl, rfl, h0, r0⟩ := trodAll_cons hA
  obtain ⟨rfl, rfl, rfl⟩ := trodAll_nil r0
  obtain rfl : args = #[v0] := by cases args; simp_all
  obtain ⟨rfl, rfl⟩ := trodVars_none hV
  have k0 := h0
  have l0 : ∀ x ∈ p0, x.block < W.heap.size := fun x hx => hL x (by simp [hx])
  obtain ⟨c0, e0, y0, z0, m0, rfl, -, -, hy0, hz0⟩ := open_agg2 Try.underlying24 (by kernel_rfl) (by kernel_rfl) (hval 0 24 v0 rfl rfl) h0
  obtain ⟨a0, f0, -, w0⟩ := DataW.trod_string Try.underlying9 hy0
  obtain ⟨b0, g0, -, u0⟩ := DataW.trod_string Try.underlying9 hz0
  obtain rfl : c0 = .string a0 := by simpa using f0
  obtain rfl : e0 = .string b0 := by simpa using g0
  clear hA0 hval0
  simp only [List.append_nil] at hW'
  refine (walk a0 b0 w0 u0 W).mono fun e W' ⟨he, bel⟩ => ?_
  subst he
  exact ⟨_, rfl, _, _, _, [], _, [], hW', (trodAll_cons_mk (shut_bool Try.underlying4 _) trodAll_mk0), (trodAll_cons_mk (Below.trod laidOut (by kernel_rfl) (of_decide_eq_true (by kernel_rfl)) k0 bel l0) trodAll_mk0), rfl, bel.frame _, fun h => by cases h⟩
theorem over : Rows.fnExactFormatNeedRow.holds Try.pinned (OpenSpec.ofChange Rows.fnExactFormatNeedSpec) :=
  OpenClaim.holds_of_wide 4 Try.f4 rfl rfl rfl rfl rfl rfl rfl ⟨rfl, rfl, rfl, rfl, rfl⟩ rfl rfl rfl rfl rfl (by kernel_rfl) Try.func4 (by kernel_rfl)
    (of_decide_eq_true (by kernel_rfl)) (by unfold Func.isWrapper; first | (rw [if_pos (by decide +kernel)]; kernel_rfl) | (rw [if_neg (by decide +kernel)]; exact ⟨rfl, rfl⟩))
    (fun os started H enc _ => lifted os started H enc)
end Go.Proofs.Ytidfklhffkjipaa.fnExactFormatNeed
namespace Go.Proofs.Ytidfklhffkjipaa
theorem fnExactFormatNeed_holds : Rows.FnExactFormatNeedSaid := fnExactFormatNeed.over
end Go.Proofs.Ytidfklhffkjipaa
