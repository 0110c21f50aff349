/- FnExactFormatInstance answers true for every input: the program's FormatInstance returns what the reference's returns. Conditions: none. -/
import Derived.Test.YtidfklhffkjipaaFmtI
import Derived.Test.YtidfklhffkjipaaInstOpen
import Derived.Test.YtidfklhffkjipaaRows
import Derived.Test.YtidfklhffkjipaaFacts
import Derived.WalkKit
import Derived.ProofKit
import Derived.OpenShut
import Derived.ShutString
import Derived.ChangeOld
import Derived.Below
import Derived.Carry
import Derived.Lib.SmallJoins
set_option linter.unusedVariables false
set_option linter.unusedSimpArgs false
set_option maxRecDepth 100000
namespace Go.Proofs.Ytidfklhffkjipaa.fnExactFormatInstance
open Go.ChangeShapes Go.WideShapes Go.ChangeAt Go.RowKit Go.Joins Ty
open Go.ChangeMaps (open_string shut_string)

theorem own : ownKnob Try.prog.godebug = none := by kernel_rfl
theorem laidOut : laidOutB Try.prog = true := by kernel_rfl
theorem bytes (s : ByteArray) : ∃ l : List UInt8, s = ⟨l.toArray⟩ ∧ s.size = l.length := ⟨s.data.toList, rfl, by simp⟩

theorem walk (w : World) (a0 b0 : ByteArray) (v0 : Value) (xs0 : List BB) (w0 : a0.size ≤ maxLen) (u0 : b0.size ≤ maxLen) (s0 : SP w v0 xs0) :
    Calls Try.prog 10 #[.agg #[.string a0, .string b0, v0]] w fun e w' => e = .returned (.bool true) ∧ Below w.heap.size w w' := by
  obtain ⟨g, n, c, rfl⟩ : ∃ g n c, v0 = .slice g n c := by
    rcases s0 with ⟨rfl, a, cap, rfl⟩ | ⟨b, off, cap, rfl, hn, hc⟩ <;> exact ⟨_, _, _, rfl⟩
  have sA := s0.below (w' := w.alloc (.cells #[.string a0, .string b0, .slice g n c] 41)) ((Below.refl _ _).alloc (Nat.le_refl _) _)
  by_cases h : a0.size + b0.size + tot xs0 + xs0.length ≤ 1048576
  rotate_left
  · have hz : Hid (szI a0 b0 xs0 1048576 = -1) := by show _ = _; unfold szI; rw [if_neg (by omega)]
    have SA := hid sA
    clear sA
    go_enter Try.func10, Try.ntmps10
    go_wp2_with (go_at_call 32; refine (szInstance_any a0 b0 _ xs0 _ _ (by omega) (by omega) w0 u0 SA.out).mono ?_; rintro e w1 ⟨rfl, hb⟩; rw [hz.out]; have HB := hid hb; clear hb)
    go_ret
    exact ⟨rfl, ((Below.refl _ _).alloc (Nat.le_refl _) _).trans (HB.out.mono (by simp))⟩
  · obtain ⟨m, hm, hz⟩ : ∃ m : Nat, m ≤ 1048576 ∧ Hid (szI a0 b0 xs0 1048576 = m) := ⟨1048576 - a0.size - b0.size - xs0.length - tot xs0, by omega, by show _ = _; unfold szI; rw [if_pos (by omega)]; omega⟩
    have hl0 : xs0.length ≤ 1048576 := by omega
    have SA := hid sA
    clear sA
    go_enter Try.func10, Try.ntmps10
    go_wp2_with fail
    refine (szInstance_any a0 b0 _ xs0 _ _ (by omega) (by omega) w0 u0 SA.out).mono ?_
    rintro e w1 ⟨rfl, hb⟩
    have X1 : Hid (w1.heap[w.heap.size]? = some (.cells #[.string a0, .string b0, .slice g n c] 41 (0, 0))) := below_heap hb (by simp) (heap_alloc_new w _)
    have B1 : Hid (Below w.heap.size w w1) := ((Below.refl _ _).alloc (Nat.le_refl _) _).trans (hb.mono (by simp))
    have hz1 : w.heap.size < w1.heap.size := by have := hb.size; simp at this; omega
    have S1 := hid (s0.below B1.out)
    rw [hz.out]
    have k0 : w1.cell? ⟨w.heap.size, 0, none⟩ = some (.string a0) := heap_cell X1.out 0
    have k1 : w1.cell? ⟨w.heap.size, 1, none⟩ = some (.string b0) := heap_cell X1.out 1
    have k2 : w1.cell? ⟨w.heap.size, 2, none⟩ = some (.slice g n c) := heap_cell X1.out 2
    clear hb
    go_wp2_with fail
    refine (toInstance_any a0 b0 _ xs0 _ hl0 S1.out).mono ?_
    rintro e w2 ⟨g2, rfl, -, -, sp2, hb⟩
    have X2 : Hid (w2.heap[w.heap.size]? = some (.cells #[.string a0, .string b0, .slice g n c] 41 (0, 0))) := below_heap hb (by omega) X1.out
    have B2 : Hid (Below w.heap.size w w2) := B1.out.trans (hb.mono (by omega))
    have hz2 : w.heap.size < w2.heap.size := by have := hb.size; omega
    have S2 := hid (s0.below B2.out)
    have P2 := hid sp2
    clear sp2 k0 k1 k2
    clear hb
    go_wp2_with fail
    refine (FmtI.FormatInstance_spec a0 b0 _ xs0 _ h P2.out).mono ?_
    rintro e w3 ⟨rfl, hb⟩
    have X3 : Hid (w3.heap[w.heap.size]? = some (.cells #[.string a0, .string b0, .slice g n c] 41 (0, 0))) := below_heap hb (by omega) X2.out
    have B3 : Hid (Below w.heap.size w w3) := B2.out.trans (hb.mono (by omega))
    have hz3 : w.heap.size < w3.heap.size := by have := hb.size; omega
    have S3 := hid (s0.below B3.out)
    have k0 : w3.cell? ⟨w.heap.size, 0, none⟩ = some (.string a0) := heap_cell X3.out 0
    have k1 : w3.cell? ⟨w.heap.size, 1, none⟩ = some (.string b0) := heap_cell X3.out 1
    have k2 : w3.cell? ⟨w.heap.size, 2, none⟩ = some (.slice g n c) := heap_cell X3.out 2
    clear hb
    go_wp2_with fail
    refine (toInstance_any a0 b0 _ xs0 _ hl0 S3.out).mono ?_
    rintro e w4 ⟨g4, rfl, -, -, sp4, hb⟩
    have X4 : Hid (w4.heap[w.heap.size]? = some (.cells #[.string a0, .string b0, .slice g n c] 41 (0, 0))) := below_heap hb (by omega) X3.out
    have B4 : Hid (Below w.heap.size w w4) := B3.out.trans (hb.mono (by omega))
    have hz4 : w.heap.size < w4.heap.size := by have := hb.size; omega
    have S4 := hid (s0.below B4.out)
    have P4 := hid (sp4.below (w' := w4.alloc (.cells #[.string a0, .string b0, .slice (some ⟨g4, 0, none⟩) xs0.length xs0.length] 46)) ((Below.refl _ _).alloc (Nat.le_refl _) _))
    have X4b := hid (hb_alloc X4.out (.cells #[.string a0, .string b0, .slice (some ⟨g4, 0, none⟩) xs0.length xs0.length] 46))
    clear sp4 k0 k1 k2
    clear hb
    go_wp2_with fail
    refine (FmtI.FormatInstance_impl a0 b0 _ xs0 _ h P4.out).mono ?_
    rintro e w5 ⟨rfl, hb⟩
    have Y5 : Hid (w5.heap[w4.heap.size]? = some (.cells #[.string a0, .string b0, .slice (some ⟨g4, 0, none⟩) xs0.length xs0.length] 46 (0, 0))) := below_heap hb (by simp) (heap_alloc_new w4 _)
    have X5 := hid (below_heap hb (by simp; omega) X4b.out)
    have P5 := hid (P4.out.below hb)
    have B5 : Hid (Below w.heap.size w w5) := (B4.out.alloc (by omega) _).trans (hb.mono (by simp; omega))
    have S5 := hid (s0.below B5.out)
    have hz5 : w4.heap.size + 1 ≤ w5.heap.size := by have := hb.size; simpa using this
    clear hb
    go_wp2
    refine wp_region_any (by kernel_rfl) ?_
    change wpAny _ _ _ _ _ _ _ (World.drew _)
    have k0 : w5.cell? ⟨w.heap.size, 0, none⟩ = some (.string a0) := heap_cell X5.out 0
    have k1 : w5.cell? ⟨w.heap.size, 1, none⟩ = some (.string b0) := heap_cell X5.out 1
    have k2 : w5.cell? ⟨w.heap.size, 2, none⟩ = some (.slice g n c) := heap_cell X5.out 2
    have l0 : w5.cell? ⟨w4.heap.size, 0, none⟩ = some (.string a0) := heap_cell Y5.out 0
    have l1 : w5.cell? ⟨w4.heap.size, 1, none⟩ = some (.string b0) := heap_cell Y5.out 1
    have l2 : w5.cell? ⟨w4.heap.size, 2, none⟩ = some (.slice (some ⟨g4, 0, none⟩) xs0.length xs0.length) := heap_cell Y5.out 2
    refine wpAny_of_T (S := fun X => X.cell? ⟨w.heap.size, 0, none⟩ = some (.string a0) ∧ X.cell? ⟨w.heap.size, 1, none⟩ = some (.string b0) ∧ X.cell? ⟨w.heap.size, 2, none⟩ = some (.slice g n c) ∧ X.cell? ⟨w4.heap.size, 0, none⟩ = some (.string a0) ∧ X.cell? ⟨w4.heap.size, 1, none⟩ = some (.string b0) ∧ X.cell? ⟨w4.heap.size, 2, none⟩ = some (.slice (some ⟨g4, 0, none⟩) xs0.length xs0.length)) (m := 5) _ _ _ _ ?_
    refine wpAnyT_take (i := 0) (v := .agg #[.string a0, .string b0, .slice (some ⟨g4, 0, none⟩) xs0.length xs0.length]) rfl (by kernel_rfl) (by kernel_rfl) (by kernel_rfl) (by kernel_rfl) (fun _ _ _ h => h) (Or.inl ⟨by rfl, fun X hS => by obtain ⟨e0, e1, e2, e3, e4, e5⟩ := hS; clear k0 k1 k2 l0 l1 l2; go_simp⟩) ⟨k0, k1, k2, l0, l1, l2⟩ ?_
    refine wpAnyT_take (i := 1) (v := .agg #[.string a0, .string b0, .slice g n c]) rfl (by kernel_rfl) (by kernel_rfl) (by kernel_rfl) (by kernel_rfl) (fun _ _ _ h => h) (Or.inl ⟨by rfl, fun X hS => by obtain ⟨e0, e1, e2, e3, e4, e5⟩ := hS; clear k0 k1 k2 l0 l1 l2; go_simp⟩) ⟨k0, k1, k2, l0, l1, l2⟩ ?_
    refine wpAnyT_one 2 rfl (by kernel_rfl) (fun K hK => ?_)
    go_simp
    refine (toInstance_any a0 b0 _ xs0 _ hl0 (s0.below (w' := w5.drew) B5.out.drew)).mono ?_
    rintro e w6 ⟨g6, rfl, -, -, sp6, hb⟩
    have B6 : Hid (Below w.heap.size w w6) := B5.out.drew.trans (hb.mono (by show w.heap.size ≤ w5.heap.size; omega))
    have P6 := hid sp6
    have Q6 := hid ((show SP w5.drew _ _ from P5.out).below hb)
    have T6 : w6.cell? ⟨w.heap.size, 0, none⟩ = some (.string a0) ∧ w6.cell? ⟨w.heap.size, 1, none⟩ = some (.string b0) ∧ w6.cell? ⟨w.heap.size, 2, none⟩ = some (.slice g n c) ∧ w6.cell? ⟨w4.heap.size, 0, none⟩ = some (.string a0) ∧ w6.cell? ⟨w4.heap.size, 1, none⟩ = some (.string b0) ∧ w6.cell? ⟨w4.heap.size, 2, none⟩ = some (.slice (some ⟨g4, 0, none⟩) xs0.length xs0.length) := ⟨(hb.cell (lt_of_cell k0)).trans k0, (hb.cell (lt_of_cell k1)).trans k1, (hb.cell (lt_of_cell k2)).trans k2, (hb.cell (lt_of_cell l0)).trans l0, (hb.cell (lt_of_cell l1)).trans l1, (hb.cell (lt_of_cell l2)).trans l2⟩
    refine hK _ _ (fun _ => T6) ?_
    clear hK K hb sp6
    refine wpAnyT_one 3 rfl (by kernel_rfl) (fun K hK => ?_)
    go_simp
    refine (eqInstance_same a0 b0 _ _ xs0 _ Q6.out P6.out).mono ?_
    rintro e w7 ⟨rfl, hb⟩
    have B7 : Hid (Below w.heap.size w w7) := B6.out.trans (hb.mono B6.out.size)
    obtain ⟨e0, e1, e2, e3, e4, e5⟩ := T6
    have T7 : w7.cell? ⟨w.heap.size, 0, none⟩ = some (.string a0) ∧ w7.cell? ⟨w.heap.size, 1, none⟩ = some (.string b0) ∧ w7.cell? ⟨w.heap.size, 2, none⟩ = some (.slice g n c) ∧ w7.cell? ⟨w4.heap.size, 0, none⟩ = some (.string a0) ∧ w7.cell? ⟨w4.heap.size, 1, none⟩ = some (.string b0) ∧ w7.cell? ⟨w4.heap.size, 2, none⟩ = some (.slice (some ⟨g4, 0, none⟩) xs0.length xs0.length) := ⟨(hb.cell (lt_of_cell e0)).trans e0, (hb.cell (lt_of_cell e1)).trans e1, (hb.cell (lt_of_cell e2)).trans e2, (hb.cell (lt_of_cell e3)).trans e3, (hb.cell (lt_of_cell e4)).trans e4, (hb.cell (lt_of_cell e5)).trans e5⟩
    refine hK _ _ (fun _ => T7) ?_
    clear hK K hb
    refine wpAnyT_one 4 rfl (by kernel_rfl) (fun K hK => ?_)
    go_simp
    refine hK _ _ (fun _ => T7) ?_
    clear hK K e0 e1 e2 e3 e4 e5 T7 k0 k1 k2 l0 l1 l2
    refine wpAnyT_drop _ 5 _ _ _ (by decide) (by kernel_rfl) ?_
    change wpList _ _ _ [] _ _
    go_wp2
    go_ret
    exact ⟨rfl, B7.out⟩

theorem lifted (os : Os) (started : os.Started) (H : Type) (enc : TypeId × Value → H) :
    ReturnsInHanded {} Try.checked os 10 .any (Rows.fnExactFormatInstanceSpec.pre6 enc Try.prog Try.f10 Rows.fnExactFormatInstanceRow.domain false) (Rows.fnExactFormatInstanceSpec.post enc Try.prog Try.f10 false true false false) := by
  refine returnsInHanded_of_change (C := Try.checked) own started (by kernel_rfl) Try.func10
    (ChangeSpec.witness6 (enc := enc) (C := Try.checked) false ⟨#[], #[.agg #[.string ByteArray.empty, .string ByteArray.empty, .slice none 0 0]], []⟩ 8 (by kernel_rfl) (by kernel_rfl) (by kernel_rfl) (by kernel_rfl)) ?_
  intro W base args ds gs before hval0 hW hcnd _
  have hval : ∀ (j : Nat) t v, Try.f10.params[j]? = some t → args[j]? = some v → Value.okWide Try.prog W .any base t v := hval0
  have hW' := hW
  obtain ⟨p, q, hA0, hV, rfl, hfz, hnd⟩ := hW
  have hA : DataW.TrodAll enc Try.prog W 0 (fun _ => true) true Try.f10.params.toList args.toList ds p := hA0
  rw [Try.params10] at hA hval
  have hL := DataW.TrodAll.lt hA
  obtain ⟨v0, vs0, d0, ds0, p0, q0, hargs, rfl, rfl, h0, r0⟩ := trodAll_cons hA
  obtain ⟨rfl, rfl, rfl⟩ := trodAll_nil r0
  obtain rfl : args = #[v0] := by cases args; simp_all
  obtain ⟨rfl, rfl⟩ := trodVars_none hV
  have k0 := h0
  have l0 : ∀ x ∈ p0, x.block < W.heap.size := fun x hx => hL x (by simp [hx])
  obtain ⟨a0, b0, vv0, xs0, rfl, w0, u0, s0⟩ := open_inst Try.underlying41 (by kernel_rfl) rfl rfl (by kernel_rfl) (by kernel_rfl) Try.underlying24 rfl rfl (by kernel_rfl) (by kernel_rfl) (by kernel_rfl) (by kernel_rfl) Try.underlying39 (hval 0 41 v0 rfl rfl) h0
  clear hA0 hval0
  simp only [List.append_nil] at hW'
  refine (walk W _ _ _ _ w0 u0 s0).mono fun e W' ⟨he, bel⟩ => ?_
  subst he
  exact ⟨_, rfl, _, _, _, [], _, [], hW', (trodAll_cons_mk (shut_bool Try.underlying4 _) trodAll_mk0), (trodAll_cons_mk (Below.trod laidOut (by kernel_rfl) (of_decide_eq_true (by kernel_rfl)) k0 bel l0) trodAll_mk0), rfl, bel.frame _, fun h => by cases h⟩
theorem e1 : Rows.fnExactFormatInstanceRow.lifted = Rows.fnExactConstantsRow.lifted := rfl
theorem e2 : Rows.fnExactFormatInstanceRow.make = Rows.fnExactConstantsRow.make := rfl
theorem e3 : Rows.fnExactFormatInstanceRow.plainKeys = Rows.fnExactConstantsRow.plainKeys := rfl
theorem facts : joinedFacts Try.pinned.checked.prog 10 Try.f10 Rows.fnExactFormatInstanceSpec Rows.fnExactFormatInstanceRow = true := by
  refine Facts.joined e1 e2 e3 ?_ ?_ ?_ ?_ ?_ ?_ ?_ ?_ ?_ ?_ ?_ ?_ ?_ ?_ ?_ ?_ ?_ ?_ ?_ ?_ ?_ ?_ ?_
  all_goals as_aux_lemma => kernel_rfl
theorem over : Rows.fnExactFormatInstanceRow.holds Try.pinned (OpenSpec.ofChange Rows.fnExactFormatInstanceSpec) :=
  OpenClaim.holds_of_wide 10 Try.f10 rfl rfl rfl rfl rfl rfl rfl ⟨rfl, rfl, rfl, rfl, rfl⟩ rfl rfl rfl rfl rfl (by kernel_rfl) Try.func10 facts
    (of_decide_eq_true (by kernel_rfl)) (by unfold Func.isWrapper; first | (rw [if_pos (by decide +kernel)]; kernel_rfl) | (rw [if_neg (by decide +kernel)]; exact ⟨rfl, rfl⟩))
    (fun os started H enc _ => lifted os started H enc)
end Go.Proofs.Ytidfklhffkjipaa.fnExactFormatInstance
namespace Go.Proofs.Ytidfklhffkjipaa
theorem fnExactFormatInstance_holds : Rows.FnExactFormatInstanceSaid := fnExactFormatInstance.over
end Go.Proofs.Ytidfklhffkjipaa
