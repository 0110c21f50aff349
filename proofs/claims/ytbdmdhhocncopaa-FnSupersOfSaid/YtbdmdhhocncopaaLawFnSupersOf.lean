/- FnSupersOf answers true for every input: all that stands above a class stands before it, and it has what stands above what stands above it; both programs answer alike. Conditions: none. -/
import Derived.Test.YtbdmdhhocncopaaSupM
import Derived.Test.YtbdmdhhocncopaaWDM
import Derived.Test.YtbdmdhhocncopaaHC
import Derived.Test.YtbdmdhhocncopaaRows
import Derived.Test.YtbdmdhhocncopaaFacts
import Derived.WalkKit
import Derived.ProofKit
import Derived.OpenShut
import Derived.ShutString
import Derived.ChangeOld
import Derived.Below
import Derived.Carry
import Derived.Lib.SmallJoins
set_option linter.unusedVariables false
set_option linter.unusedSimpArgs false
set_option maxRecDepth 100000
namespace Go.Proofs.Ytbdmdhhocncopaa.fnSupersOf
open Go.ChangeShapes Go.WideShapes Go.ChangeAt Go.RowKit Go.Joins Ty ListS IRow
open Go.ChangeMaps (open_string shut_string)

theorem own : ownKnob Try.prog.godebug = none := by kernel_rfl
theorem laidOut : laidOutB Try.prog = true := by kernel_rfl
theorem bytes (s : ByteArray) : ∃ l : List UInt8, s = ⟨l.toArray⟩ ∧ s.size = l.length := ⟨s.data.toList, rfl, by simp⟩
set_option maxHeartbeats 16000000 in
theorem walk (w : World) (v0 : Value) (xs0 : List Int) (s0 : Draw.SB w v0 xs0) :
    Calls Try.prog 3 #[v0] w fun e w' => e = .returned (.bool true) ∧ Below w.heap.size w w' := by
  obtain ⟨a0, c0, rfl⟩ := Draw.sb_slice s0
  by_cases hl0 : 1048576 < xs0.length
  · have hl0' : (xs0.length : Int) > 1048576 := by omega
    go_enter Try.func3, Try.ntmps3
    go_wp2
    go_ret
    exact ⟨rfl, Below.refl _ _⟩
  have hl0' : ¬ (xs0.length : Int) > 1048576 := by omega
  have S0 := hid s0
  clear s0
  have HB : Hid (Below w.heap.size w w) := Below.refl _ _
  go_enter Try.func3, Try.ntmps3
  go_wp2_with fail
  refine (Draw.DrawSupersOf_any _ xs0 w S0.out).mono ?_
  rintro e w1 ⟨v, u, cs, is, s, rfl, hw, hs, hb⟩
  replace HB : Hid (Below w.heap.size w w1) := HB.out.trans (hb.mono HB.out.size)
  clear hb
  obtain ⟨hv, hu, h1, h2, h3⟩ := hw
  obtain ⟨va, vc, rfl⟩ := row_slice hv
  obtain ⟨gc, rfl⟩ := Draw.row_some hv h1
  obtain ⟨ua, uc, rfl⟩ := PWo.ir_slice hu
  have HV := hid hv
  have HU := hid hu
  clear hv hu S0 hl0'
  have HST : Hid (s = s) := rfl
  go_wp2_with fail
  have hzz := HB.out.size
  have hb : Below w1.heap.size w1 (w1.alloc (.cells #[.slice (some ⟨gc, 0, none⟩) cs.length vc, .slice ua is.length uc] 26)) := (Below.refl _ _).alloc (Nat.le_refl _) _
  replace HB : Hid (Below w.heap.size w (w1.alloc (.cells #[.slice (some ⟨gc, 0, none⟩) cs.length vc, .slice ua is.length uc] 26))) := HB.out.trans (hb.mono HB.out.size)
  replace HV : Hid ((w1.alloc (.cells #[.slice (some ⟨gc, 0, none⟩) cs.length vc, .slice ua is.length uc] 26)).ownsRow w.heap.size 33 2 (.slice (some ⟨gc, 0, none⟩) cs.length vc) cs.length (flat cs)) := row_below hb HV.out
  replace HU : Hid (IR (w1.alloc (.cells #[.slice (some ⟨gc, 0, none⟩) cs.length vc, .slice ua is.length uc] 26)) w.heap.size (.slice ua is.length uc) is) := HU.out.below hb
  clear hb
  have HW : Hid ((w1.alloc (.cells #[.slice (some ⟨gc, 0, none⟩) cs.length vc, .slice ua is.length uc] 26)).heap[w1.heap.size]? = some (.cells #[.slice (some ⟨gc, 0, none⟩) cs.length vc, .slice ua is.length uc] 26 (0, 0))) := heap_alloc_new _ _
  generalize (w1.alloc (.cells #[.slice (some ⟨gc, 0, none⟩) cs.length vc, .slice ua is.length uc] 26)) = w2 at *
  obtain ⟨bx, hbbx⟩ : ∃ x, x = w1.heap.size := ⟨_, rfl⟩
  rw [← hbbx] at HW ⊢
  have hbx : w.heap.size ≤ bx := by omega
  clear hzz HST
  clear hbbx
  cases hv : HC.hcB cs is s with
  | false =>
    have HSU : Hid (Sup.supB cs is s = ⟨#[]⟩) := Sup.supB_no hv
    have HHC := hid hv
    clear hv
    refine (Sup.SupersOf_impl (some ⟨gc, 0, none⟩) ua vc uc cs is s w2 (by omega) (by omega) (PWo.row_cap HV.out) (PWo.sp_of HV.out (by omega)) (PWo.si_of HU.out (by omega))).mono ?_
    rintro e w3 ⟨rfl, hb⟩
    replace HB : Hid (Below w.heap.size w w3) := HB.out.trans (hb.mono HB.out.size)
    replace HV : Hid (w3.ownsRow w.heap.size 33 2 (.slice (some ⟨gc, 0, none⟩) cs.length vc) cs.length (flat cs)) := row_below hb HV.out
    replace HU : Hid (IR w3 w.heap.size (.slice ua is.length uc) is) := HU.out.below hb
    replace HW : Hid (w3.heap[bx]? = some (.cells #[.slice (some ⟨gc, 0, none⟩) cs.length vc, .slice ua is.length uc] 26 (0, 0))) := below_heap hb (lt_of_heap HW.out) HW.out
    clear hb
    rw [HSU.out]
    go_wp2_with fail
    refine wp_region_any (by kernel_rfl) ?_
    change wpAny _ _ _ _ _ _ _ (World.drew _)
    have hb : Below w3.heap.size w3 w3.drew := (Below.refl _ _).drew
    replace HB : Hid (Below w.heap.size w w3.drew) := HB.out.trans (hb.mono HB.out.size)
    replace HV : Hid (w3.drew.ownsRow w.heap.size 33 2 (.slice (some ⟨gc, 0, none⟩) cs.length vc) cs.length (flat cs)) := row_below hb HV.out
    replace HU : Hid (IR w3.drew w.heap.size (.slice ua is.length uc) is) := HU.out.below hb
    replace HW : Hid (w3.drew.heap[bx]? = some (.cells #[.slice (some ⟨gc, 0, none⟩) cs.length vc, .slice ua is.length uc] 26 (0, 0))) := below_heap hb (lt_of_heap HW.out) HW.out
    clear hb
    generalize w3.drew = w4 at *
    refine wpAny_of_T (S := fun X => X.cell? ⟨bx, 0, none⟩ = some (.slice (some ⟨gc, 0, none⟩) cs.length vc) ∧ X.cell? ⟨bx, 1, none⟩ = some (.slice ua is.length uc)) (m := 20) _ _ _ _ ?_
    refine wpAnyT_take (i := 0) (v := .string ⟨#[]⟩) rfl (by kernel_rfl) (by kernel_rfl) (by kernel_rfl) (by kernel_rfl) (fun _ _ _ h => h) (Or.inl ⟨by kernel_rfl, fun X hS => by obtain ⟨e0, e1⟩ := hS; go_simp⟩) ⟨heap_cell HW.out 0, heap_cell HW.out 1⟩ ?_
    try go_simp
    refine wpAnyT_take (i := 1) (v := .agg #[.slice (some ⟨gc, 0, none⟩) cs.length vc, .slice ua is.length uc]) rfl (by kernel_rfl) (by kernel_rfl) (by kernel_rfl) (by kernel_rfl) (fun _ _ _ h => h) (Or.inl ⟨by kernel_rfl, fun X hS => by obtain ⟨e0, e1⟩ := hS; go_simp⟩) ⟨heap_cell HW.out 0, heap_cell HW.out 1⟩ ?_
    try go_simp
    refine wpAnyT_take (i := 2) (v := .string s) rfl (by kernel_rfl) (by kernel_rfl) (by kernel_rfl) (by kernel_rfl) (fun _ _ _ h => h) (Or.inl ⟨by kernel_rfl, fun X hS => by obtain ⟨e0, e1⟩ := hS; go_simp⟩) ⟨heap_cell HW.out 0, heap_cell HW.out 1⟩ ?_
    try go_simp
    refine wpAnyT_one 3 rfl (by kernel_rfl) (fun K hK => ?_)
    go_simp
    refine (Sup.SupersOf_spec (some ⟨gc, 0, none⟩) ua vc uc cs is s w4 (by omega) (by omega) (PWo.row_cap HV.out) (PWo.sp_of HV.out (by omega)) (PWo.si_of HU.out (by omega))).mono ?_
    rintro e w5 ⟨rfl, hb⟩
    replace HB : Hid (Below w.heap.size w w5) := HB.out.trans (hb.mono HB.out.size)
    replace HV : Hid (w5.ownsRow w.heap.size 33 2 (.slice (some ⟨gc, 0, none⟩) cs.length vc) cs.length (flat cs)) := row_below hb HV.out
    replace HU : Hid (IR w5 w.heap.size (.slice ua is.length uc) is) := HU.out.below hb
    replace HW : Hid (w5.heap[bx]? = some (.cells #[.slice (some ⟨gc, 0, none⟩) cs.length vc, .slice ua is.length uc] 26 (0, 0))) := below_heap hb (lt_of_heap HW.out) HW.out
    clear hb
    rw [HSU.out]
    refine hK _ _ (fun _ => ⟨heap_cell HW.out 0, heap_cell HW.out 1⟩) ?_
    clear hK K
    refine wpAnyT_take (i := 4) (v := .bool false) rfl (by kernel_rfl) (by kernel_rfl) (by kernel_rfl) (by kernel_rfl) (fun _ _ _ h => h) (Or.inl ⟨by kernel_rfl, fun X hS => by obtain ⟨e0, e1⟩ := hS; go_simp⟩) ⟨heap_cell HW.out 0, heap_cell HW.out 1⟩ ?_
    try go_simp
    refine wpAnyT_take (i := 5) (v := .bool false) rfl (by kernel_rfl) (by kernel_rfl) (by kernel_rfl) (by kernel_rfl) (fun _ _ _ h => h) (Or.inl ⟨by kernel_rfl, fun X hS => by obtain ⟨e0, e1⟩ := hS; go_simp⟩) ⟨heap_cell HW.out 0, heap_cell HW.out 1⟩ ?_
    try go_simp
    refine wpAnyT_take (i := 6) (v := .agg #[.slice (some ⟨gc, 0, none⟩) cs.length vc, .slice ua is.length uc]) rfl (by kernel_rfl) (by kernel_rfl) (by kernel_rfl) (by kernel_rfl) (fun _ _ _ h => h) (Or.inl ⟨by kernel_rfl, fun X hS => by obtain ⟨e0, e1⟩ := hS; go_simp⟩) ⟨heap_cell HW.out 0, heap_cell HW.out 1⟩ ?_
    try go_simp
    refine wpAnyT_take (i := 7) (v := .string s) rfl (by kernel_rfl) (by kernel_rfl) (by kernel_rfl) (by kernel_rfl) (fun _ _ _ h => h) (Or.inl ⟨by kernel_rfl, fun X hS => by obtain ⟨e0, e1⟩ := hS; go_simp⟩) ⟨heap_cell HW.out 0, heap_cell HW.out 1⟩ ?_
    try go_simp
    refine wpAnyT_take (i := 9) (v := .agg #[.slice (some ⟨gc, 0, none⟩) cs.length vc, .slice ua is.length uc]) rfl (by kernel_rfl) (by kernel_rfl) (by kernel_rfl) (by kernel_rfl) (fun _ _ _ h => h) (Or.inl ⟨by kernel_rfl, fun X hS => by obtain ⟨e0, e1⟩ := hS; go_simp⟩) ⟨heap_cell HW.out 0, heap_cell HW.out 1⟩ ?_
    try go_simp
    refine wpAnyT_take (i := 10) (v := .string s) rfl (by kernel_rfl) (by kernel_rfl) (by kernel_rfl) (by kernel_rfl) (fun _ _ _ h => h) (Or.inl ⟨by kernel_rfl, fun X hS => by obtain ⟨e0, e1⟩ := hS; go_simp⟩) ⟨heap_cell HW.out 0, heap_cell HW.out 1⟩ ?_
    try go_simp
    refine wpAnyT_one 8 rfl (by kernel_rfl) (fun K hK => ?_)
    go_simp
    refine (HC.HasClass_impl (some ⟨gc, 0, none⟩) ua vc uc cs is s w5 (by omega) (by omega) (PWo.row_cap HV.out) (PWo.sp_of HV.out (by omega)) (PWo.si_of HU.out (by omega))).mono ?_
    rintro e w6 ⟨rfl, hb⟩
    replace HB : Hid (Below w.heap.size w w6) := HB.out.trans (hb.mono HB.out.size)
    replace HV : Hid (w6.ownsRow w.heap.size 33 2 (.slice (some ⟨gc, 0, none⟩) cs.length vc) cs.length (flat cs)) := row_below hb HV.out
    replace HU : Hid (IR w6 w.heap.size (.slice ua is.length uc) is) := HU.out.below hb
    replace HW : Hid (w6.heap[bx]? = some (.cells #[.slice (some ⟨gc, 0, none⟩) cs.length vc, .slice ua is.length uc] 26 (0, 0))) := below_heap hb (lt_of_heap HW.out) HW.out
    clear hb
    rw [HHC.out]
    refine hK _ _ (fun _ => ⟨heap_cell HW.out 0, heap_cell HW.out 1⟩) ?_
    clear hK K
    refine wpAnyT_one 11 rfl (by kernel_rfl) (fun K hK => ?_)
    go_simp
    refine (HC.HasClass_spec (some ⟨gc, 0, none⟩) ua vc uc cs is s w6 (by omega) (by omega) (PWo.row_cap HV.out) (PWo.sp_of HV.out (by omega)) (PWo.si_of HU.out (by omega))).mono ?_
    rintro e w7 ⟨rfl, hb⟩
    replace HB : Hid (Below w.heap.size w w7) := HB.out.trans (hb.mono HB.out.size)
    replace HV : Hid (w7.ownsRow w.heap.size 33 2 (.slice (some ⟨gc, 0, none⟩) cs.length vc) cs.length (flat cs)) := row_below hb HV.out
    replace HU : Hid (IR w7 w.heap.size (.slice ua is.length uc) is) := HU.out.below hb
    replace HW : Hid (w7.heap[bx]? = some (.cells #[.slice (some ⟨gc, 0, none⟩) cs.length vc, .slice ua is.length uc] 26 (0, 0))) := below_heap hb (lt_of_heap HW.out) HW.out
    clear hb
    rw [HHC.out]
    refine hK _ _ (fun _ => ⟨heap_cell HW.out 0, heap_cell HW.out 1⟩) ?_
    clear hK K
    refine wpAnyT_take (i := 12) (v := .bool false) rfl (by kernel_rfl) (by kernel_rfl) (by kernel_rfl) (by kernel_rfl) (fun _ _ _ h => h) (Or.inl ⟨by kernel_rfl, fun X hS => by obtain ⟨e0, e1⟩ := hS; go_simp⟩) ⟨heap_cell HW.out 0, heap_cell HW.out 1⟩ ?_
    try go_simp
    refine wpAnyT_take (i := 13) (v := .bool false) rfl (by kernel_rfl) (by kernel_rfl) (by kernel_rfl) (by kernel_rfl) (fun _ _ _ h => h) (Or.inl ⟨by kernel_rfl, fun X hS => by obtain ⟨e0, e1⟩ := hS; go_simp⟩) ⟨heap_cell HW.out 0, heap_cell HW.out 1⟩ ?_
    try go_simp
    refine wpAnyT_take (i := 14) (v := .bool false) rfl (by kernel_rfl) (by kernel_rfl) (by kernel_rfl) (by kernel_rfl) (fun _ _ _ h => h) (Or.inl ⟨by kernel_rfl, fun X hS => by obtain ⟨e0, e1⟩ := hS; go_simp⟩) ⟨heap_cell HW.out 0, heap_cell HW.out 1⟩ ?_
    try go_simp
    refine wpAnyT_take (i := 15) (v := .agg #[.slice (some ⟨gc, 0, none⟩) cs.length vc, .slice ua is.length uc]) rfl (by kernel_rfl) (by kernel_rfl) (by kernel_rfl) (by kernel_rfl) (fun _ _ _ h => h) (Or.inl ⟨by kernel_rfl, fun X hS => by obtain ⟨e0, e1⟩ := hS; go_simp⟩) ⟨heap_cell HW.out 0, heap_cell HW.out 1⟩ ?_
    try go_simp
    refine wpAnyT_take (i := 16) (v := .string s) rfl (by kernel_rfl) (by kernel_rfl) (by kernel_rfl) (by kernel_rfl) (fun _ _ _ h => h) (Or.inl ⟨by kernel_rfl, fun X hS => by obtain ⟨e0, e1⟩ := hS; go_simp⟩) ⟨heap_cell HW.out 0, heap_cell HW.out 1⟩ ?_
    try go_simp
    refine wpAnyT_one 17 rfl (by kernel_rfl) (fun K hK => ?_)
    go_simp
    refine (HC.HasClass_impl (some ⟨gc, 0, none⟩) ua vc uc cs is s w7 (by omega) (by omega) (PWo.row_cap HV.out) (PWo.sp_of HV.out (by omega)) (PWo.si_of HU.out (by omega))).mono ?_
    rintro e w8 ⟨rfl, hb⟩
    replace HB : Hid (Below w.heap.size w w8) := HB.out.trans (hb.mono HB.out.size)
    replace HV : Hid (w8.ownsRow w.heap.size 33 2 (.slice (some ⟨gc, 0, none⟩) cs.length vc) cs.length (flat cs)) := row_below hb HV.out
    replace HU : Hid (IR w8 w.heap.size (.slice ua is.length uc) is) := HU.out.below hb
    replace HW : Hid (w8.heap[bx]? = some (.cells #[.slice (some ⟨gc, 0, none⟩) cs.length vc, .slice ua is.length uc] 26 (0, 0))) := below_heap hb (lt_of_heap HW.out) HW.out
    clear hb
    rw [HHC.out]
    refine hK _ _ (fun _ => ⟨heap_cell HW.out 0, heap_cell HW.out 1⟩) ?_
    clear hK K
    refine wpAnyT_take (i := 18) (v := .bool true) rfl (by kernel_rfl) (by kernel_rfl) (by kernel_rfl) (by kernel_rfl) (fun _ _ _ h => h) (Or.inl ⟨by kernel_rfl, fun X hS => by obtain ⟨e0, e1⟩ := hS; go_simp⟩) ⟨heap_cell HW.out 0, heap_cell HW.out 1⟩ ?_
    try go_simp
    refine wpAnyT_take (i := 19) (v := .bool true) rfl (by kernel_rfl) (by kernel_rfl) (by kernel_rfl) (by kernel_rfl) (fun _ _ _ h => h) (Or.inl ⟨by kernel_rfl, fun X hS => by obtain ⟨e0, e1⟩ := hS; go_simp⟩) ⟨heap_cell HW.out 0, heap_cell HW.out 1⟩ ?_
    try go_simp
    refine wpAnyT_drop _ 20 _ _ _ (by decide) (by kernel_rfl) ?_
    change wpList _ _ _ [] _ _
    go_wp2_with fail
    refine wp_region_any (by kernel_rfl) ?_
    change wpAny _ _ _ _ _ _ _ (World.drew _)
    have hb : Below w8.heap.size w8 w8.drew := (Below.refl _ _).drew
    replace HB : Hid (Below w.heap.size w w8.drew) := HB.out.trans (hb.mono HB.out.size)
    replace HV : Hid (w8.drew.ownsRow w.heap.size 33 2 (.slice (some ⟨gc, 0, none⟩) cs.length vc) cs.length (flat cs)) := row_below hb HV.out
    replace HU : Hid (IR w8.drew w.heap.size (.slice ua is.length uc) is) := HU.out.below hb
    replace HW : Hid (w8.drew.heap[bx]? = some (.cells #[.slice (some ⟨gc, 0, none⟩) cs.length vc, .slice ua is.length uc] 26 (0, 0))) := below_heap hb (lt_of_heap HW.out) HW.out
    clear hb
    generalize w8.drew = w9 at *
    refine wpAny_of_T (S := fun X => X.cell? ⟨bx, 0, none⟩ = some (.slice (some ⟨gc, 0, none⟩) cs.length vc) ∧ X.cell? ⟨bx, 1, none⟩ = some (.slice ua is.length uc)) (m := 19) _ _ _ _ ?_
    refine wpAnyT_take (i := 0) (v := .string ⟨#[]⟩) rfl (by kernel_rfl) (by kernel_rfl) (by kernel_rfl) (by kernel_rfl) (fun _ _ _ h => h) (Or.inl ⟨by kernel_rfl, fun X hS => by obtain ⟨e0, e1⟩ := hS; go_simp⟩) ⟨heap_cell HW.out 0, heap_cell HW.out 1⟩ ?_
    try go_simp
    refine wpAnyT_take (i := 1) (v := .agg #[.slice (some ⟨gc, 0, none⟩) cs.length vc, .slice ua is.length uc]) rfl (by kernel_rfl) (by kernel_rfl) (by kernel_rfl) (by kernel_rfl) (fun _ _ _ h => h) (Or.inl ⟨by kernel_rfl, fun X hS => by obtain ⟨e0, e1⟩ := hS; go_simp⟩) ⟨heap_cell HW.out 0, heap_cell HW.out 1⟩ ?_
    try go_simp
    refine wpAnyT_take (i := 2) (v := .string s) rfl (by kernel_rfl) (by kernel_rfl) (by kernel_rfl) (by kernel_rfl) (fun _ _ _ h => h) (Or.inl ⟨by kernel_rfl, fun X hS => by obtain ⟨e0, e1⟩ := hS; go_simp⟩) ⟨heap_cell HW.out 0, heap_cell HW.out 1⟩ ?_
    try go_simp
    refine wpAnyT_one 3 rfl (by kernel_rfl) (fun K hK => ?_)
    go_simp
    refine (Sup.SupersOf_spec (some ⟨gc, 0, none⟩) ua vc uc cs is s w9 (by omega) (by omega) (PWo.row_cap HV.out) (PWo.sp_of HV.out (by omega)) (PWo.si_of HU.out (by omega))).mono ?_
    rintro e w10 ⟨rfl, hb⟩
    replace HB : Hid (Below w.heap.size w w10) := HB.out.trans (hb.mono HB.out.size)
    replace HV : Hid (w10.ownsRow w.heap.size 33 2 (.slice (some ⟨gc, 0, none⟩) cs.length vc) cs.length (flat cs)) := row_below hb HV.out
    replace HU : Hid (IR w10 w.heap.size (.slice ua is.length uc) is) := HU.out.below hb
    replace HW : Hid (w10.heap[bx]? = some (.cells #[.slice (some ⟨gc, 0, none⟩) cs.length vc, .slice ua is.length uc] 26 (0, 0))) := below_heap hb (lt_of_heap HW.out) HW.out
    clear hb
    rw [HSU.out]
    refine hK _ _ (fun _ => ⟨heap_cell HW.out 0, heap_cell HW.out 1⟩) ?_
    clear hK K
    refine wpAnyT_take (i := 4) (v := .bool true) rfl (by kernel_rfl) (by kernel_rfl) (by kernel_rfl) (by kernel_rfl) (fun _ _ _ h => h) (Or.inl ⟨by kernel_rfl, fun X hS => by obtain ⟨e0, e1⟩ := hS; go_simp⟩) ⟨heap_cell HW.out 0, heap_cell HW.out 1⟩ ?_
    try go_simp
    refine wpAnyT_take (i := 5) (v := .bool true) rfl (by kernel_rfl) (by kernel_rfl) (by kernel_rfl) (by kernel_rfl) (fun _ _ _ h => h) (Or.inl ⟨by kernel_rfl, fun X hS => by obtain ⟨e0, e1⟩ := hS; go_simp⟩) ⟨heap_cell HW.out 0, heap_cell HW.out 1⟩ ?_
    try go_simp
    refine wpAnyT_take (i := 6) (v := .agg #[.slice (some ⟨gc, 0, none⟩) cs.length vc, .slice ua is.length uc]) rfl (by kernel_rfl) (by kernel_rfl) (by kernel_rfl) (by kernel_rfl) (fun _ _ _ h => h) (Or.inl ⟨by kernel_rfl, fun X hS => by obtain ⟨e0, e1⟩ := hS; go_simp⟩) ⟨heap_cell HW.out 0, heap_cell HW.out 1⟩ ?_
    try go_simp
    refine wpAnyT_take (i := 7) (v := .string s) rfl (by kernel_rfl) (by kernel_rfl) (by kernel_rfl) (by kernel_rfl) (fun _ _ _ h => h) (Or.inl ⟨by kernel_rfl, fun X hS => by obtain ⟨e0, e1⟩ := hS; go_simp⟩) ⟨heap_cell HW.out 0, heap_cell HW.out 1⟩ ?_
    try go_simp
    refine wpAnyT_take (i := 9) (v := .agg #[.slice (some ⟨gc, 0, none⟩) cs.length vc, .slice ua is.length uc]) rfl (by kernel_rfl) (by kernel_rfl) (by kernel_rfl) (by kernel_rfl) (fun _ _ _ h => h) (Or.inl ⟨by kernel_rfl, fun X hS => by obtain ⟨e0, e1⟩ := hS; go_simp⟩) ⟨heap_cell HW.out 0, heap_cell HW.out 1⟩ ?_
    try go_simp
    refine wpAnyT_take (i := 10) (v := .string s) rfl (by kernel_rfl) (by kernel_rfl) (by kernel_rfl) (by kernel_rfl) (fun _ _ _ h => h) (Or.inl ⟨by kernel_rfl, fun X hS => by obtain ⟨e0, e1⟩ := hS; go_simp⟩) ⟨heap_cell HW.out 0, heap_cell HW.out 1⟩ ?_
    try go_simp
    refine wpAnyT_one 8 rfl (by kernel_rfl) (fun K hK => ?_)
    go_simp
    refine (HC.HasClass_impl (some ⟨gc, 0, none⟩) ua vc uc cs is s w10 (by omega) (by omega) (PWo.row_cap HV.out) (PWo.sp_of HV.out (by omega)) (PWo.si_of HU.out (by omega))).mono ?_
    rintro e w11 ⟨rfl, hb⟩
    replace HB : Hid (Below w.heap.size w w11) := HB.out.trans (hb.mono HB.out.size)
    replace HV : Hid (w11.ownsRow w.heap.size 33 2 (.slice (some ⟨gc, 0, none⟩) cs.length vc) cs.length (flat cs)) := row_below hb HV.out
    replace HU : Hid (IR w11 w.heap.size (.slice ua is.length uc) is) := HU.out.below hb
    replace HW : Hid (w11.heap[bx]? = some (.cells #[.slice (some ⟨gc, 0, none⟩) cs.length vc, .slice ua is.length uc] 26 (0, 0))) := below_heap hb (lt_of_heap HW.out) HW.out
    clear hb
    rw [HHC.out]
    refine hK _ _ (fun _ => ⟨heap_cell HW.out 0, heap_cell HW.out 1⟩) ?_
    clear hK K
    refine wpAnyT_one 11 rfl (by kernel_rfl) (fun K hK => ?_)
    go_simp
    refine (HC.HasClass_spec (some ⟨gc, 0, none⟩) ua vc uc cs is s w11 (by omega) (by omega) (PWo.row_cap HV.out) (PWo.sp_of HV.out (by omega)) (PWo.si_of HU.out (by omega))).mono ?_
    rintro e w12 ⟨rfl, hb⟩
    replace HB : Hid (Below w.heap.size w w12) := HB.out.trans (hb.mono HB.out.size)
    replace HV : Hid (w12.ownsRow w.heap.size 33 2 (.slice (some ⟨gc, 0, none⟩) cs.length vc) cs.length (flat cs)) := row_below hb HV.out
    replace HU : Hid (IR w12 w.heap.size (.slice ua is.length uc) is) := HU.out.below hb
    replace HW : Hid (w12.heap[bx]? = some (.cells #[.slice (some ⟨gc, 0, none⟩) cs.length vc, .slice ua is.length uc] 26 (0, 0))) := below_heap hb (lt_of_heap HW.out) HW.out
    clear hb
    rw [HHC.out]
    refine hK _ _ (fun _ => ⟨heap_cell HW.out 0, heap_cell HW.out 1⟩) ?_
    clear hK K
    refine wpAnyT_take (i := 12) (v := .bool true) rfl (by kernel_rfl) (by kernel_rfl) (by kernel_rfl) (by kernel_rfl) (fun _ _ _ h => h) (Or.inl ⟨by kernel_rfl, fun X hS => by obtain ⟨e0, e1⟩ := hS; go_simp⟩) ⟨heap_cell HW.out 0, heap_cell HW.out 1⟩ ?_
    try go_simp
    refine wpAnyT_take (i := 13) (v := .bool true) rfl (by kernel_rfl) (by kernel_rfl) (by kernel_rfl) (by kernel_rfl) (fun _ _ _ h => h) (Or.inl ⟨by kernel_rfl, fun X hS => by obtain ⟨e0, e1⟩ := hS; go_simp⟩) ⟨heap_cell HW.out 0, heap_cell HW.out 1⟩ ?_
    try go_simp
    refine wpAnyT_take (i := 14) (v := .bool true) rfl (by kernel_rfl) (by kernel_rfl) (by kernel_rfl) (by kernel_rfl) (fun _ _ _ h => h) (Or.inl ⟨by kernel_rfl, fun X hS => by obtain ⟨e0, e1⟩ := hS; go_simp⟩) ⟨heap_cell HW.out 0, heap_cell HW.out 1⟩ ?_
    try go_simp
    refine wpAnyT_take (i := 15) (v := .string ⟨#[]⟩) rfl (by kernel_rfl) (by kernel_rfl) (by kernel_rfl) (by kernel_rfl) (fun _ _ _ h => h) (Or.inl ⟨by kernel_rfl, fun X hS => by obtain ⟨e0, e1⟩ := hS; go_simp⟩) ⟨heap_cell HW.out 0, heap_cell HW.out 1⟩ ?_
    try go_simp
    refine wpAnyT_take (i := 16) (v := .bool true) rfl (by kernel_rfl) (by kernel_rfl) (by kernel_rfl) (by kernel_rfl) (fun _ _ _ h => h) (Or.inl ⟨by kernel_rfl, fun X hS => by obtain ⟨e0, e1⟩ := hS; go_simp⟩) ⟨heap_cell HW.out 0, heap_cell HW.out 1⟩ ?_
    try go_simp
    refine wpAnyT_take (i := 17) (v := .bool true) rfl (by kernel_rfl) (by kernel_rfl) (by kernel_rfl) (by kernel_rfl) (fun _ _ _ h => h) (Or.inl ⟨by kernel_rfl, fun X hS => by obtain ⟨e0, e1⟩ := hS; go_simp⟩) ⟨heap_cell HW.out 0, heap_cell HW.out 1⟩ ?_
    try go_simp
    refine wpAnyT_take (i := 18) (v := .bool true) rfl (by kernel_rfl) (by kernel_rfl) (by kernel_rfl) (by kernel_rfl) (fun _ _ _ h => h) (Or.inl ⟨by kernel_rfl, fun X hS => by obtain ⟨e0, e1⟩ := hS; go_simp⟩) ⟨heap_cell HW.out 0, heap_cell HW.out 1⟩ ?_
    try go_simp
    refine wpAnyT_drop _ 19 _ _ _ (by decide) (by kernel_rfl) ?_
    change wpList _ _ _ [] _ _
    go_wp2
    go_ret
    exact ⟨rfl, HB.out⟩
  | true =>
    obtain ⟨hg, hl1, hl4, hkn⟩ := Sup.hc_good hv
    obtain ⟨i0, c, s0, hi0, hxe, hcs⟩ := Sup.known_at (n := cs.length) hg (by rw [List.take_length]; exact hkn)
    subst hxe
    have HF := hid (SupL.facts hv hcs)
    have hLl := SupL.impl_len cs c
    obtain ⟨L, hL⟩ : ∃ L, L = SupP.impl (Sup.tc cs) c := ⟨_, rfl⟩
    have HSU : Hid (Sup.supB cs is ⟨#[c]⟩ = ⟨L.toArray⟩) := by rw [hL]; exact Sup.supB_yes hv
    rw [← hL] at HF hLl
    have HHC := hid hv
    have hL4 : L.length ≤ 4 := by omega
    clear hv hg hl1 hkn hcs hL hLl hi0
    refine (Sup.SupersOf_impl (some ⟨gc, 0, none⟩) ua vc uc cs is ⟨#[c]⟩ w2 (by omega) (by omega) (PWo.row_cap HV.out) (PWo.sp_of HV.out (by omega)) (PWo.si_of HU.out (by omega))).mono ?_
    rintro e w3 ⟨rfl, hb⟩
    replace HB : Hid (Below w.heap.size w w3) := HB.out.trans (hb.mono HB.out.size)
    replace HV : Hid (w3.ownsRow w.heap.size 33 2 (.slice (some ⟨gc, 0, none⟩) cs.length vc) cs.length (flat cs)) := row_below hb HV.out
    replace HU : Hid (IR w3 w.heap.size (.slice ua is.length uc) is) := HU.out.below hb
    replace HW : Hid (w3.heap[bx]? = some (.cells #[.slice (some ⟨gc, 0, none⟩) cs.length vc, .slice ua is.length uc] 26 (0, 0))) := below_heap hb (lt_of_heap HW.out) HW.out
    clear hb
    rw [HSU.out]
    go_wp2_with fail
    refine wp_region_any (by kernel_rfl) ?_
    change wpAny _ _ _ _ _ _ _ (World.drew _)
    have hb : Below w3.heap.size w3 w3.drew := (Below.refl _ _).drew
    replace HB : Hid (Below w.heap.size w w3.drew) := HB.out.trans (hb.mono HB.out.size)
    replace HV : Hid (w3.drew.ownsRow w.heap.size 33 2 (.slice (some ⟨gc, 0, none⟩) cs.length vc) cs.length (flat cs)) := row_below hb HV.out
    replace HU : Hid (IR w3.drew w.heap.size (.slice ua is.length uc) is) := HU.out.below hb
    replace HW : Hid (w3.drew.heap[bx]? = some (.cells #[.slice (some ⟨gc, 0, none⟩) cs.length vc, .slice ua is.length uc] 26 (0, 0))) := below_heap hb (lt_of_heap HW.out) HW.out
    clear hb
    generalize w3.drew = w4 at *
    refine wpAny_of_T (S := fun X => X.cell? ⟨bx, 0, none⟩ = some (.slice (some ⟨gc, 0, none⟩) cs.length vc) ∧ X.cell? ⟨bx, 1, none⟩ = some (.slice ua is.length uc)) (m := 20) _ _ _ _ ?_
    refine wpAnyT_take (i := 0) (v := .string ⟨L.toArray⟩) rfl (by kernel_rfl) (by kernel_rfl) (by kernel_rfl) (by kernel_rfl) (fun _ _ _ h => h) (Or.inl ⟨by kernel_rfl, fun X hS => by obtain ⟨e0, e1⟩ := hS; go_simp⟩) ⟨heap_cell HW.out 0, heap_cell HW.out 1⟩ ?_
    try go_simp
    refine wpAnyT_take (i := 1) (v := .agg #[.slice (some ⟨gc, 0, none⟩) cs.length vc, .slice ua is.length uc]) rfl (by kernel_rfl) (by kernel_rfl) (by kernel_rfl) (by kernel_rfl) (fun _ _ _ h => h) (Or.inl ⟨by kernel_rfl, fun X hS => by obtain ⟨e0, e1⟩ := hS; go_simp⟩) ⟨heap_cell HW.out 0, heap_cell HW.out 1⟩ ?_
    try go_simp
    refine wpAnyT_take (i := 2) (v := .string ⟨#[c]⟩) rfl (by kernel_rfl) (by kernel_rfl) (by kernel_rfl) (by kernel_rfl) (fun _ _ _ h => h) (Or.inl ⟨by kernel_rfl, fun X hS => by obtain ⟨e0, e1⟩ := hS; go_simp⟩) ⟨heap_cell HW.out 0, heap_cell HW.out 1⟩ ?_
    try go_simp
    refine wpAnyT_one 3 rfl (by kernel_rfl) (fun K hK => ?_)
    go_simp
    refine (Sup.SupersOf_spec (some ⟨gc, 0, none⟩) ua vc uc cs is ⟨#[c]⟩ w4 (by omega) (by omega) (PWo.row_cap HV.out) (PWo.sp_of HV.out (by omega)) (PWo.si_of HU.out (by omega))).mono ?_
    rintro e w5 ⟨rfl, hb⟩
    replace HB : Hid (Below w.heap.size w w5) := HB.out.trans (hb.mono HB.out.size)
    replace HV : Hid (w5.ownsRow w.heap.size 33 2 (.slice (some ⟨gc, 0, none⟩) cs.length vc) cs.length (flat cs)) := row_below hb HV.out
    replace HU : Hid (IR w5 w.heap.size (.slice ua is.length uc) is) := HU.out.below hb
    replace HW : Hid (w5.heap[bx]? = some (.cells #[.slice (some ⟨gc, 0, none⟩) cs.length vc, .slice ua is.length uc] 26 (0, 0))) := below_heap hb (lt_of_heap HW.out) HW.out
    clear hb
    rw [HSU.out]
    refine hK _ _ (fun _ => ⟨heap_cell HW.out 0, heap_cell HW.out 1⟩) ?_
    clear hK K
    refine wpAnyT_take (i := 4) (v := .bool false) rfl (by kernel_rfl) (by kernel_rfl) (by kernel_rfl) (by kernel_rfl) (fun _ _ _ h => h) (Or.inl ⟨by kernel_rfl, fun X hS => by obtain ⟨e0, e1⟩ := hS; go_simp⟩) ⟨heap_cell HW.out 0, heap_cell HW.out 1⟩ ?_
    try go_simp
    refine wpAnyT_take (i := 5) (v := .bool false) rfl (by kernel_rfl) (by kernel_rfl) (by kernel_rfl) (by kernel_rfl) (fun _ _ _ h => h) (Or.inl ⟨by kernel_rfl, fun X hS => by obtain ⟨e0, e1⟩ := hS; go_simp⟩) ⟨heap_cell HW.out 0, heap_cell HW.out 1⟩ ?_
    try go_simp
    refine wpAnyT_take (i := 6) (v := .agg #[.slice (some ⟨gc, 0, none⟩) cs.length vc, .slice ua is.length uc]) rfl (by kernel_rfl) (by kernel_rfl) (by kernel_rfl) (by kernel_rfl) (fun _ _ _ h => h) (Or.inl ⟨by kernel_rfl, fun X hS => by obtain ⟨e0, e1⟩ := hS; go_simp⟩) ⟨heap_cell HW.out 0, heap_cell HW.out 1⟩ ?_
    try go_simp
    refine wpAnyT_take (i := 7) (v := .string ⟨#[c]⟩) rfl (by kernel_rfl) (by kernel_rfl) (by kernel_rfl) (by kernel_rfl) (fun _ _ _ h => h) (Or.inl ⟨by kernel_rfl, fun X hS => by obtain ⟨e0, e1⟩ := hS; go_simp⟩) ⟨heap_cell HW.out 0, heap_cell HW.out 1⟩ ?_
    try go_simp
    refine wpAnyT_take (i := 9) (v := .agg #[.slice (some ⟨gc, 0, none⟩) cs.length vc, .slice ua is.length uc]) rfl (by kernel_rfl) (by kernel_rfl) (by kernel_rfl) (by kernel_rfl) (fun _ _ _ h => h) (Or.inl ⟨by kernel_rfl, fun X hS => by obtain ⟨e0, e1⟩ := hS; go_simp⟩) ⟨heap_cell HW.out 0, heap_cell HW.out 1⟩ ?_
    try go_simp
    refine wpAnyT_take (i := 10) (v := .string ⟨#[c]⟩) rfl (by kernel_rfl) (by kernel_rfl) (by kernel_rfl) (by kernel_rfl) (fun _ _ _ h => h) (Or.inl ⟨by kernel_rfl, fun X hS => by obtain ⟨e0, e1⟩ := hS; go_simp⟩) ⟨heap_cell HW.out 0, heap_cell HW.out 1⟩ ?_
    try go_simp
    refine wpAnyT_one 8 rfl (by kernel_rfl) (fun K hK => ?_)
    go_simp
    refine (HC.HasClass_impl (some ⟨gc, 0, none⟩) ua vc uc cs is ⟨#[c]⟩ w5 (by omega) (by omega) (PWo.row_cap HV.out) (PWo.sp_of HV.out (by omega)) (PWo.si_of HU.out (by omega))).mono ?_
    rintro e w6 ⟨rfl, hb⟩
    replace HB : Hid (Below w.heap.size w w6) := HB.out.trans (hb.mono HB.out.size)
    replace HV : Hid (w6.ownsRow w.heap.size 33 2 (.slice (some ⟨gc, 0, none⟩) cs.length vc) cs.length (flat cs)) := row_below hb HV.out
    replace HU : Hid (IR w6 w.heap.size (.slice ua is.length uc) is) := HU.out.below hb
    replace HW : Hid (w6.heap[bx]? = some (.cells #[.slice (some ⟨gc, 0, none⟩) cs.length vc, .slice ua is.length uc] 26 (0, 0))) := below_heap hb (lt_of_heap HW.out) HW.out
    clear hb
    rw [HHC.out]
    refine hK _ _ (fun _ => ⟨heap_cell HW.out 0, heap_cell HW.out 1⟩) ?_
    clear hK K
    refine wpAnyT_one 11 rfl (by kernel_rfl) (fun K hK => ?_)
    go_simp
    refine (HC.HasClass_spec (some ⟨gc, 0, none⟩) ua vc uc cs is ⟨#[c]⟩ w6 (by omega) (by omega) (PWo.row_cap HV.out) (PWo.sp_of HV.out (by omega)) (PWo.si_of HU.out (by omega))).mono ?_
    rintro e w7 ⟨rfl, hb⟩
    replace HB : Hid (Below w.heap.size w w7) := HB.out.trans (hb.mono HB.out.size)
    replace HV : Hid (w7.ownsRow w.heap.size 33 2 (.slice (some ⟨gc, 0, none⟩) cs.length vc) cs.length (flat cs)) := row_below hb HV.out
    replace HU : Hid (IR w7 w.heap.size (.slice ua is.length uc) is) := HU.out.below hb
    replace HW : Hid (w7.heap[bx]? = some (.cells #[.slice (some ⟨gc, 0, none⟩) cs.length vc, .slice ua is.length uc] 26 (0, 0))) := below_heap hb (lt_of_heap HW.out) HW.out
    clear hb
    rw [HHC.out]
    refine hK _ _ (fun _ => ⟨heap_cell HW.out 0, heap_cell HW.out 1⟩) ?_
    clear hK K
    refine wpAnyT_take (i := 12) (v := .bool false) rfl (by kernel_rfl) (by kernel_rfl) (by kernel_rfl) (by kernel_rfl) (fun _ _ _ h => h) (Or.inl ⟨by kernel_rfl, fun X hS => by obtain ⟨e0, e1⟩ := hS; go_simp⟩) ⟨heap_cell HW.out 0, heap_cell HW.out 1⟩ ?_
    try go_simp
    refine wpAnyT_take (i := 13) (v := .bool false) rfl (by kernel_rfl) (by kernel_rfl) (by kernel_rfl) (by kernel_rfl) (fun _ _ _ h => h) (Or.inl ⟨by kernel_rfl, fun X hS => by obtain ⟨e0, e1⟩ := hS; go_simp⟩) ⟨heap_cell HW.out 0, heap_cell HW.out 1⟩ ?_
    try go_simp
    refine wpAnyT_take (i := 14) (v := .bool false) rfl (by kernel_rfl) (by kernel_rfl) (by kernel_rfl) (by kernel_rfl) (fun _ _ _ h => h) (Or.inl ⟨by kernel_rfl, fun X hS => by obtain ⟨e0, e1⟩ := hS; go_simp⟩) ⟨heap_cell HW.out 0, heap_cell HW.out 1⟩ ?_
    try go_simp
    refine wpAnyT_take (i := 15) (v := .agg #[.slice (some ⟨gc, 0, none⟩) cs.length vc, .slice ua is.length uc]) rfl (by kernel_rfl) (by kernel_rfl) (by kernel_rfl) (by kernel_rfl) (fun _ _ _ h => h) (Or.inl ⟨by kernel_rfl, fun X hS => by obtain ⟨e0, e1⟩ := hS; go_simp⟩) ⟨heap_cell HW.out 0, heap_cell HW.out 1⟩ ?_
    try go_simp
    refine wpAnyT_take (i := 16) (v := .string ⟨#[c]⟩) rfl (by kernel_rfl) (by kernel_rfl) (by kernel_rfl) (by kernel_rfl) (fun _ _ _ h => h) (Or.inl ⟨by kernel_rfl, fun X hS => by obtain ⟨e0, e1⟩ := hS; go_simp⟩) ⟨heap_cell HW.out 0, heap_cell HW.out 1⟩ ?_
    try go_simp
    refine wpAnyT_one 17 rfl (by kernel_rfl) (fun K hK => ?_)
    go_simp
    refine (HC.HasClass_impl (some ⟨gc, 0, none⟩) ua vc uc cs is ⟨#[c]⟩ w7 (by omega) (by omega) (PWo.row_cap HV.out) (PWo.sp_of HV.out (by omega)) (PWo.si_of HU.out (by omega))).mono ?_
    rintro e w8 ⟨rfl, hb⟩
    replace HB : Hid (Below w.heap.size w w8) := HB.out.trans (hb.mono HB.out.size)
    replace HV : Hid (w8.ownsRow w.heap.size 33 2 (.slice (some ⟨gc, 0, none⟩) cs.length vc) cs.length (flat cs)) := row_below hb HV.out
    replace HU : Hid (IR w8 w.heap.size (.slice ua is.length uc) is) := HU.out.below hb
    replace HW : Hid (w8.heap[bx]? = some (.cells #[.slice (some ⟨gc, 0, none⟩) cs.length vc, .slice ua is.length uc] 26 (0, 0))) := below_heap hb (lt_of_heap HW.out) HW.out
    clear hb
    rw [HHC.out]
    refine hK _ _ (fun _ => ⟨heap_cell HW.out 0, heap_cell HW.out 1⟩) ?_
    clear hK K
    refine wpAnyT_take (i := 18) (v := .bool false) rfl (by kernel_rfl) (by kernel_rfl) (by kernel_rfl) (by kernel_rfl) (fun _ _ _ h => h) (Or.inl ⟨by kernel_rfl, fun X hS => by obtain ⟨e0, e1⟩ := hS; go_simp⟩) ⟨heap_cell HW.out 0, heap_cell HW.out 1⟩ ?_
    try go_simp
    refine wpAnyT_take (i := 19) (v := .bool false) rfl (by kernel_rfl) (by kernel_rfl) (by kernel_rfl) (by kernel_rfl) (fun _ _ _ h => h) (Or.inl ⟨by kernel_rfl, fun X hS => by obtain ⟨e0, e1⟩ := hS; go_simp⟩) ⟨heap_cell HW.out 0, heap_cell HW.out 1⟩ ?_
    try go_simp
    refine wpAnyT_drop _ 20 _ _ _ (by decide) (by kernel_rfl) ?_
    change wpList _ _ _ [] _ _
    go_wp2_with fail
    go_loopg [60] L.length (fun q i wr => ∃ k : Nat, k ≤ L.length ∧ L.length - k ≤ q ∧ i = .int .i64 k ∧ Hid (Below w.heap.size w wr) ∧ Hid (wr.ownsRow w.heap.size 33 2 (.slice (some ⟨gc, 0, none⟩) cs.length vc) cs.length (flat cs)) ∧ Hid (IR wr w.heap.size (.slice ua is.length uc) is) ∧ Hid (wr.heap[bx]? = some (.cells #[.slice (some ⟨gc, 0, none⟩) cs.length vc, .slice ua is.length uc] 26 (0, 0))) )
    case atStart => exact ⟨0, Nat.zero_le _, by simp, rfl, HB.out, HV.out, HU.out, HW.out⟩
    case round =>
      clear HB HV HU HW
      obtain ⟨k, hk, hq, rfl, hHB, hHV, hHU, hHW⟩ := hrel
      have HB := hid hHB.out
      have HV := hid hHV.out
      have HU := hid hHU.out
      have HW := hid hHW.out
      clear hHB hHV hHU hHW
      by_cases hlt : k < L.length
      · obtain ⟨e, he⟩ : ∃ e, L[k]? = some e := ⟨_, List.getElem?_eq_getElem hlt⟩
        obtain ⟨hce, hsub, hec, hord⟩ := HF.out.1 k e he
        have HCE := hid hce
        have HSUB := hid hsub
        have HORD := hid hord
        have HE := hid he
        have HSE : Hid (Sup.supB cs is ⟨#[e]⟩ = ⟨(SupP.impl (Sup.tc cs) e).toArray⟩) := Sup.supB_yes hce
        have hel : (SupP.impl (Sup.tc cs) e).length ≤ 1048576 := by have := SupL.impl_len cs e; omega
        have HSL := hid (fun x => Draw.run_oneW L k e he x)
        have HEC := hid hec
        clear hce hsub hord he hec
        generalize SupP.impl (Sup.tc cs) e = LE at *
        go_wp2_with fail
        refine wp_region_any (by kernel_rfl) ?_
        change wpAny _ _ _ _ _ _ _ (World.drew _)
        have hb : Below wr.heap.size wr wr.drew := (Below.refl _ _).drew
        replace HB : Hid (Below w.heap.size w wr.drew) := HB.out.trans (hb.mono HB.out.size)
        replace HV : Hid (wr.drew.ownsRow w.heap.size 33 2 (.slice (some ⟨gc, 0, none⟩) cs.length vc) cs.length (flat cs)) := row_below hb HV.out
        replace HU : Hid (IR wr.drew w.heap.size (.slice ua is.length uc) is) := HU.out.below hb
        replace HW : Hid (wr.drew.heap[bx]? = some (.cells #[.slice (some ⟨gc, 0, none⟩) cs.length vc, .slice ua is.length uc] 26 (0, 0))) := below_heap hb (lt_of_heap HW.out) HW.out
        clear hb
        generalize wr.drew = w9 at *
        refine wpAny_of_T (S := fun X => X.cell? ⟨bx, 0, none⟩ = some (.slice (some ⟨gc, 0, none⟩) cs.length vc) ∧ X.cell? ⟨bx, 1, none⟩ = some (.slice ua is.length uc)) (m := 42) _ _ _ _ ?_
        refine wpAnyT_take (i := 0) (v := .agg #[.slice (some ⟨gc, 0, none⟩) cs.length vc, .slice ua is.length uc]) rfl (by kernel_rfl) (by kernel_rfl) (by kernel_rfl) (by kernel_rfl) (fun _ _ _ h => h) (Or.inl ⟨by kernel_rfl, fun X hS => by obtain ⟨e0, e1⟩ := hS; go_simp⟩) ⟨heap_cell HW.out 0, heap_cell HW.out 1⟩ ?_
        try go_simp
        refine wpAnyT_take (i := 1) (v := .string ⟨L.toArray⟩) rfl (by kernel_rfl) (by kernel_rfl) (by kernel_rfl) (by kernel_rfl) (fun _ _ _ h => h) (Or.inl ⟨by kernel_rfl, fun X hS => by obtain ⟨e0, e1⟩ := hS; go_simp⟩) ⟨heap_cell HW.out 0, heap_cell HW.out 1⟩ ?_
        try go_simp
        refine wpAnyT_take (i := 2) (v := .int .i64 k) rfl (by kernel_rfl) (by kernel_rfl) (by kernel_rfl) (by kernel_rfl) (fun _ _ _ h => h) (Or.inl ⟨by kernel_rfl, fun X hS => by obtain ⟨e0, e1⟩ := hS; go_simp⟩) ⟨heap_cell HW.out 0, heap_cell HW.out 1⟩ ?_
        try go_simp
        refine wpAnyT_take (i := 3) (v := .int .i64 k) rfl (by kernel_rfl) (by kernel_rfl) (by kernel_rfl) (by kernel_rfl) (fun _ _ _ h => h) (Or.inl ⟨by kernel_rfl, fun X hS => by obtain ⟨e0, e1⟩ := hS; go_simp⟩) ⟨heap_cell HW.out 0, heap_cell HW.out 1⟩ ?_
        try go_simp
        refine wpAnyT_take (i := 4) (v := .int .i64 ((k : Int) + 1)) rfl (by kernel_rfl) (by kernel_rfl) (by kernel_rfl) (by kernel_rfl) (fun _ _ _ h => h) (Or.inl ⟨by kernel_rfl, fun X hS => by obtain ⟨e0, e1⟩ := hS; go_simp; first | done | (rw [IntKind.wrap_i64]; omega)⟩) ⟨heap_cell HW.out 0, heap_cell HW.out 1⟩ ?_
        try go_simp
        refine wpAnyT_take (i := 5) (v := .string ⟨#[e]⟩) rfl (by kernel_rfl) (by kernel_rfl) (by kernel_rfl) (by kernel_rfl) (fun _ _ _ h => h) (Or.inl ⟨by kernel_rfl, fun X hS => by obtain ⟨e0, e1⟩ := hS; have h9 := HSL.out X; go_simp⟩) ⟨heap_cell HW.out 0, heap_cell HW.out 1⟩ ?_
        try go_simp
        refine wpAnyT_one 6 rfl (by kernel_rfl) (fun K hK => ?_)
        go_simp
        refine (HC.HasClass_impl (some ⟨gc, 0, none⟩) ua vc uc cs is ⟨#[e]⟩ w9 (by omega) (by omega) (PWo.row_cap HV.out) (PWo.sp_of HV.out (by omega)) (PWo.si_of HU.out (by omega))).mono ?_
        rintro e w10 ⟨rfl, hb⟩
        replace HB : Hid (Below w.heap.size w w10) := HB.out.trans (hb.mono HB.out.size)
        replace HV : Hid (w10.ownsRow w.heap.size 33 2 (.slice (some ⟨gc, 0, none⟩) cs.length vc) cs.length (flat cs)) := row_below hb HV.out
        replace HU : Hid (IR w10 w.heap.size (.slice ua is.length uc) is) := HU.out.below hb
        replace HW : Hid (w10.heap[bx]? = some (.cells #[.slice (some ⟨gc, 0, none⟩) cs.length vc, .slice ua is.length uc] 26 (0, 0))) := below_heap hb (lt_of_heap HW.out) HW.out
        clear hb
        rw [HCE.out]
        refine hK _ _ (fun _ => ⟨heap_cell HW.out 0, heap_cell HW.out 1⟩) ?_
        clear hK K
        refine wpAnyT_take (i := 7) (v := .bool false) rfl (by kernel_rfl) (by kernel_rfl) (by kernel_rfl) (by kernel_rfl) (fun _ _ _ h => h) (Or.inl ⟨by kernel_rfl, fun X hS => by obtain ⟨e0, e1⟩ := hS; go_simp⟩) ⟨heap_cell HW.out 0, heap_cell HW.out 1⟩ ?_
        try go_simp
        refine wpAnyT_take (i := 8) (v := .bool false) rfl (by kernel_rfl) (by kernel_rfl) (by kernel_rfl) (by kernel_rfl) (fun _ _ _ h => h) (Or.inl ⟨by kernel_rfl, fun X hS => by obtain ⟨e0, e1⟩ := hS; go_simp⟩) ⟨heap_cell HW.out 0, heap_cell HW.out 1⟩ ?_
        try go_simp
        refine wpAnyT_take (i := 9) (v := .agg #[.slice (some ⟨gc, 0, none⟩) cs.length vc, .slice ua is.length uc]) rfl (by kernel_rfl) (by kernel_rfl) (by kernel_rfl) (by kernel_rfl) (fun _ _ _ h => h) (Or.inl ⟨by kernel_rfl, fun X hS => by obtain ⟨e0, e1⟩ := hS; go_simp⟩) ⟨heap_cell HW.out 0, heap_cell HW.out 1⟩ ?_
        try go_simp
        refine wpAnyT_take (i := 10) (v := .string ⟨L.toArray⟩) rfl (by kernel_rfl) (by kernel_rfl) (by kernel_rfl) (by kernel_rfl) (fun _ _ _ h => h) (Or.inl ⟨by kernel_rfl, fun X hS => by obtain ⟨e0, e1⟩ := hS; go_simp⟩) ⟨heap_cell HW.out 0, heap_cell HW.out 1⟩ ?_
        try go_simp
        refine wpAnyT_take (i := 11) (v := .int .i64 k) rfl (by kernel_rfl) (by kernel_rfl) (by kernel_rfl) (by kernel_rfl) (fun _ _ _ h => h) (Or.inl ⟨by kernel_rfl, fun X hS => by obtain ⟨e0, e1⟩ := hS; go_simp⟩) ⟨heap_cell HW.out 0, heap_cell HW.out 1⟩ ?_
        try go_simp
        refine wpAnyT_take (i := 12) (v := .int .i64 k) rfl (by kernel_rfl) (by kernel_rfl) (by kernel_rfl) (by kernel_rfl) (fun _ _ _ h => h) (Or.inl ⟨by kernel_rfl, fun X hS => by obtain ⟨e0, e1⟩ := hS; go_simp⟩) ⟨heap_cell HW.out 0, heap_cell HW.out 1⟩ ?_
        try go_simp
        refine wpAnyT_take (i := 13) (v := .int .i64 ((k : Int) + 1)) rfl (by kernel_rfl) (by kernel_rfl) (by kernel_rfl) (by kernel_rfl) (fun _ _ _ h => h) (Or.inl ⟨by kernel_rfl, fun X hS => by obtain ⟨e0, e1⟩ := hS; go_simp; first | done | (rw [IntKind.wrap_i64]; omega)⟩) ⟨heap_cell HW.out 0, heap_cell HW.out 1⟩ ?_
        try go_simp
        refine wpAnyT_take (i := 14) (v := .string ⟨#[e]⟩) rfl (by kernel_rfl) (by kernel_rfl) (by kernel_rfl) (by kernel_rfl) (fun _ _ _ h => h) (Or.inl ⟨by kernel_rfl, fun X hS => by obtain ⟨e0, e1⟩ := hS; have h9 := HSL.out X; go_simp⟩) ⟨heap_cell HW.out 0, heap_cell HW.out 1⟩ ?_
        try go_simp
        refine wpAnyT_take (i := 16) (v := .string ⟨L.toArray⟩) rfl (by kernel_rfl) (by kernel_rfl) (by kernel_rfl) (by kernel_rfl) (fun _ _ _ h => h) (Or.inl ⟨by kernel_rfl, fun X hS => by obtain ⟨e0, e1⟩ := hS; go_simp⟩) ⟨heap_cell HW.out 0, heap_cell HW.out 1⟩ ?_
        try go_simp
        refine wpAnyT_one 15 rfl (by kernel_rfl) (fun K hK => ?_)
        go_simp
        refine (Sup.SupersOf_impl (some ⟨gc, 0, none⟩) ua vc uc cs is ⟨#[e]⟩ w10 (by omega) (by omega) (PWo.row_cap HV.out) (PWo.sp_of HV.out (by omega)) (PWo.si_of HU.out (by omega))).mono ?_
        rintro e w11 ⟨rfl, hb⟩
        replace HB : Hid (Below w.heap.size w w11) := HB.out.trans (hb.mono HB.out.size)
        replace HV : Hid (w11.ownsRow w.heap.size 33 2 (.slice (some ⟨gc, 0, none⟩) cs.length vc) cs.length (flat cs)) := row_below hb HV.out
        replace HU : Hid (IR w11 w.heap.size (.slice ua is.length uc) is) := HU.out.below hb
        replace HW : Hid (w11.heap[bx]? = some (.cells #[.slice (some ⟨gc, 0, none⟩) cs.length vc, .slice ua is.length uc] 26 (0, 0))) := below_heap hb (lt_of_heap HW.out) HW.out
        clear hb
        rw [HSE.out]
        refine hK _ _ (fun _ => ⟨heap_cell HW.out 0, heap_cell HW.out 1⟩) ?_
        clear hK K
        refine wpAnyT_one 17 rfl (by kernel_rfl) (fun K hK => ?_)
        go_simp
        refine (SupL.inLetters_yes LE L w11 HSUB.out hel (by omega)).mono ?_
        rintro e w12 ⟨rfl, hb⟩
        replace HB : Hid (Below w.heap.size w w12) := HB.out.trans (hb.mono HB.out.size)
        replace HV : Hid (w12.ownsRow w.heap.size 33 2 (.slice (some ⟨gc, 0, none⟩) cs.length vc) cs.length (flat cs)) := row_below hb HV.out
        replace HU : Hid (IR w12 w.heap.size (.slice ua is.length uc) is) := HU.out.below hb
        replace HW : Hid (w12.heap[bx]? = some (.cells #[.slice (some ⟨gc, 0, none⟩) cs.length vc, .slice ua is.length uc] 26 (0, 0))) := below_heap hb (lt_of_heap HW.out) HW.out
        clear hb
        refine hK _ _ (fun _ => ⟨heap_cell HW.out 0, heap_cell HW.out 1⟩) ?_
        clear hK K
        refine wpAnyT_take (i := 18) (v := .bool false) rfl (by kernel_rfl) (by kernel_rfl) (by kernel_rfl) (by kernel_rfl) (fun _ _ _ h => h) (Or.inl ⟨by kernel_rfl, fun X hS => by obtain ⟨e0, e1⟩ := hS; go_simp⟩) ⟨heap_cell HW.out 0, heap_cell HW.out 1⟩ ?_
        try go_simp
        refine wpAnyT_take (i := 19) (v := .bool false) rfl (by kernel_rfl) (by kernel_rfl) (by kernel_rfl) (by kernel_rfl) (fun _ _ _ h => h) (Or.inl ⟨by kernel_rfl, fun X hS => by obtain ⟨e0, e1⟩ := hS; go_simp⟩) ⟨heap_cell HW.out 0, heap_cell HW.out 1⟩ ?_
        try go_simp
        refine wpAnyT_take (i := 20) (v := .bool false) rfl (by kernel_rfl) (by kernel_rfl) (by kernel_rfl) (by kernel_rfl) (fun _ _ _ h => h) (Or.inl ⟨by kernel_rfl, fun X hS => by obtain ⟨e0, e1⟩ := hS; go_simp⟩) ⟨heap_cell HW.out 0, heap_cell HW.out 1⟩ ?_
        try go_simp
        refine wpAnyT_take (i := 21) (v := .string ⟨L.toArray⟩) rfl (by kernel_rfl) (by kernel_rfl) (by kernel_rfl) (by kernel_rfl) (fun _ _ _ h => h) (Or.inl ⟨by kernel_rfl, fun X hS => by obtain ⟨e0, e1⟩ := hS; go_simp⟩) ⟨heap_cell HW.out 0, heap_cell HW.out 1⟩ ?_
        try go_simp
        refine wpAnyT_take (i := 22) (v := .int .i64 k) rfl (by kernel_rfl) (by kernel_rfl) (by kernel_rfl) (by kernel_rfl) (fun _ _ _ h => h) (Or.inl ⟨by kernel_rfl, fun X hS => by obtain ⟨e0, e1⟩ := hS; go_simp⟩) ⟨heap_cell HW.out 0, heap_cell HW.out 1⟩ ?_
        try go_simp
        refine wpAnyT_take (i := 23) (v := .int .u8 e.toNat) rfl (by kernel_rfl) (by kernel_rfl) (by kernel_rfl) (by kernel_rfl) (fun _ _ _ h => h) (Or.inl ⟨by kernel_rfl, fun X hS => by obtain ⟨e0, e1⟩ := hS; go_simp; rw [Classes.get_at L k e HE.out]⟩) ⟨heap_cell HW.out 0, heap_cell HW.out 1⟩ ?_
        try go_simp
        refine wpAnyT_take (i := 24) (v := .string ⟨#[c]⟩) rfl (by kernel_rfl) (by kernel_rfl) (by kernel_rfl) (by kernel_rfl) (fun _ _ _ h => h) (Or.inl ⟨by kernel_rfl, fun X hS => by obtain ⟨e0, e1⟩ := hS; go_simp⟩) ⟨heap_cell HW.out 0, heap_cell HW.out 1⟩ ?_
        try go_simp
        refine wpAnyT_take (i := 25) (v := .int .u8 c.toNat) rfl (by kernel_rfl) (by kernel_rfl) (by kernel_rfl) (by kernel_rfl) (fun _ _ _ h => h) (Or.inl ⟨by kernel_rfl, fun X hS => by obtain ⟨e0, e1⟩ := hS; go_simp; try rfl⟩) ⟨heap_cell HW.out 0, heap_cell HW.out 1⟩ ?_
        try go_simp
        refine wpAnyT_take (i := 26) (v := .bool false) rfl (by kernel_rfl) (by kernel_rfl) (by kernel_rfl) (by kernel_rfl) (fun _ _ _ h => h) (Or.inl ⟨by kernel_rfl, fun X hS => by obtain ⟨e0, e1⟩ := hS; go_simp; exact HEC.out⟩) ⟨heap_cell HW.out 0, heap_cell HW.out 1⟩ ?_
        try go_simp
        refine wpAnyT_take (i := 27) (v := .bool false) rfl (by kernel_rfl) (by kernel_rfl) (by kernel_rfl) (by kernel_rfl) (fun _ _ _ h => h) (Or.inl ⟨by kernel_rfl, fun X hS => by obtain ⟨e0, e1⟩ := hS; go_simp⟩) ⟨heap_cell HW.out 0, heap_cell HW.out 1⟩ ?_
        try go_simp
        refine wpAnyT_take (i := 28) (v := .bool false) rfl (by kernel_rfl) (by kernel_rfl) (by kernel_rfl) (by kernel_rfl) (fun _ _ _ h => h) (Or.inl ⟨by kernel_rfl, fun X hS => by obtain ⟨e0, e1⟩ := hS; go_simp⟩) ⟨heap_cell HW.out 0, heap_cell HW.out 1⟩ ?_
        try go_simp
        refine wpAnyT_take (i := 29) (v := .int .i64 k) rfl (by kernel_rfl) (by kernel_rfl) (by kernel_rfl) (by kernel_rfl) (fun _ _ _ h => h) (Or.inl ⟨by kernel_rfl, fun X hS => by obtain ⟨e0, e1⟩ := hS; go_simp⟩) ⟨heap_cell HW.out 0, heap_cell HW.out 1⟩ ?_
        try go_simp
        by_cases hk0 : k = 0
        · subst hk0
          refine wpAnyT_take (i := 30) (v := .bool false) rfl (by kernel_rfl) (by kernel_rfl) (by kernel_rfl) (by kernel_rfl) (fun _ _ _ h => h) (Or.inl ⟨by kernel_rfl, fun X hS => by obtain ⟨e0, e1⟩ := hS; go_simp⟩) ⟨heap_cell HW.out 0, heap_cell HW.out 1⟩ ?_
          try go_simp
          refine wpAnyT_take (i := 31) (v := .bool false) rfl (by kernel_rfl) (by kernel_rfl) (by kernel_rfl) (by kernel_rfl) (fun _ _ _ h => h) (Or.inl ⟨by kernel_rfl, fun X hS => by obtain ⟨e0, e1⟩ := hS; go_simp⟩) ⟨heap_cell HW.out 0, heap_cell HW.out 1⟩ ?_
          try go_simp
          refine wpAnyT_take (i := 32) (v := undef) rfl (by kernel_rfl) (by kernel_rfl) (by kernel_rfl) (by kernel_rfl) (fun _ _ _ h => h) (Or.inr ⟨by kernel_rfl, rfl⟩) ⟨heap_cell HW.out 0, heap_cell HW.out 1⟩ ?_
          try go_simp
          refine wpAnyT_take (i := 33) (v := undef) rfl (by kernel_rfl) (by kernel_rfl) (by kernel_rfl) (by kernel_rfl) (fun _ _ _ h => h) (Or.inr ⟨by kernel_rfl, rfl⟩) ⟨heap_cell HW.out 0, heap_cell HW.out 1⟩ ?_
          try go_simp
          refine wpAnyT_take (i := 34) (v := undef) rfl (by kernel_rfl) (by kernel_rfl) (by kernel_rfl) (by kernel_rfl) (fun _ _ _ h => h) (Or.inr ⟨by kernel_rfl, rfl⟩) ⟨heap_cell HW.out 0, heap_cell HW.out 1⟩ ?_
          try go_simp
          refine wpAnyT_take (i := 35) (v := undef) rfl (by kernel_rfl) (by kernel_rfl) (by kernel_rfl) (by kernel_rfl) (fun _ _ _ h => h) (Or.inr ⟨by kernel_rfl, rfl⟩) ⟨heap_cell HW.out 0, heap_cell HW.out 1⟩ ?_
          try go_simp
          refine wpAnyT_take (i := 36) (v := undef) rfl (by kernel_rfl) (by kernel_rfl) (by kernel_rfl) (by kernel_rfl) (fun _ _ _ h => h) (Or.inr ⟨by kernel_rfl, rfl⟩) ⟨heap_cell HW.out 0, heap_cell HW.out 1⟩ ?_
          try go_simp
          refine wpAnyT_take (i := 37) (v := undef) rfl (by kernel_rfl) (by kernel_rfl) (by kernel_rfl) (by kernel_rfl) (fun _ _ _ h => h) (Or.inr ⟨by kernel_rfl, rfl⟩) ⟨heap_cell HW.out 0, heap_cell HW.out 1⟩ ?_
          try go_simp
          refine wpAnyT_take (i := 38) (v := undef) rfl (by kernel_rfl) (by kernel_rfl) (by kernel_rfl) (by kernel_rfl) (fun _ _ _ h => h) (Or.inr ⟨by kernel_rfl, rfl⟩) ⟨heap_cell HW.out 0, heap_cell HW.out 1⟩ ?_
          try go_simp
          refine wpAnyT_take (i := 39) (v := undef) rfl (by kernel_rfl) (by kernel_rfl) (by kernel_rfl) (by kernel_rfl) (fun _ _ _ h => h) (Or.inr ⟨by kernel_rfl, rfl⟩) ⟨heap_cell HW.out 0, heap_cell HW.out 1⟩ ?_
          try go_simp
          refine wpAnyT_take (i := 40) (v := .bool false) rfl (by kernel_rfl) (by kernel_rfl) (by kernel_rfl) (by kernel_rfl) (fun _ _ _ h => h) (Or.inl ⟨by kernel_rfl, fun X hS => by obtain ⟨e0, e1⟩ := hS; go_simp⟩) ⟨heap_cell HW.out 0, heap_cell HW.out 1⟩ ?_
          try go_simp
          refine wpAnyT_take (i := 41) (v := .bool false) rfl (by kernel_rfl) (by kernel_rfl) (by kernel_rfl) (by kernel_rfl) (fun _ _ _ h => h) (Or.inl ⟨by kernel_rfl, fun X hS => by obtain ⟨e0, e1⟩ := hS; go_simp⟩) ⟨heap_cell HW.out 0, heap_cell HW.out 1⟩ ?_
          try go_simp
          refine wpAnyT_drop _ 42 _ _ _ (by decide) (by kernel_rfl) ?_
          change wpList _ _ _ [] _ _
          go_wp2_with fail
          go_roundg (L.length - (0 + 1))
          case measure => omega
          case rel => exact ⟨0 + 1, by omega, by omega, by go_num, HB.out, HV.out, HU.out, HW.out⟩
        · obtain ⟨j, hj⟩ : ∃ j, k = j + 1 := ⟨k - 1, by omega⟩
          obtain ⟨d, hd⟩ : ∃ d, L[j]? = some d := ⟨_, List.getElem?_eq_getElem (by omega)⟩
          have hde := HORD.out j d hj hd
          have HD := hid hd
          have HDE := hid hde
          have hjl : j < L.length := by omega
          have HJ := hid hj
          have hkp : (k : Int) > 0 := by omega
          have hjk : (k : Int) - 1 = (j : Int) := by omega
          have HJK := hid hjk
          clear hd hde hjk hj
          refine wpAnyT_take (i := 30) (v := .bool true) rfl (by kernel_rfl) (by kernel_rfl) (by kernel_rfl) (by kernel_rfl) (fun _ _ _ h => h) (Or.inl ⟨by kernel_rfl, fun X hS => by obtain ⟨e0, e1⟩ := hS; go_simp; first | done | omega⟩) ⟨heap_cell HW.out 0, heap_cell HW.out 1⟩ ?_
          try go_simp
          refine wpAnyT_take (i := 31) (v := .bool true) rfl (by kernel_rfl) (by kernel_rfl) (by kernel_rfl) (by kernel_rfl) (fun _ _ _ h => h) (Or.inl ⟨by kernel_rfl, fun X hS => by obtain ⟨e0, e1⟩ := hS; go_simp⟩) ⟨heap_cell HW.out 0, heap_cell HW.out 1⟩ ?_
          try go_simp
          refine wpAnyT_take (i := 32) (v := .string ⟨L.toArray⟩) rfl (by kernel_rfl) (by kernel_rfl) (by kernel_rfl) (by kernel_rfl) (fun _ _ _ h => h) (Or.inl ⟨by kernel_rfl, fun X hS => by obtain ⟨e0, e1⟩ := hS; go_simp⟩) ⟨heap_cell HW.out 0, heap_cell HW.out 1⟩ ?_
          try go_simp
          refine wpAnyT_take (i := 33) (v := .int .i64 k) rfl (by kernel_rfl) (by kernel_rfl) (by kernel_rfl) (by kernel_rfl) (fun _ _ _ h => h) (Or.inl ⟨by kernel_rfl, fun X hS => by obtain ⟨e0, e1⟩ := hS; go_simp⟩) ⟨heap_cell HW.out 0, heap_cell HW.out 1⟩ ?_
          try go_simp
          refine wpAnyT_take (i := 34) (v := .int .i64 j) rfl (by kernel_rfl) (by kernel_rfl) (by kernel_rfl) (by kernel_rfl) (fun _ _ _ h => h) (Or.inl ⟨by kernel_rfl, fun X hS => by obtain ⟨e0, e1⟩ := hS; go_simp; rw [IntKind.wrap_i64]; have := HJK.out; omega⟩) ⟨heap_cell HW.out 0, heap_cell HW.out 1⟩ ?_
          try go_simp
          refine wpAnyT_take (i := 35) (v := .int .u8 d.toNat) rfl (by kernel_rfl) (by kernel_rfl) (by kernel_rfl) (by kernel_rfl) (fun _ _ _ h => h) (Or.inl ⟨by kernel_rfl, fun X hS => by obtain ⟨e0, e1⟩ := hS; go_simp; rw [Classes.get_at L j d HD.out]⟩) ⟨heap_cell HW.out 0, heap_cell HW.out 1⟩ ?_
          try go_simp
          refine wpAnyT_take (i := 36) (v := .string ⟨L.toArray⟩) rfl (by kernel_rfl) (by kernel_rfl) (by kernel_rfl) (by kernel_rfl) (fun _ _ _ h => h) (Or.inl ⟨by kernel_rfl, fun X hS => by obtain ⟨e0, e1⟩ := hS; go_simp⟩) ⟨heap_cell HW.out 0, heap_cell HW.out 1⟩ ?_
          try go_simp
          refine wpAnyT_take (i := 37) (v := .int .i64 k) rfl (by kernel_rfl) (by kernel_rfl) (by kernel_rfl) (by kernel_rfl) (fun _ _ _ h => h) (Or.inl ⟨by kernel_rfl, fun X hS => by obtain ⟨e0, e1⟩ := hS; go_simp⟩) ⟨heap_cell HW.out 0, heap_cell HW.out 1⟩ ?_
          try go_simp
          refine wpAnyT_take (i := 38) (v := .int .u8 e.toNat) rfl (by kernel_rfl) (by kernel_rfl) (by kernel_rfl) (by kernel_rfl) (fun _ _ _ h => h) (Or.inl ⟨by kernel_rfl, fun X hS => by obtain ⟨e0, e1⟩ := hS; go_simp; rw [Classes.get_at L k e HE.out]⟩) ⟨heap_cell HW.out 0, heap_cell HW.out 1⟩ ?_
          try go_simp
          refine wpAnyT_take (i := 39) (v := .bool false) rfl (by kernel_rfl) (by kernel_rfl) (by kernel_rfl) (by kernel_rfl) (fun _ _ _ h => h) (Or.inl ⟨by kernel_rfl, fun X hS => by obtain ⟨e0, e1⟩ := hS; go_simp; exact HDE.out⟩) ⟨heap_cell HW.out 0, heap_cell HW.out 1⟩ ?_
          try go_simp
          refine wpAnyT_take (i := 40) (v := .bool false) rfl (by kernel_rfl) (by kernel_rfl) (by kernel_rfl) (by kernel_rfl) (fun _ _ _ h => h) (Or.inl ⟨by kernel_rfl, fun X hS => by obtain ⟨e0, e1⟩ := hS; go_simp⟩) ⟨heap_cell HW.out 0, heap_cell HW.out 1⟩ ?_
          try go_simp
          refine wpAnyT_take (i := 41) (v := .bool false) rfl (by kernel_rfl) (by kernel_rfl) (by kernel_rfl) (by kernel_rfl) (fun _ _ _ h => h) (Or.inl ⟨by kernel_rfl, fun X hS => by obtain ⟨e0, e1⟩ := hS; go_simp⟩) ⟨heap_cell HW.out 0, heap_cell HW.out 1⟩ ?_
          try go_simp
          refine wpAnyT_drop _ 42 _ _ _ (by decide) (by kernel_rfl) ?_
          change wpList _ _ _ [] _ _
          go_wp2_with fail
          go_roundg (L.length - (k + 1))
          case measure => omega
          case rel => exact ⟨k + 1, by omega, by omega, by go_num, HB.out, HV.out, HU.out, HW.out⟩
      · have hke : k = L.length := by omega
        subst hke
        clear hq hk hlt
        obtain ⟨i0, i1, f0, f1⟩ := PWo.k2 HW.out
        have hli := lt_of_heap HW.out
        go_wp2_with fail
        clear i0 i1 f0 f1 hli
        go_loopg [109] cs.length (fun q i wr => ∃ k : Nat, k ≤ cs.length ∧ cs.length - k ≤ q ∧ i = .int .i64 k ∧ Hid (Below w.heap.size w wr) ∧ Hid (wr.ownsRow w.heap.size 33 2 (.slice (some ⟨gc, 0, none⟩) cs.length vc) cs.length (flat cs)) )
        case atStart => exact ⟨0, Nat.zero_le _, by simp, rfl, HB.out, HV.out⟩
        case round =>
          clear HB HV HU HW
          obtain ⟨k, hk, hq, rfl, hHB, hHV⟩ := hrel
          have HB := hid hHB.out
          have HV := hid hHV.out
          clear hHB hHV
          by_cases hlt : k < cs.length
          · obtain ⟨⟨x, y⟩, hp⟩ : ∃ p, cs[k]? = some p := ⟨_, List.getElem?_eq_getElem hlt⟩
            obtain ⟨q0, q1⟩ := flat_get cs k _ hp
            have c0 := row_cell HV.out _ q0
            have c1 := row_cell HV.out _ q1
            have htt : x.size + y.size ≤ tot cs := PWo.tot_at cs k _ hp
            have hyl : y.size ≤ 300 := by omega
            clear htt
            have HP := hid hp
            clear hp q0 q1
            by_cases hx : x = ⟨#[c]⟩
            · have heq : (x.toList == [c]) = true := by rw [hx]; simp
              have HSB := hid (HF.out.2 k _ HP.out hx)
              obtain ⟨yl, rfl⟩ : ∃ yl : List UInt8, y = ⟨yl.toArray⟩ := ⟨y.data.toList, rfl⟩
              have hyl2 : yl.length ≤ 300 := by simpa [ByteArray.size] using hyl
              clear hx hyl
              go_wp2_with fail
              clear c0 c1 heq
              have hzz := HB.out.size
              have hb : Below wr.heap.size wr (wr.alloc (.cells #[.string x, .string ⟨yl.toArray⟩] 33)) := (Below.refl _ _).alloc (Nat.le_refl _) _
              replace HB : Hid (Below w.heap.size w (wr.alloc (.cells #[.string x, .string ⟨yl.toArray⟩] 33))) := HB.out.trans (hb.mono HB.out.size)
              replace HV : Hid ((wr.alloc (.cells #[.string x, .string ⟨yl.toArray⟩] 33)).ownsRow w.heap.size 33 2 (.slice (some ⟨gc, 0, none⟩) cs.length vc) cs.length (flat cs)) := row_below hb HV.out
              clear hb
              generalize (wr.alloc (.cells #[.string x, .string ⟨yl.toArray⟩] 33)) = wx at *
              refine (SupL.inLetters_yes yl L wx (by simpa using HSB.out) (by omega) (by omega)).mono ?_
              rintro e w9 ⟨rfl, hb⟩
              replace HB : Hid (Below w.heap.size w w9) := HB.out.trans (hb.mono HB.out.size)
              replace HV : Hid (w9.ownsRow w.heap.size 33 2 (.slice (some ⟨gc, 0, none⟩) cs.length vc) cs.length (flat cs)) := row_below hb HV.out
              clear hb
              go_wp2_with fail
              go_roundg (cs.length - (k + 1))
              case measure => omega
              case rel => exact ⟨k + 1, by omega, by omega, by go_num, HB.out, HV.out⟩
            · have heq : (x.toList == [c]) = false := by
                have h8 := Known.str_ne hx
                simpa using h8
              clear hx
              have hzz := HB.out.size
              have hb : Below wr.heap.size wr (wr.alloc (.cells #[.string x, .string y] 33)) := (Below.refl _ _).alloc (Nat.le_refl _) _
              have AHB : Hid (Below w.heap.size w (wr.alloc (.cells #[.string x, .string y] 33))) := HB.out.trans (hb.mono HB.out.size)
              have AHV : Hid ((wr.alloc (.cells #[.string x, .string y] 33)).ownsRow w.heap.size 33 2 (.slice (some ⟨gc, 0, none⟩) cs.length vc) cs.length (flat cs)) := row_below hb HV.out
              clear hb
              go_wp2_with fail
              go_roundg (cs.length - (k + 1))
              case measure => omega
              case rel => exact ⟨k + 1, by omega, by omega, by go_num, AHB.out, AHV.out⟩
          · have hke : k = cs.length := by omega
            subst hke
            go_wp2
            go_ret
            exact ⟨rfl, HB.out⟩

theorem lifted (os : Os) (started : os.Started) (H : Type) (enc : TypeId × Value → H) :
    ReturnsInHanded {} Try.checked os 3 .any (Rows.fnSupersOfSpec.pre6 enc Try.prog Try.f3 Rows.fnSupersOfRow.domain false) (Rows.fnSupersOfSpec.post enc Try.prog Try.f3 false true false false) := by
  refine returnsInHanded_of_change (C := Try.checked) own started (by kernel_rfl) Try.func3
    (ChangeSpec.witness6 (enc := enc) (C := Try.checked) false ⟨#[], #[.slice none 0 0], []⟩ 8 (by kernel_rfl) (by kernel_rfl) (by kernel_rfl) (by kernel_rfl)) ?_
  intro W base args ds gs before hval0 hW hcnd _
  have hval : ∀ (j : Nat) t v, Try.f3.params[j]? = some t → args[j]? = some v → Value.okWide Try.prog W .any base t v := hval0
  have hW' := hW
  obtain ⟨p, q, hA0, hV, rfl, hfz, hnd⟩ := hW
  have hA : DataW.TrodAll enc Try.prog W 0 (fun _ => true) true Try.f3.params.toList args.toList ds p := hA0
  rw [Try.params3] at hA hval
  have hL := DataW.TrodAll.lt hA
  obtain ⟨v0, vs0, d0, ds0, p0, q0, hargs, rfl, rfl, h0, r0⟩ := trodAll_cons hA
  obtain ⟨rfl, rfl, rfl⟩ := trodAll_nil r0
  obtain rfl : args = #[v0] := by cases args; simp_all
  obtain ⟨rfl, rfl⟩ := trodVars_none hV
  have k0 := h0
  have l0 : ∀ x ∈ p0, x.block < W.heap.size := fun x hx => hL x (by simp [hx])
  obtain ⟨xs0, s0⟩ := Draw.open_sb Try.underlying22 Try.underlying5 (by kernel_rfl) (hval 0 22 v0 rfl rfl) h0
  clear hA0 hval0
  simp only [List.append_nil] at hW'
  refine (walk W _ _ s0).mono fun e W' ⟨he, bel⟩ => ?_
  subst he
  exact ⟨_, rfl, _, _, _, [], _, [], hW', (trodAll_cons_mk (shut_bool Try.underlying4 _) trodAll_mk0), (trodAll_cons_mk (Below.trod laidOut (by kernel_rfl) (of_decide_eq_true (by kernel_rfl)) k0 bel l0) trodAll_mk0), rfl, bel.frame _, fun h => by cases h⟩
theorem e1 : Rows.fnSupersOfRow.lifted = Rows.fnSupersOfRow.lifted := rfl
theorem e2 : Rows.fnSupersOfRow.make = Rows.fnSupersOfRow.make := rfl
theorem e3 : Rows.fnSupersOfRow.plainKeys = Rows.fnSupersOfRow.plainKeys := rfl
theorem facts : joinedFacts Try.pinned.checked.prog 3 Try.f3 Rows.fnSupersOfSpec Rows.fnSupersOfRow = true := by
  refine Facts.joined e1 e2 e3 ?_ ?_ ?_ ?_ ?_ ?_ ?_ ?_ ?_ ?_ ?_ ?_ ?_ ?_ ?_ ?_ ?_ ?_ ?_ ?_ ?_ ?_ ?_
  all_goals as_aux_lemma => kernel_rfl
theorem over : Rows.fnSupersOfRow.holds Try.pinned (OpenSpec.ofChange Rows.fnSupersOfSpec) :=
  OpenClaim.holds_of_wide 3 Try.f3 rfl rfl rfl rfl rfl rfl rfl ⟨rfl, rfl, rfl, rfl, rfl⟩ rfl rfl rfl rfl rfl (by kernel_rfl) Try.func3 facts
    (of_decide_eq_true (by kernel_rfl)) (by unfold Func.isWrapper; first | (rw [if_pos (by decide +kernel)]; kernel_rfl) | (rw [if_neg (by decide +kernel)]; exact ⟨rfl, rfl⟩))
    (fun os started H enc _ => lifted os started H enc)
end Go.Proofs.Ytbdmdhhocncopaa.fnSupersOf
namespace Go.Proofs.Ytbdmdhhocncopaa
theorem fnSupersOf_holds : Rows.FnSupersOfSaid := fnSupersOf.over
end Go.Proofs.Ytbdmdhhocncopaa
