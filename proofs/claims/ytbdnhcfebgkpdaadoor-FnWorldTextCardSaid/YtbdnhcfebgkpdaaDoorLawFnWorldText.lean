/- FnWorldText answers true for every input: a drawn world is parsed from its text, and a drawn text that is parsed is that of the world; both programs answer alike. Conditions: none. -/
import Derived.Test.YtbdnhcfebgkpdaaDoorWDx
import Derived.Test.YtbdnhcfebgkpdaaDoorShp
import Derived.Test.YtbdnhcfebgkpdaaDoorRows
import Derived.Test.YtbdnhcfebgkpdaaDoorCards
import Derived.Test.YtbdnhcfebgkpdaaDoorTie
import Derived.LaidMore
import Derived.Lay
import Derived.SevenTiedAt
import Derived.Stop.Joined
import Derived.Test.YtbdnhcfebgkpdaaDoorFacts
import Derived.WalkKit
import Derived.ProofKit
import Derived.OpenShut
import Derived.ShutString
import Derived.ChangeOld
import Derived.Below
import Derived.Carry
import Derived.Lib.SmallJoins
set_option linter.unusedVariables false
set_option linter.unusedSimpArgs false
set_option maxRecDepth 100000
namespace Go.Proofs.YtbdnhcfebgkpdaaDoor.fnWorldText
open Go.ChangeShapes Go.WideShapes Go.ChangeAt Go.RowKit Go.Joins Ty ListS IRow
open Go.ChangeMaps (open_string shut_string)

theorem own : ownKnob Tryd.prog.godebug = none := by kernel_rfl
theorem laidOut : laidOutB Tryd.prog = true := by kernel_rfl
theorem bytes (s : ByteArray) : ∃ l : List UInt8, s = ⟨l.toArray⟩ ∧ s.size = l.length := ⟨s.data.toList, rfl, by simp⟩
theorem rW_true {l : List UInt8} {cs : List BB} {is : List II} (h : (cs, is, true) = PWo.rW (PWoP.implW l)) : FW.fmtW cs is = ⟨l.toArray⟩ := by
  cases hi : PWoP.implW l with
  | none => rw [hi] at h; simp [PWo.rW] at h
  | some q =>
    obtain ⟨a, b⟩ := q
    rw [hi] at h
    simp [PWo.rW] at h
    obtain ⟨rfl, rfl⟩ := h
    exact RtP.text_of hi
set_option maxHeartbeats 16000000 in
theorem walk (w : World) (v0 : Value) (xs0 : List Int) (s0 : Draw.SB w v0 xs0) (v1 : Value) (xs1 : List Int) (s1 : Draw.SB w v1 xs1) (hm : ∃ m, w.cell? ⟨0, 0, none⟩ = some (.int .i64 m)) :
    Calls Tryd.prog 4 #[v0, v1] w fun e w' => e = .returned (.bool true) ∧ Below w.heap.size w w' := by
  obtain ⟨a0, c0, rfl⟩ := Draw.sb_slice s0
  obtain ⟨a1, c1, rfl⟩ := Draw.sb_slice s1
  by_cases hl0 : 1048576 < xs0.length
  · have hl0' : (xs0.length : Int) > 1048576 := by omega
    go_enter Tryd.func4, Tryd.ntmps4
    go_wp2
    go_ret
    exact ⟨rfl, Below.refl _ _⟩
  by_cases hl1 : 1048576 < xs1.length
  · have hl1' : (xs1.length : Int) > 1048576 := by omega
    have hl0' : ¬ (xs0.length : Int) > 1048576 := by omega
    go_enter Tryd.func4, Tryd.ntmps4
    go_wp2
    go_ret
    exact ⟨rfl, Below.refl _ _⟩
  have hl0' : ¬ (xs0.length : Int) > 1048576 := by omega
  have hl1' : ¬ (xs1.length : Int) > 1048576 := by omega
  have S0 := hid s0
  have S1 := hid s1
  clear s0 s1
  have HB : Hid (Below w.heap.size w w) := Below.refl _ _
  have HM := hid hm
  clear hm
  go_enter Tryd.func4, Tryd.ntmps4
  go_wp2_with fail
  refine (Draw.DrawFormatWorld_any _ xs0 w S0.out).mono ?_
  rintro e w1 ⟨v, u, cs, is, rfl, hw, hb⟩
  replace HB : Hid (Below w.heap.size w w1) := HB.out.trans (hb.mono HB.out.size)
  replace HM : Hid (∃ m, World.cell? w1 ⟨0, 0, none⟩ = some (.int .i64 m)) := PIn.hm_below HM.out hb
  replace S1 : Hid (Draw.SB w1 (.slice a1 xs1.length c1) xs1) := S1.out.below hb
  clear hb
  obtain ⟨hv, hu, h1, h0, h2, h3⟩ := hw
  obtain ⟨va, vc, rfl⟩ := row_slice hv
  obtain ⟨ua, uc, rfl⟩ := PWo.ir_slice hu
  have HV := hid hv
  have HU := hid hu
  clear hv hu S0 hl0' hl1'
  go_wp2_with fail
  have hb : Below w1.heap.size w1 (w1.alloc (.cells #[.slice va cs.length vc, .slice ua is.length uc] 42)) := (Below.refl _ _).alloc (Nat.le_refl _) _
  replace HB : Hid (Below w.heap.size w (w1.alloc (.cells #[.slice va cs.length vc, .slice ua is.length uc] 42))) := HB.out.trans (hb.mono HB.out.size)
  replace HM : Hid (∃ m, World.cell? (w1.alloc (.cells #[.slice va cs.length vc, .slice ua is.length uc] 42)) ⟨0, 0, none⟩ = some (.int .i64 m)) := PIn.hm_below HM.out hb
  replace S1 : Hid (Draw.SB (w1.alloc (.cells #[.slice va cs.length vc, .slice ua is.length uc] 42)) (.slice a1 xs1.length c1) xs1) := S1.out.below hb
  replace HV : Hid ((w1.alloc (.cells #[.slice va cs.length vc, .slice ua is.length uc] 42)).ownsRow w.heap.size 69 2 (.slice va cs.length vc) cs.length (flat cs)) := row_below hb HV.out
  replace HU : Hid (IR (w1.alloc (.cells #[.slice va cs.length vc, .slice ua is.length uc] 42)) w.heap.size (.slice ua is.length uc) is) := HU.out.below hb
  clear hb
  have X5 : Hid ((w1.alloc (.cells #[.slice va cs.length vc, .slice ua is.length uc] 42)).heap[w1.heap.size]? = some (.cells #[.slice va cs.length vc, .slice ua is.length uc] 42 (0, 0))) := heap_alloc_new _ _
  generalize (w1.alloc (.cells #[.slice va cs.length vc, .slice ua is.length uc] 42)) = w2 at *
  obtain ⟨b5, hbb5⟩ : ∃ x, x = w1.heap.size := ⟨_, rfl⟩
  rw [← hbb5] at X5 ⊢
  clear hbb5
  refine (FW.FormatWorld_impl va ua vc uc cs is w2 (by omega) (by omega) (PWo.row_cap HV.out) (PWo.sp_of HV.out (by omega)) (PWo.si_of HU.out (by omega))).mono ?_
  rintro e w3 ⟨rfl, hb⟩
  replace HB : Hid (Below w.heap.size w w3) := HB.out.trans (hb.mono HB.out.size)
  replace HM : Hid (∃ m, World.cell? w3 ⟨0, 0, none⟩ = some (.int .i64 m)) := PIn.hm_below HM.out hb
  replace S1 : Hid (Draw.SB w3 (.slice a1 xs1.length c1) xs1) := S1.out.below hb
  replace HV : Hid (w3.ownsRow w.heap.size 69 2 (.slice va cs.length vc) cs.length (flat cs)) := row_below hb HV.out
  replace HU : Hid (IR w3 w.heap.size (.slice ua is.length uc) is) := HU.out.below hb
  replace X5 : Hid (w3.heap[b5]? = some (.cells #[.slice va cs.length vc, .slice ua is.length uc] 42 (0, 0))) := below_heap hb (lt_of_heap X5.out) X5.out
  clear hb
  obtain ⟨sl, hsl⟩ : ∃ sl : List UInt8, sl = (FW.fmtW cs is).data.toList := ⟨_, rfl⟩
  have hse : FW.fmtW cs is = ⟨sl.toArray⟩ := by rw [hsl]
  have hsz : sl.length ≤ 30000 := by
    have h8 := Draw.fmtW_size cs is
    rw [hse] at h8
    have : sl.length = (ByteArray.mk sl.toArray).size := by simp [ByteArray.size]
    omega
  have HSE := hid hse
  have HSL := hid hsl
  rw [hse]
  clear hse hsl
  go_wp2_with fail
  obtain ⟨b, hb0⟩ : ∃ b, b = WV.wvB cs is := ⟨_, rfl⟩
  have HWV : Hid (WV.wvB cs is = b) := hb0.symm
  clear hb0
  cases b with
  | true =>
    have HRW : Hid (PWo.rW (PWoP.implW sl) = (cs, is, true)) := by show _ = _; rw [HSL.out, RtP.back HWV.out]; rfl
    refine (show Calls Tryd.prog _ _ w3 (PWo.WoPost w3 (cs, is, true)) from by rw [← HRW.out]; exact PWo.ParseWorld_impl sl w3 (by omega) HM.out).mono ?_
    rintro e w4 ⟨v, u, rfl, hrow, hiu, hb⟩
    obtain ⟨va7, vc7, rfl⟩ := row_slice hrow
    obtain ⟨ua7, uc7, rfl⟩ := PWo.ir_slice hiu
    have V7 := hid hrow
    have U7 := hid hiu
    clear hrow hiu
    replace HB : Hid (Below w.heap.size w w4) := HB.out.trans (hb.mono HB.out.size)
    replace HM : Hid (∃ m, World.cell? w4 ⟨0, 0, none⟩ = some (.int .i64 m)) := PIn.hm_below HM.out hb
    replace S1 : Hid (Draw.SB w4 (.slice a1 xs1.length c1) xs1) := S1.out.below hb
    replace HV : Hid (w4.ownsRow w.heap.size 69 2 (.slice va cs.length vc) cs.length (flat cs)) := row_below hb HV.out
    replace HU : Hid (IR w4 w.heap.size (.slice ua is.length uc) is) := HU.out.below hb
    replace X5 : Hid (w4.heap[b5]? = some (.cells #[.slice va cs.length vc, .slice ua is.length uc] 42 (0, 0))) := below_heap hb (lt_of_heap X5.out) X5.out
    clear hb
    go_wp2_with fail
    have hb : Below w4.heap.size w4 (w4.alloc (.cells #[.slice va7 cs.length vc7, .slice ua7 is.length uc7] 42)) := (Below.refl _ _).alloc (Nat.le_refl _) _
    replace HB : Hid (Below w.heap.size w (w4.alloc (.cells #[.slice va7 cs.length vc7, .slice ua7 is.length uc7] 42))) := HB.out.trans (hb.mono HB.out.size)
    replace HM : Hid (∃ m, World.cell? (w4.alloc (.cells #[.slice va7 cs.length vc7, .slice ua7 is.length uc7] 42)) ⟨0, 0, none⟩ = some (.int .i64 m)) := PIn.hm_below HM.out hb
    replace S1 : Hid (Draw.SB (w4.alloc (.cells #[.slice va7 cs.length vc7, .slice ua7 is.length uc7] 42)) (.slice a1 xs1.length c1) xs1) := S1.out.below hb
    replace HV : Hid ((w4.alloc (.cells #[.slice va7 cs.length vc7, .slice ua7 is.length uc7] 42)).ownsRow w.heap.size 69 2 (.slice va cs.length vc) cs.length (flat cs)) := row_below hb HV.out
    replace HU : Hid (IR (w4.alloc (.cells #[.slice va7 cs.length vc7, .slice ua7 is.length uc7] 42)) w.heap.size (.slice ua is.length uc) is) := HU.out.below hb
    replace X5 : Hid ((w4.alloc (.cells #[.slice va7 cs.length vc7, .slice ua7 is.length uc7] 42)).heap[b5]? = some (.cells #[.slice va cs.length vc, .slice ua is.length uc] 42 (0, 0))) := below_heap hb (lt_of_heap X5.out) X5.out
    replace V7 : Hid ((w4.alloc (.cells #[.slice va7 cs.length vc7, .slice ua7 is.length uc7] 42)).ownsRow w3.heap.size 69 2 (.slice va7 (cs : List BB).length vc7) (cs : List BB).length (flat cs)) := row_below hb V7.out
    replace U7 : Hid (IR (w4.alloc (.cells #[.slice va7 cs.length vc7, .slice ua7 is.length uc7] 42)) w3.heap.size (.slice ua7 (is : List II).length uc7) is) := U7.out.below hb
    clear hb
    have X7 : Hid ((w4.alloc (.cells #[.slice va7 cs.length vc7, .slice ua7 is.length uc7] 42)).heap[w4.heap.size]? = some (.cells #[.slice va7 cs.length vc7, .slice ua7 is.length uc7] 42 (0, 0))) := heap_alloc_new _ _
    generalize (w4.alloc (.cells #[.slice va7 cs.length vc7, .slice ua7 is.length uc7] 42)) = w5 at *
    obtain ⟨b7, hbb7⟩ : ∃ x, x = w4.heap.size := ⟨_, rfl⟩
    rw [← hbb7] at X7 ⊢
    clear hbb7
    refine wp_region_any (by kernel_rfl) ?_
    change wpAny _ _ _ _ _ _ _ (World.drew _)
    have hb : Below w5.heap.size w5 w5.drew := (Below.refl _ _).drew
    replace HB : Hid (Below w.heap.size w w5.drew) := HB.out.trans (hb.mono HB.out.size)
    replace HM : Hid (∃ m, World.cell? w5.drew ⟨0, 0, none⟩ = some (.int .i64 m)) := PIn.hm_below HM.out hb
    replace S1 : Hid (Draw.SB w5.drew (.slice a1 xs1.length c1) xs1) := S1.out.below hb
    replace HV : Hid (w5.drew.ownsRow w.heap.size 69 2 (.slice va cs.length vc) cs.length (flat cs)) := row_below hb HV.out
    replace HU : Hid (IR w5.drew w.heap.size (.slice ua is.length uc) is) := HU.out.below hb
    replace X5 : Hid (w5.drew.heap[b5]? = some (.cells #[.slice va cs.length vc, .slice ua is.length uc] 42 (0, 0))) := below_heap hb (lt_of_heap X5.out) X5.out
    replace V7 : Hid (w5.drew.ownsRow w3.heap.size 69 2 (.slice va7 (cs : List BB).length vc7) (cs : List BB).length (flat cs)) := row_below hb V7.out
    replace U7 : Hid (IR w5.drew w3.heap.size (.slice ua7 (is : List II).length uc7) is) := U7.out.below hb
    replace X7 : Hid (w5.drew.heap[b7]? = some (.cells #[.slice va7 cs.length vc7, .slice ua7 is.length uc7] 42 (0, 0))) := below_heap hb (lt_of_heap X7.out) X7.out
    clear hb
    generalize w5.drew = w6 at *
    refine wpAny_of_T (S := fun X => X.cell? ⟨b5, 0, none⟩ = some (.slice va cs.length vc) ∧ X.cell? ⟨b5, 1, none⟩ = some (.slice ua is.length uc) ∧ X.cell? ⟨b7, 0, none⟩ = some (.slice va7 cs.length vc7) ∧ X.cell? ⟨b7, 1, none⟩ = some (.slice ua7 is.length uc7)) (m := 26) _ _ _ _ ?_
    refine wpAnyT_take (i := 0) (v := .string ⟨sl.toArray⟩) rfl (by kernel_rfl) (by kernel_rfl) (by kernel_rfl) (by kernel_rfl) (fun _ _ _ h => h) (Or.inl ⟨by kernel_rfl, fun X hS => by obtain ⟨e0, e1, e2, e3⟩ := hS; go_simp⟩) ⟨heap_cell X5.out 0, heap_cell X5.out 1, heap_cell X7.out 0, heap_cell X7.out 1⟩ ?_
    try go_simp
    refine wpAnyT_take (i := 1) (v := .agg #[.slice va cs.length vc, .slice ua is.length uc]) rfl (by kernel_rfl) (by kernel_rfl) (by kernel_rfl) (by kernel_rfl) (fun _ _ _ h => h) (Or.inl ⟨by kernel_rfl, fun X hS => by obtain ⟨e0, e1, e2, e3⟩ := hS; go_simp⟩) ⟨heap_cell X5.out 0, heap_cell X5.out 1, heap_cell X7.out 0, heap_cell X7.out 1⟩ ?_
    try go_simp
    refine wpAnyT_one 2 rfl (by kernel_rfl) (fun K hK => ?_)
    go_simp
    refine (FW.FormatWorld_spec va ua vc uc cs is w6 (by omega) (by omega) (PWo.row_cap HV.out) (PWo.sp_of HV.out (by omega)) (PWo.si_of HU.out (by omega))).mono ?_
    rintro e w7 ⟨rfl, hb⟩
    replace HB : Hid (Below w.heap.size w w7) := HB.out.trans (hb.mono HB.out.size)
    replace HM : Hid (∃ m, World.cell? w7 ⟨0, 0, none⟩ = some (.int .i64 m)) := PIn.hm_below HM.out hb
    replace S1 : Hid (Draw.SB w7 (.slice a1 xs1.length c1) xs1) := S1.out.below hb
    replace HV : Hid (w7.ownsRow w.heap.size 69 2 (.slice va cs.length vc) cs.length (flat cs)) := row_below hb HV.out
    replace HU : Hid (IR w7 w.heap.size (.slice ua is.length uc) is) := HU.out.below hb
    replace X5 : Hid (w7.heap[b5]? = some (.cells #[.slice va cs.length vc, .slice ua is.length uc] 42 (0, 0))) := below_heap hb (lt_of_heap X5.out) X5.out
    replace V7 : Hid (w7.ownsRow w3.heap.size 69 2 (.slice va7 (cs : List BB).length vc7) (cs : List BB).length (flat cs)) := row_below hb V7.out
    replace U7 : Hid (IR w7 w3.heap.size (.slice ua7 (is : List II).length uc7) is) := U7.out.below hb
    replace X7 : Hid (w7.heap[b7]? = some (.cells #[.slice va7 cs.length vc7, .slice ua7 is.length uc7] 42 (0, 0))) := below_heap hb (lt_of_heap X7.out) X7.out
    clear hb
    rw [HSE.out]
    refine hK _ _ (fun _ => ⟨heap_cell X5.out 0, heap_cell X5.out 1, heap_cell X7.out 0, heap_cell X7.out 1⟩) ?_
    clear hK K
    refine wpAnyT_take (i := 3) (v := .bool false) rfl (by kernel_rfl) (by kernel_rfl) (by kernel_rfl) (by kernel_rfl) (fun _ _ _ h => h) (Or.inl ⟨by kernel_rfl, fun X hS => by obtain ⟨e0, e1, e2, e3⟩ := hS; go_simp; try simp⟩) ⟨heap_cell X5.out 0, heap_cell X5.out 1, heap_cell X7.out 0, heap_cell X7.out 1⟩ ?_
    try go_simp
    refine wpAnyT_take (i := 4) (v := .bool false) rfl (by kernel_rfl) (by kernel_rfl) (by kernel_rfl) (by kernel_rfl) (fun _ _ _ h => h) (Or.inl ⟨by kernel_rfl, fun X hS => by obtain ⟨e0, e1, e2, e3⟩ := hS; go_simp⟩) ⟨heap_cell X5.out 0, heap_cell X5.out 1, heap_cell X7.out 0, heap_cell X7.out 1⟩ ?_
    try go_simp
    refine wpAnyT_take (i := 5) (v := .agg #[.slice va cs.length vc, .slice ua is.length uc]) rfl (by kernel_rfl) (by kernel_rfl) (by kernel_rfl) (by kernel_rfl) (fun _ _ _ h => h) (Or.inl ⟨by kernel_rfl, fun X hS => by obtain ⟨e0, e1, e2, e3⟩ := hS; go_simp⟩) ⟨heap_cell X5.out 0, heap_cell X5.out 1, heap_cell X7.out 0, heap_cell X7.out 1⟩ ?_
    try go_simp
    refine wpAnyT_take (i := 7) (v := .agg #[.slice va cs.length vc, .slice ua is.length uc]) rfl (by kernel_rfl) (by kernel_rfl) (by kernel_rfl) (by kernel_rfl) (fun _ _ _ h => h) (Or.inl ⟨by kernel_rfl, fun X hS => by obtain ⟨e0, e1, e2, e3⟩ := hS; go_simp⟩) ⟨heap_cell X5.out 0, heap_cell X5.out 1, heap_cell X7.out 0, heap_cell X7.out 1⟩ ?_
    try go_simp
    refine wpAnyT_one 6 rfl (by kernel_rfl) (fun K hK => ?_)
    go_simp
    refine (WV.WorldValid_impl va ua vc uc cs is w7 (by omega) (by omega) (PWo.row_cap HV.out) (PWo.sp_of HV.out (by omega)) (PWo.si_of HU.out (by omega))).mono ?_
    rintro e w8 ⟨rfl, hb⟩
    replace HB : Hid (Below w.heap.size w w8) := HB.out.trans (hb.mono HB.out.size)
    replace HM : Hid (∃ m, World.cell? w8 ⟨0, 0, none⟩ = some (.int .i64 m)) := PIn.hm_below HM.out hb
    replace S1 : Hid (Draw.SB w8 (.slice a1 xs1.length c1) xs1) := S1.out.below hb
    replace HV : Hid (w8.ownsRow w.heap.size 69 2 (.slice va cs.length vc) cs.length (flat cs)) := row_below hb HV.out
    replace HU : Hid (IR w8 w.heap.size (.slice ua is.length uc) is) := HU.out.below hb
    replace X5 : Hid (w8.heap[b5]? = some (.cells #[.slice va cs.length vc, .slice ua is.length uc] 42 (0, 0))) := below_heap hb (lt_of_heap X5.out) X5.out
    replace V7 : Hid (w8.ownsRow w3.heap.size 69 2 (.slice va7 (cs : List BB).length vc7) (cs : List BB).length (flat cs)) := row_below hb V7.out
    replace U7 : Hid (IR w8 w3.heap.size (.slice ua7 (is : List II).length uc7) is) := U7.out.below hb
    replace X7 : Hid (w8.heap[b7]? = some (.cells #[.slice va7 cs.length vc7, .slice ua7 is.length uc7] 42 (0, 0))) := below_heap hb (lt_of_heap X7.out) X7.out
    clear hb
    rw [HWV.out]
    refine hK _ _ (fun _ => ⟨heap_cell X5.out 0, heap_cell X5.out 1, heap_cell X7.out 0, heap_cell X7.out 1⟩) ?_
    clear hK K
    refine wpAnyT_one 8 rfl (by kernel_rfl) (fun K hK => ?_)
    go_simp
    refine (WV.WorldValid_spec va ua vc uc cs is w8 (by omega) (by omega) (PWo.row_cap HV.out) (PWo.sp_of HV.out (by omega)) (PWo.si_of HU.out (by omega))).mono ?_
    rintro e w9 ⟨rfl, hb⟩
    replace HB : Hid (Below w.heap.size w w9) := HB.out.trans (hb.mono HB.out.size)
    replace HM : Hid (∃ m, World.cell? w9 ⟨0, 0, none⟩ = some (.int .i64 m)) := PIn.hm_below HM.out hb
    replace S1 : Hid (Draw.SB w9 (.slice a1 xs1.length c1) xs1) := S1.out.below hb
    replace HV : Hid (w9.ownsRow w.heap.size 69 2 (.slice va cs.length vc) cs.length (flat cs)) := row_below hb HV.out
    replace HU : Hid (IR w9 w.heap.size (.slice ua is.length uc) is) := HU.out.below hb
    replace X5 : Hid (w9.heap[b5]? = some (.cells #[.slice va cs.length vc, .slice ua is.length uc] 42 (0, 0))) := below_heap hb (lt_of_heap X5.out) X5.out
    replace V7 : Hid (w9.ownsRow w3.heap.size 69 2 (.slice va7 (cs : List BB).length vc7) (cs : List BB).length (flat cs)) := row_below hb V7.out
    replace U7 : Hid (IR w9 w3.heap.size (.slice ua7 (is : List II).length uc7) is) := U7.out.below hb
    replace X7 : Hid (w9.heap[b7]? = some (.cells #[.slice va7 cs.length vc7, .slice ua7 is.length uc7] 42 (0, 0))) := below_heap hb (lt_of_heap X7.out) X7.out
    clear hb
    rw [HWV.out]
    refine hK _ _ (fun _ => ⟨heap_cell X5.out 0, heap_cell X5.out 1, heap_cell X7.out 0, heap_cell X7.out 1⟩) ?_
    clear hK K
    refine wpAnyT_take (i := 9) (v := .bool false) rfl (by kernel_rfl) (by kernel_rfl) (by kernel_rfl) (by kernel_rfl) (fun _ _ _ h => h) (Or.inl ⟨by kernel_rfl, fun X hS => by obtain ⟨e0, e1, e2, e3⟩ := hS; go_simp⟩) ⟨heap_cell X5.out 0, heap_cell X5.out 1, heap_cell X7.out 0, heap_cell X7.out 1⟩ ?_
    try go_simp
    refine wpAnyT_take (i := 10) (v := .bool false) rfl (by kernel_rfl) (by kernel_rfl) (by kernel_rfl) (by kernel_rfl) (fun _ _ _ h => h) (Or.inl ⟨by kernel_rfl, fun X hS => by obtain ⟨e0, e1, e2, e3⟩ := hS; go_simp⟩) ⟨heap_cell X5.out 0, heap_cell X5.out 1, heap_cell X7.out 0, heap_cell X7.out 1⟩ ?_
    try go_simp
    refine wpAnyT_take (i := 11) (v := .bool false) rfl (by kernel_rfl) (by kernel_rfl) (by kernel_rfl) (by kernel_rfl) (fun _ _ _ h => h) (Or.inl ⟨by kernel_rfl, fun X hS => by obtain ⟨e0, e1, e2, e3⟩ := hS; go_simp⟩) ⟨heap_cell X5.out 0, heap_cell X5.out 1, heap_cell X7.out 0, heap_cell X7.out 1⟩ ?_
    try go_simp
    refine wpAnyT_take (i := 12) (v := .bool true) rfl (by kernel_rfl) (by kernel_rfl) (by kernel_rfl) (by kernel_rfl) (fun _ _ _ h => h) (Or.inl ⟨by kernel_rfl, fun X hS => by obtain ⟨e0, e1, e2, e3⟩ := hS; go_simp⟩) ⟨heap_cell X5.out 0, heap_cell X5.out 1, heap_cell X7.out 0, heap_cell X7.out 1⟩ ?_
    try go_simp
    refine wpAnyT_take (i := 13) (v := .agg #[.slice va cs.length vc, .slice ua is.length uc]) rfl (by kernel_rfl) (by kernel_rfl) (by kernel_rfl) (by kernel_rfl) (fun _ _ _ h => h) (Or.inl ⟨by kernel_rfl, fun X hS => by obtain ⟨e0, e1, e2, e3⟩ := hS; go_simp⟩) ⟨heap_cell X5.out 0, heap_cell X5.out 1, heap_cell X7.out 0, heap_cell X7.out 1⟩ ?_
    try go_simp
    refine wpAnyT_one 14 rfl (by kernel_rfl) (fun K hK => ?_)
    go_simp
    refine (WV.WorldValid_impl va ua vc uc cs is w9 (by omega) (by omega) (PWo.row_cap HV.out) (PWo.sp_of HV.out (by omega)) (PWo.si_of HU.out (by omega))).mono ?_
    rintro e w10 ⟨rfl, hb⟩
    replace HB : Hid (Below w.heap.size w w10) := HB.out.trans (hb.mono HB.out.size)
    replace HM : Hid (∃ m, World.cell? w10 ⟨0, 0, none⟩ = some (.int .i64 m)) := PIn.hm_below HM.out hb
    replace S1 : Hid (Draw.SB w10 (.slice a1 xs1.length c1) xs1) := S1.out.below hb
    replace HV : Hid (w10.ownsRow w.heap.size 69 2 (.slice va cs.length vc) cs.length (flat cs)) := row_below hb HV.out
    replace HU : Hid (IR w10 w.heap.size (.slice ua is.length uc) is) := HU.out.below hb
    replace X5 : Hid (w10.heap[b5]? = some (.cells #[.slice va cs.length vc, .slice ua is.length uc] 42 (0, 0))) := below_heap hb (lt_of_heap X5.out) X5.out
    replace V7 : Hid (w10.ownsRow w3.heap.size 69 2 (.slice va7 (cs : List BB).length vc7) (cs : List BB).length (flat cs)) := row_below hb V7.out
    replace U7 : Hid (IR w10 w3.heap.size (.slice ua7 (is : List II).length uc7) is) := U7.out.below hb
    replace X7 : Hid (w10.heap[b7]? = some (.cells #[.slice va7 cs.length vc7, .slice ua7 is.length uc7] 42 (0, 0))) := below_heap hb (lt_of_heap X7.out) X7.out
    clear hb
    rw [HWV.out]
    refine hK _ _ (fun _ => ⟨heap_cell X5.out 0, heap_cell X5.out 1, heap_cell X7.out 0, heap_cell X7.out 1⟩) ?_
    clear hK K
    refine wpAnyT_take (i := 15) (v := .bool false) rfl (by kernel_rfl) (by kernel_rfl) (by kernel_rfl) (by kernel_rfl) (fun _ _ _ h => h) (Or.inl ⟨by kernel_rfl, fun X hS => by obtain ⟨e0, e1, e2, e3⟩ := hS; go_simp⟩) ⟨heap_cell X5.out 0, heap_cell X5.out 1, heap_cell X7.out 0, heap_cell X7.out 1⟩ ?_
    try go_simp
    refine wpAnyT_take (i := 16) (v := .bool false) rfl (by kernel_rfl) (by kernel_rfl) (by kernel_rfl) (by kernel_rfl) (fun _ _ _ h => h) (Or.inl ⟨by kernel_rfl, fun X hS => by obtain ⟨e0, e1, e2, e3⟩ := hS; go_simp⟩) ⟨heap_cell X5.out 0, heap_cell X5.out 1, heap_cell X7.out 0, heap_cell X7.out 1⟩ ?_
    try go_simp
    refine wpAnyT_take (i := 17) (v := .bool false) rfl (by kernel_rfl) (by kernel_rfl) (by kernel_rfl) (by kernel_rfl) (fun _ _ _ h => h) (Or.inl ⟨by kernel_rfl, fun X hS => by obtain ⟨e0, e1, e2, e3⟩ := hS; go_simp⟩) ⟨heap_cell X5.out 0, heap_cell X5.out 1, heap_cell X7.out 0, heap_cell X7.out 1⟩ ?_
    try go_simp
    refine wpAnyT_take (i := 18) (v := .bool true) rfl (by kernel_rfl) (by kernel_rfl) (by kernel_rfl) (by kernel_rfl) (fun _ _ _ h => h) (Or.inl ⟨by kernel_rfl, fun X hS => by obtain ⟨e0, e1, e2, e3⟩ := hS; go_simp⟩) ⟨heap_cell X5.out 0, heap_cell X5.out 1, heap_cell X7.out 0, heap_cell X7.out 1⟩ ?_
    try go_simp
    refine wpAnyT_take (i := 19) (v := .bool true) rfl (by kernel_rfl) (by kernel_rfl) (by kernel_rfl) (by kernel_rfl) (fun _ _ _ h => h) (Or.inl ⟨by kernel_rfl, fun X hS => by obtain ⟨e0, e1, e2, e3⟩ := hS; go_simp⟩) ⟨heap_cell X5.out 0, heap_cell X5.out 1, heap_cell X7.out 0, heap_cell X7.out 1⟩ ?_
    try go_simp
    refine wpAnyT_take (i := 20) (v := .agg #[.slice va7 cs.length vc7, .slice ua7 is.length uc7]) rfl (by kernel_rfl) (by kernel_rfl) (by kernel_rfl) (by kernel_rfl) (fun _ _ _ h => h) (Or.inl ⟨by kernel_rfl, fun X hS => by obtain ⟨e0, e1, e2, e3⟩ := hS; go_simp⟩) ⟨heap_cell X5.out 0, heap_cell X5.out 1, heap_cell X7.out 0, heap_cell X7.out 1⟩ ?_
    try go_simp
    refine wpAnyT_take (i := 21) (v := .agg #[.slice va cs.length vc, .slice ua is.length uc]) rfl (by kernel_rfl) (by kernel_rfl) (by kernel_rfl) (by kernel_rfl) (fun _ _ _ h => h) (Or.inl ⟨by kernel_rfl, fun X hS => by obtain ⟨e0, e1, e2, e3⟩ := hS; go_simp⟩) ⟨heap_cell X5.out 0, heap_cell X5.out 1, heap_cell X7.out 0, heap_cell X7.out 1⟩ ?_
    try go_simp
    refine wpAnyT_one 22 rfl (by kernel_rfl) (fun K hK => ?_)
    go_simp
    refine (InsC.inWorld_same _ _ _ _ cs is w10 _ _ (by omega) (by omega) (by omega) V7.out U7.out HV.out HU.out).mono ?_
    rintro e w11 ⟨rfl, hb⟩
    replace HB : Hid (Below w.heap.size w w11) := HB.out.trans (hb.mono HB.out.size)
    replace HM : Hid (∃ m, World.cell? w11 ⟨0, 0, none⟩ = some (.int .i64 m)) := PIn.hm_below HM.out hb
    replace S1 : Hid (Draw.SB w11 (.slice a1 xs1.length c1) xs1) := S1.out.below hb
    replace HV : Hid (w11.ownsRow w.heap.size 69 2 (.slice va cs.length vc) cs.length (flat cs)) := row_below hb HV.out
    replace HU : Hid (IR w11 w.heap.size (.slice ua is.length uc) is) := HU.out.below hb
    replace X5 : Hid (w11.heap[b5]? = some (.cells #[.slice va cs.length vc, .slice ua is.length uc] 42 (0, 0))) := below_heap hb (lt_of_heap X5.out) X5.out
    replace V7 : Hid (w11.ownsRow w3.heap.size 69 2 (.slice va7 (cs : List BB).length vc7) (cs : List BB).length (flat cs)) := row_below hb V7.out
    replace U7 : Hid (IR w11 w3.heap.size (.slice ua7 (is : List II).length uc7) is) := U7.out.below hb
    replace X7 : Hid (w11.heap[b7]? = some (.cells #[.slice va7 cs.length vc7, .slice ua7 is.length uc7] 42 (0, 0))) := below_heap hb (lt_of_heap X7.out) X7.out
    clear hb
    refine hK _ _ (fun _ => ⟨heap_cell X5.out 0, heap_cell X5.out 1, heap_cell X7.out 0, heap_cell X7.out 1⟩) ?_
    clear hK K
    refine wpAnyT_take (i := 23) (v := .bool false) rfl (by kernel_rfl) (by kernel_rfl) (by kernel_rfl) (by kernel_rfl) (fun _ _ _ h => h) (Or.inl ⟨by kernel_rfl, fun X hS => by obtain ⟨e0, e1, e2, e3⟩ := hS; go_simp⟩) ⟨heap_cell X5.out 0, heap_cell X5.out 1, heap_cell X7.out 0, heap_cell X7.out 1⟩ ?_
    try go_simp
    refine wpAnyT_take (i := 24) (v := .bool false) rfl (by kernel_rfl) (by kernel_rfl) (by kernel_rfl) (by kernel_rfl) (fun _ _ _ h => h) (Or.inl ⟨by kernel_rfl, fun X hS => by obtain ⟨e0, e1, e2, e3⟩ := hS; go_simp⟩) ⟨heap_cell X5.out 0, heap_cell X5.out 1, heap_cell X7.out 0, heap_cell X7.out 1⟩ ?_
    try go_simp
    refine wpAnyT_take (i := 25) (v := .bool false) rfl (by kernel_rfl) (by kernel_rfl) (by kernel_rfl) (by kernel_rfl) (fun _ _ _ h => h) (Or.inl ⟨by kernel_rfl, fun X hS => by obtain ⟨e0, e1, e2, e3⟩ := hS; go_simp⟩) ⟨heap_cell X5.out 0, heap_cell X5.out 1, heap_cell X7.out 0, heap_cell X7.out 1⟩ ?_
    try go_simp
    refine wpAnyT_drop _ 26 _ _ _ (by decide) (by kernel_rfl) ?_
    change wpList _ _ _ [] _ _
    clear V7 U7 X7 HV HU X5 HRW HSL HSE HWV
    go_wp2_with fail
    refine (Draw.DrawParseWorld_any _ xs1 w11 S1.out).mono ?_
    rintro e w12 ⟨s, rfl, -, hs, hb⟩
    replace HB : Hid (Below w.heap.size w w12) := HB.out.trans (hb.mono HB.out.size)
    replace HM : Hid (∃ m, World.cell? w12 ⟨0, 0, none⟩ = some (.int .i64 m)) := PIn.hm_below HM.out hb
    replace S1 : Hid (Draw.SB w12 (.slice a1 xs1.length c1) xs1) := S1.out.below hb
    clear hb
    obtain ⟨l, rfl, hz⟩ := bytes s
    have hl : l.length ≤ 30000 := by omega
    obtain ⟨⟨cs2, is2, ok⟩, hr⟩ : ∃ r, r = PWo.rW (PWoP.implW l) := ⟨_, rfl⟩
    obtain ⟨hz1, hz2⟩ := PWo.rW_sizes l (by omega)
    have hr2 : (cs2, is2, ok) = PWo.rW (PWoP.specW l) := by rw [hr, PWoP.same]
    rw [← hr2] at hz1 hz2
    dsimp only at hz1 hz2
    have HR := hid hr
    have HR2 := hid hr2
    clear hr hr2 hz hs S1
    go_wp2_with fail
    refine (show Calls Tryd.prog _ _ w12 (PWo.WoPost w12 (cs2, is2, ok)) from by rw [HR.out]; exact PWo.ParseWorld_impl l w12 (by omega) HM.out).mono ?_
    rintro e w13 ⟨v, u, rfl, hrow, hiu, hb⟩
    obtain ⟨va10, vc10, rfl⟩ := row_slice hrow
    obtain ⟨ua10, uc10, rfl⟩ := PWo.ir_slice hiu
    have V10 := hid hrow
    have U10 := hid hiu
    clear hrow hiu
    replace HB : Hid (Below w.heap.size w w13) := HB.out.trans (hb.mono HB.out.size)
    replace HM : Hid (∃ m, World.cell? w13 ⟨0, 0, none⟩ = some (.int .i64 m)) := PIn.hm_below HM.out hb
    clear hb
    go_wp2_with fail
    have hb : Below w13.heap.size w13 (w13.alloc (.cells #[.slice va10 cs2.length vc10, .slice ua10 is2.length uc10] 42)) := (Below.refl _ _).alloc (Nat.le_refl _) _
    replace HB : Hid (Below w.heap.size w (w13.alloc (.cells #[.slice va10 cs2.length vc10, .slice ua10 is2.length uc10] 42))) := HB.out.trans (hb.mono HB.out.size)
    replace HM : Hid (∃ m, World.cell? (w13.alloc (.cells #[.slice va10 cs2.length vc10, .slice ua10 is2.length uc10] 42)) ⟨0, 0, none⟩ = some (.int .i64 m)) := PIn.hm_below HM.out hb
    replace V10 : Hid ((w13.alloc (.cells #[.slice va10 cs2.length vc10, .slice ua10 is2.length uc10] 42)).ownsRow w12.heap.size 69 2 (.slice va10 cs2.length vc10) cs2.length (flat cs2)) := row_below hb V10.out
    replace U10 : Hid (IR (w13.alloc (.cells #[.slice va10 cs2.length vc10, .slice ua10 is2.length uc10] 42)) w12.heap.size (.slice ua10 is2.length uc10) is2) := U10.out.below hb
    clear hb
    have X10 : Hid ((w13.alloc (.cells #[.slice va10 cs2.length vc10, .slice ua10 is2.length uc10] 42)).heap[w13.heap.size]? = some (.cells #[.slice va10 cs2.length vc10, .slice ua10 is2.length uc10] 42 (0, 0))) := heap_alloc_new _ _
    generalize (w13.alloc (.cells #[.slice va10 cs2.length vc10, .slice ua10 is2.length uc10] 42)) = w14 at *
    obtain ⟨b10, hbb10⟩ : ∃ x, x = w13.heap.size := ⟨_, rfl⟩
    rw [← hbb10] at X10 ⊢
    clear hbb10
    refine (show Calls Tryd.prog _ _ w14 (PWo.WoPost w14 (cs2, is2, ok)) from by rw [HR2.out]; exact PWo.ParseWorld_spec l w14 (by omega)).mono ?_
    rintro e w15 ⟨v, u, rfl, hrow, hiu, hb⟩
    obtain ⟨va12, vc12, rfl⟩ := row_slice hrow
    obtain ⟨ua12, uc12, rfl⟩ := PWo.ir_slice hiu
    have V12 := hid hrow
    have U12 := hid hiu
    clear hrow hiu
    replace HB : Hid (Below w.heap.size w w15) := HB.out.trans (hb.mono HB.out.size)
    replace HM : Hid (∃ m, World.cell? w15 ⟨0, 0, none⟩ = some (.int .i64 m)) := PIn.hm_below HM.out hb
    replace V10 : Hid (w15.ownsRow w12.heap.size 69 2 (.slice va10 cs2.length vc10) cs2.length (flat cs2)) := row_below hb V10.out
    replace U10 : Hid (IR w15 w12.heap.size (.slice ua10 is2.length uc10) is2) := U10.out.below hb
    replace X10 : Hid (w15.heap[b10]? = some (.cells #[.slice va10 cs2.length vc10, .slice ua10 is2.length uc10] 42 (0, 0))) := below_heap hb (lt_of_heap X10.out) X10.out
    clear hb
    obtain ⟨i0, i1, f0, f1⟩ := PWo.k2 X10.out
    have hli := lt_of_heap X10.out
    go_wp2_with fail
    clear i0 i1 f0 f1 hli
    have hb : Below w15.heap.size w15 (w15.alloc (.cells #[.slice va12 cs2.length vc12, .slice ua12 is2.length uc12] 42)) := (Below.refl _ _).alloc (Nat.le_refl _) _
    replace HB : Hid (Below w.heap.size w (w15.alloc (.cells #[.slice va12 cs2.length vc12, .slice ua12 is2.length uc12] 42))) := HB.out.trans (hb.mono HB.out.size)
    replace HM : Hid (∃ m, World.cell? (w15.alloc (.cells #[.slice va12 cs2.length vc12, .slice ua12 is2.length uc12] 42)) ⟨0, 0, none⟩ = some (.int .i64 m)) := PIn.hm_below HM.out hb
    replace V10 : Hid ((w15.alloc (.cells #[.slice va12 cs2.length vc12, .slice ua12 is2.length uc12] 42)).ownsRow w12.heap.size 69 2 (.slice va10 cs2.length vc10) cs2.length (flat cs2)) := row_below hb V10.out
    replace U10 : Hid (IR (w15.alloc (.cells #[.slice va12 cs2.length vc12, .slice ua12 is2.length uc12] 42)) w12.heap.size (.slice ua10 is2.length uc10) is2) := U10.out.below hb
    replace X10 : Hid ((w15.alloc (.cells #[.slice va12 cs2.length vc12, .slice ua12 is2.length uc12] 42)).heap[b10]? = some (.cells #[.slice va10 cs2.length vc10, .slice ua10 is2.length uc10] 42 (0, 0))) := below_heap hb (lt_of_heap X10.out) X10.out
    replace V12 : Hid ((w15.alloc (.cells #[.slice va12 cs2.length vc12, .slice ua12 is2.length uc12] 42)).ownsRow w14.heap.size 69 2 (.slice va12 cs2.length vc12) cs2.length (flat cs2)) := row_below hb V12.out
    replace U12 : Hid (IR (w15.alloc (.cells #[.slice va12 cs2.length vc12, .slice ua12 is2.length uc12] 42)) w14.heap.size (.slice ua12 is2.length uc12) is2) := U12.out.below hb
    clear hb
    generalize (w15.alloc (.cells #[.slice va12 cs2.length vc12, .slice ua12 is2.length uc12] 42)) = wz at *
    refine (InsC.inWorld_same _ _ _ _ cs2 is2 wz _ _ (by omega) (by omega) (by omega) V10.out U10.out V12.out U12.out).mono ?_
    rintro e w16 ⟨rfl, hb⟩
    replace HB : Hid (Below w.heap.size w w16) := HB.out.trans (hb.mono HB.out.size)
    replace HM : Hid (∃ m, World.cell? w16 ⟨0, 0, none⟩ = some (.int .i64 m)) := PIn.hm_below HM.out hb
    replace V10 : Hid (w16.ownsRow w12.heap.size 69 2 (.slice va10 cs2.length vc10) cs2.length (flat cs2)) := row_below hb V10.out
    replace U10 : Hid (IR w16 w12.heap.size (.slice ua10 is2.length uc10) is2) := U10.out.below hb
    replace X10 : Hid (w16.heap[b10]? = some (.cells #[.slice va10 cs2.length vc10, .slice ua10 is2.length uc10] 42 (0, 0))) := below_heap hb (lt_of_heap X10.out) X10.out
    replace V12 : Hid (w16.ownsRow w14.heap.size 69 2 (.slice va12 cs2.length vc12) cs2.length (flat cs2)) := row_below hb V12.out
    replace U12 : Hid (IR w16 w14.heap.size (.slice ua12 is2.length uc12) is2) := U12.out.below hb
    clear hb
    have hoo : (ok == ok) = true := by simp
    cases ok with
    | false =>
      go_wp2
      go_ret
      exact ⟨rfl, HB.out⟩
    | true =>
      have HFT := hid (rW_true HR.out)
      obtain ⟨i0, i1, f0, f1⟩ := PWo.k2 X10.out
      have hli := lt_of_heap X10.out
      go_wp2_with fail
      clear i0 i1 f0 f1
      refine (FW.FormatWorld_impl va10 ua10 vc10 uc10 cs2 is2 w16 (by omega) (by omega) (PWo.row_cap V10.out) (PWo.sp_of V10.out (by omega)) (PWo.si_of U10.out (by omega))).mono ?_
      rintro e w17 ⟨rfl, hb⟩
      replace HB : Hid (Below w.heap.size w w17) := HB.out.trans (hb.mono HB.out.size)
      replace HM : Hid (∃ m, World.cell? w17 ⟨0, 0, none⟩ = some (.int .i64 m)) := PIn.hm_below HM.out hb
      replace V10 : Hid (w17.ownsRow w12.heap.size 69 2 (.slice va10 cs2.length vc10) cs2.length (flat cs2)) := row_below hb V10.out
      replace U10 : Hid (IR w17 w12.heap.size (.slice ua10 is2.length uc10) is2) := U10.out.below hb
      replace X10 : Hid (w17.heap[b10]? = some (.cells #[.slice va10 cs2.length vc10, .slice ua10 is2.length uc10] 42 (0, 0))) := below_heap hb (lt_of_heap X10.out) X10.out
      replace V12 : Hid (w17.ownsRow w14.heap.size 69 2 (.slice va12 cs2.length vc12) cs2.length (flat cs2)) := row_below hb V12.out
      replace U12 : Hid (IR w17 w14.heap.size (.slice ua12 is2.length uc12) is2) := U12.out.below hb
      clear hb
      rw [HFT.out]
      go_wp2
      go_ret
      exact ⟨rfl, HB.out⟩
  | false =>
    have HRW : Hid (PWo.rW (PWoP.implW sl) = ([], [], false)) := by show _ = _; rw [HSL.out, RtP.back_no HWV.out]; rfl
    refine (show Calls Tryd.prog _ _ w3 (PWo.WoPost w3 ([], [], false)) from by rw [← HRW.out]; exact PWo.ParseWorld_impl sl w3 (by omega) HM.out).mono ?_
    rintro e w4 ⟨v, u, rfl, hrow, hiu, hb⟩
    obtain ⟨va7, vc7, rfl⟩ := row_slice hrow
    obtain ⟨ua7, uc7, rfl⟩ := PWo.ir_slice hiu
    have V7 := hid hrow
    have U7 := hid hiu
    clear hrow hiu
    replace HB : Hid (Below w.heap.size w w4) := HB.out.trans (hb.mono HB.out.size)
    replace HM : Hid (∃ m, World.cell? w4 ⟨0, 0, none⟩ = some (.int .i64 m)) := PIn.hm_below HM.out hb
    replace S1 : Hid (Draw.SB w4 (.slice a1 xs1.length c1) xs1) := S1.out.below hb
    replace HV : Hid (w4.ownsRow w.heap.size 69 2 (.slice va cs.length vc) cs.length (flat cs)) := row_below hb HV.out
    replace HU : Hid (IR w4 w.heap.size (.slice ua is.length uc) is) := HU.out.below hb
    replace X5 : Hid (w4.heap[b5]? = some (.cells #[.slice va cs.length vc, .slice ua is.length uc] 42 (0, 0))) := below_heap hb (lt_of_heap X5.out) X5.out
    clear hb
    go_wp2_with fail
    have hb : Below w4.heap.size w4 (w4.alloc (.cells #[.slice va7 0 vc7, .slice ua7 0 uc7] 42)) := (Below.refl _ _).alloc (Nat.le_refl _) _
    replace HB : Hid (Below w.heap.size w (w4.alloc (.cells #[.slice va7 0 vc7, .slice ua7 0 uc7] 42))) := HB.out.trans (hb.mono HB.out.size)
    replace HM : Hid (∃ m, World.cell? (w4.alloc (.cells #[.slice va7 0 vc7, .slice ua7 0 uc7] 42)) ⟨0, 0, none⟩ = some (.int .i64 m)) := PIn.hm_below HM.out hb
    replace S1 : Hid (Draw.SB (w4.alloc (.cells #[.slice va7 0 vc7, .slice ua7 0 uc7] 42)) (.slice a1 xs1.length c1) xs1) := S1.out.below hb
    replace HV : Hid ((w4.alloc (.cells #[.slice va7 0 vc7, .slice ua7 0 uc7] 42)).ownsRow w.heap.size 69 2 (.slice va cs.length vc) cs.length (flat cs)) := row_below hb HV.out
    replace HU : Hid (IR (w4.alloc (.cells #[.slice va7 0 vc7, .slice ua7 0 uc7] 42)) w.heap.size (.slice ua is.length uc) is) := HU.out.below hb
    replace X5 : Hid ((w4.alloc (.cells #[.slice va7 0 vc7, .slice ua7 0 uc7] 42)).heap[b5]? = some (.cells #[.slice va cs.length vc, .slice ua is.length uc] 42 (0, 0))) := below_heap hb (lt_of_heap X5.out) X5.out
    replace V7 : Hid ((w4.alloc (.cells #[.slice va7 0 vc7, .slice ua7 0 uc7] 42)).ownsRow w3.heap.size 69 2 (.slice va7 ([] : List BB).length vc7) ([] : List BB).length (flat [])) := row_below hb V7.out
    replace U7 : Hid (IR (w4.alloc (.cells #[.slice va7 0 vc7, .slice ua7 0 uc7] 42)) w3.heap.size (.slice ua7 ([] : List II).length uc7) []) := U7.out.below hb
    clear hb
    have X7 : Hid ((w4.alloc (.cells #[.slice va7 0 vc7, .slice ua7 0 uc7] 42)).heap[w4.heap.size]? = some (.cells #[.slice va7 0 vc7, .slice ua7 0 uc7] 42 (0, 0))) := heap_alloc_new _ _
    generalize (w4.alloc (.cells #[.slice va7 0 vc7, .slice ua7 0 uc7] 42)) = w5 at *
    obtain ⟨b7, hbb7⟩ : ∃ x, x = w4.heap.size := ⟨_, rfl⟩
    rw [← hbb7] at X7 ⊢
    clear hbb7
    refine wp_region_any (by kernel_rfl) ?_
    change wpAny _ _ _ _ _ _ _ (World.drew _)
    have hb : Below w5.heap.size w5 w5.drew := (Below.refl _ _).drew
    replace HB : Hid (Below w.heap.size w w5.drew) := HB.out.trans (hb.mono HB.out.size)
    replace HM : Hid (∃ m, World.cell? w5.drew ⟨0, 0, none⟩ = some (.int .i64 m)) := PIn.hm_below HM.out hb
    replace S1 : Hid (Draw.SB w5.drew (.slice a1 xs1.length c1) xs1) := S1.out.below hb
    replace HV : Hid (w5.drew.ownsRow w.heap.size 69 2 (.slice va cs.length vc) cs.length (flat cs)) := row_below hb HV.out
    replace HU : Hid (IR w5.drew w.heap.size (.slice ua is.length uc) is) := HU.out.below hb
    replace X5 : Hid (w5.drew.heap[b5]? = some (.cells #[.slice va cs.length vc, .slice ua is.length uc] 42 (0, 0))) := below_heap hb (lt_of_heap X5.out) X5.out
    replace V7 : Hid (w5.drew.ownsRow w3.heap.size 69 2 (.slice va7 ([] : List BB).length vc7) ([] : List BB).length (flat [])) := row_below hb V7.out
    replace U7 : Hid (IR w5.drew w3.heap.size (.slice ua7 ([] : List II).length uc7) []) := U7.out.below hb
    replace X7 : Hid (w5.drew.heap[b7]? = some (.cells #[.slice va7 0 vc7, .slice ua7 0 uc7] 42 (0, 0))) := below_heap hb (lt_of_heap X7.out) X7.out
    clear hb
    generalize w5.drew = w6 at *
    refine wpAny_of_T (S := fun X => X.cell? ⟨b5, 0, none⟩ = some (.slice va cs.length vc) ∧ X.cell? ⟨b5, 1, none⟩ = some (.slice ua is.length uc) ∧ X.cell? ⟨b7, 0, none⟩ = some (.slice va7 0 vc7) ∧ X.cell? ⟨b7, 1, none⟩ = some (.slice ua7 0 uc7)) (m := 26) _ _ _ _ ?_
    refine wpAnyT_take (i := 0) (v := .string ⟨sl.toArray⟩) rfl (by kernel_rfl) (by kernel_rfl) (by kernel_rfl) (by kernel_rfl) (fun _ _ _ h => h) (Or.inl ⟨by kernel_rfl, fun X hS => by obtain ⟨e0, e1, e2, e3⟩ := hS; go_simp⟩) ⟨heap_cell X5.out 0, heap_cell X5.out 1, heap_cell X7.out 0, heap_cell X7.out 1⟩ ?_
    try go_simp
    refine wpAnyT_take (i := 1) (v := .agg #[.slice va cs.length vc, .slice ua is.length uc]) rfl (by kernel_rfl) (by kernel_rfl) (by kernel_rfl) (by kernel_rfl) (fun _ _ _ h => h) (Or.inl ⟨by kernel_rfl, fun X hS => by obtain ⟨e0, e1, e2, e3⟩ := hS; go_simp⟩) ⟨heap_cell X5.out 0, heap_cell X5.out 1, heap_cell X7.out 0, heap_cell X7.out 1⟩ ?_
    try go_simp
    refine wpAnyT_one 2 rfl (by kernel_rfl) (fun K hK => ?_)
    go_simp
    refine (FW.FormatWorld_spec va ua vc uc cs is w6 (by omega) (by omega) (PWo.row_cap HV.out) (PWo.sp_of HV.out (by omega)) (PWo.si_of HU.out (by omega))).mono ?_
    rintro e w7 ⟨rfl, hb⟩
    replace HB : Hid (Below w.heap.size w w7) := HB.out.trans (hb.mono HB.out.size)
    replace HM : Hid (∃ m, World.cell? w7 ⟨0, 0, none⟩ = some (.int .i64 m)) := PIn.hm_below HM.out hb
    replace S1 : Hid (Draw.SB w7 (.slice a1 xs1.length c1) xs1) := S1.out.below hb
    replace HV : Hid (w7.ownsRow w.heap.size 69 2 (.slice va cs.length vc) cs.length (flat cs)) := row_below hb HV.out
    replace HU : Hid (IR w7 w.heap.size (.slice ua is.length uc) is) := HU.out.below hb
    replace X5 : Hid (w7.heap[b5]? = some (.cells #[.slice va cs.length vc, .slice ua is.length uc] 42 (0, 0))) := below_heap hb (lt_of_heap X5.out) X5.out
    replace V7 : Hid (w7.ownsRow w3.heap.size 69 2 (.slice va7 ([] : List BB).length vc7) ([] : List BB).length (flat [])) := row_below hb V7.out
    replace U7 : Hid (IR w7 w3.heap.size (.slice ua7 ([] : List II).length uc7) []) := U7.out.below hb
    replace X7 : Hid (w7.heap[b7]? = some (.cells #[.slice va7 0 vc7, .slice ua7 0 uc7] 42 (0, 0))) := below_heap hb (lt_of_heap X7.out) X7.out
    clear hb
    rw [HSE.out]
    refine hK _ _ (fun _ => ⟨heap_cell X5.out 0, heap_cell X5.out 1, heap_cell X7.out 0, heap_cell X7.out 1⟩) ?_
    clear hK K
    refine wpAnyT_take (i := 3) (v := .bool false) rfl (by kernel_rfl) (by kernel_rfl) (by kernel_rfl) (by kernel_rfl) (fun _ _ _ h => h) (Or.inl ⟨by kernel_rfl, fun X hS => by obtain ⟨e0, e1, e2, e3⟩ := hS; go_simp; try simp⟩) ⟨heap_cell X5.out 0, heap_cell X5.out 1, heap_cell X7.out 0, heap_cell X7.out 1⟩ ?_
    try go_simp
    refine wpAnyT_take (i := 4) (v := .bool false) rfl (by kernel_rfl) (by kernel_rfl) (by kernel_rfl) (by kernel_rfl) (fun _ _ _ h => h) (Or.inl ⟨by kernel_rfl, fun X hS => by obtain ⟨e0, e1, e2, e3⟩ := hS; go_simp⟩) ⟨heap_cell X5.out 0, heap_cell X5.out 1, heap_cell X7.out 0, heap_cell X7.out 1⟩ ?_
    try go_simp
    refine wpAnyT_take (i := 5) (v := .agg #[.slice va cs.length vc, .slice ua is.length uc]) rfl (by kernel_rfl) (by kernel_rfl) (by kernel_rfl) (by kernel_rfl) (fun _ _ _ h => h) (Or.inl ⟨by kernel_rfl, fun X hS => by obtain ⟨e0, e1, e2, e3⟩ := hS; go_simp⟩) ⟨heap_cell X5.out 0, heap_cell X5.out 1, heap_cell X7.out 0, heap_cell X7.out 1⟩ ?_
    try go_simp
    refine wpAnyT_take (i := 7) (v := .agg #[.slice va cs.length vc, .slice ua is.length uc]) rfl (by kernel_rfl) (by kernel_rfl) (by kernel_rfl) (by kernel_rfl) (fun _ _ _ h => h) (Or.inl ⟨by kernel_rfl, fun X hS => by obtain ⟨e0, e1, e2, e3⟩ := hS; go_simp⟩) ⟨heap_cell X5.out 0, heap_cell X5.out 1, heap_cell X7.out 0, heap_cell X7.out 1⟩ ?_
    try go_simp
    refine wpAnyT_one 6 rfl (by kernel_rfl) (fun K hK => ?_)
    go_simp
    refine (WV.WorldValid_impl va ua vc uc cs is w7 (by omega) (by omega) (PWo.row_cap HV.out) (PWo.sp_of HV.out (by omega)) (PWo.si_of HU.out (by omega))).mono ?_
    rintro e w8 ⟨rfl, hb⟩
    replace HB : Hid (Below w.heap.size w w8) := HB.out.trans (hb.mono HB.out.size)
    replace HM : Hid (∃ m, World.cell? w8 ⟨0, 0, none⟩ = some (.int .i64 m)) := PIn.hm_below HM.out hb
    replace S1 : Hid (Draw.SB w8 (.slice a1 xs1.length c1) xs1) := S1.out.below hb
    replace HV : Hid (w8.ownsRow w.heap.size 69 2 (.slice va cs.length vc) cs.length (flat cs)) := row_below hb HV.out
    replace HU : Hid (IR w8 w.heap.size (.slice ua is.length uc) is) := HU.out.below hb
    replace X5 : Hid (w8.heap[b5]? = some (.cells #[.slice va cs.length vc, .slice ua is.length uc] 42 (0, 0))) := below_heap hb (lt_of_heap X5.out) X5.out
    replace V7 : Hid (w8.ownsRow w3.heap.size 69 2 (.slice va7 ([] : List BB).length vc7) ([] : List BB).length (flat [])) := row_below hb V7.out
    replace U7 : Hid (IR w8 w3.heap.size (.slice ua7 ([] : List II).length uc7) []) := U7.out.below hb
    replace X7 : Hid (w8.heap[b7]? = some (.cells #[.slice va7 0 vc7, .slice ua7 0 uc7] 42 (0, 0))) := below_heap hb (lt_of_heap X7.out) X7.out
    clear hb
    rw [HWV.out]
    refine hK _ _ (fun _ => ⟨heap_cell X5.out 0, heap_cell X5.out 1, heap_cell X7.out 0, heap_cell X7.out 1⟩) ?_
    clear hK K
    refine wpAnyT_one 8 rfl (by kernel_rfl) (fun K hK => ?_)
    go_simp
    refine (WV.WorldValid_spec va ua vc uc cs is w8 (by omega) (by omega) (PWo.row_cap HV.out) (PWo.sp_of HV.out (by omega)) (PWo.si_of HU.out (by omega))).mono ?_
    rintro e w9 ⟨rfl, hb⟩
    replace HB : Hid (Below w.heap.size w w9) := HB.out.trans (hb.mono HB.out.size)
    replace HM : Hid (∃ m, World.cell? w9 ⟨0, 0, none⟩ = some (.int .i64 m)) := PIn.hm_below HM.out hb
    replace S1 : Hid (Draw.SB w9 (.slice a1 xs1.length c1) xs1) := S1.out.below hb
    replace HV : Hid (w9.ownsRow w.heap.size 69 2 (.slice va cs.length vc) cs.length (flat cs)) := row_below hb HV.out
    replace HU : Hid (IR w9 w.heap.size (.slice ua is.length uc) is) := HU.out.below hb
    replace X5 : Hid (w9.heap[b5]? = some (.cells #[.slice va cs.length vc, .slice ua is.length uc] 42 (0, 0))) := below_heap hb (lt_of_heap X5.out) X5.out
    replace V7 : Hid (w9.ownsRow w3.heap.size 69 2 (.slice va7 ([] : List BB).length vc7) ([] : List BB).length (flat [])) := row_below hb V7.out
    replace U7 : Hid (IR w9 w3.heap.size (.slice ua7 ([] : List II).length uc7) []) := U7.out.below hb
    replace X7 : Hid (w9.heap[b7]? = some (.cells #[.slice va7 0 vc7, .slice ua7 0 uc7] 42 (0, 0))) := below_heap hb (lt_of_heap X7.out) X7.out
    clear hb
    rw [HWV.out]
    refine hK _ _ (fun _ => ⟨heap_cell X5.out 0, heap_cell X5.out 1, heap_cell X7.out 0, heap_cell X7.out 1⟩) ?_
    clear hK K
    refine wpAnyT_take (i := 9) (v := .bool false) rfl (by kernel_rfl) (by kernel_rfl) (by kernel_rfl) (by kernel_rfl) (fun _ _ _ h => h) (Or.inl ⟨by kernel_rfl, fun X hS => by obtain ⟨e0, e1, e2, e3⟩ := hS; go_simp⟩) ⟨heap_cell X5.out 0, heap_cell X5.out 1, heap_cell X7.out 0, heap_cell X7.out 1⟩ ?_
    try go_simp
    refine wpAnyT_take (i := 10) (v := .bool false) rfl (by kernel_rfl) (by kernel_rfl) (by kernel_rfl) (by kernel_rfl) (fun _ _ _ h => h) (Or.inl ⟨by kernel_rfl, fun X hS => by obtain ⟨e0, e1, e2, e3⟩ := hS; go_simp⟩) ⟨heap_cell X5.out 0, heap_cell X5.out 1, heap_cell X7.out 0, heap_cell X7.out 1⟩ ?_
    try go_simp
    refine wpAnyT_take (i := 11) (v := .bool false) rfl (by kernel_rfl) (by kernel_rfl) (by kernel_rfl) (by kernel_rfl) (fun _ _ _ h => h) (Or.inl ⟨by kernel_rfl, fun X hS => by obtain ⟨e0, e1, e2, e3⟩ := hS; go_simp⟩) ⟨heap_cell X5.out 0, heap_cell X5.out 1, heap_cell X7.out 0, heap_cell X7.out 1⟩ ?_
    try go_simp
    refine wpAnyT_take (i := 12) (v := .bool false) rfl (by kernel_rfl) (by kernel_rfl) (by kernel_rfl) (by kernel_rfl) (fun _ _ _ h => h) (Or.inl ⟨by kernel_rfl, fun X hS => by obtain ⟨e0, e1, e2, e3⟩ := hS; go_simp⟩) ⟨heap_cell X5.out 0, heap_cell X5.out 1, heap_cell X7.out 0, heap_cell X7.out 1⟩ ?_
    try go_simp
    refine wpAnyT_take (i := 13) (v := .agg #[.slice va cs.length vc, .slice ua is.length uc]) rfl (by kernel_rfl) (by kernel_rfl) (by kernel_rfl) (by kernel_rfl) (fun _ _ _ h => h) (Or.inl ⟨by kernel_rfl, fun X hS => by obtain ⟨e0, e1, e2, e3⟩ := hS; go_simp⟩) ⟨heap_cell X5.out 0, heap_cell X5.out 1, heap_cell X7.out 0, heap_cell X7.out 1⟩ ?_
    try go_simp
    refine wpAnyT_one 14 rfl (by kernel_rfl) (fun K hK => ?_)
    go_simp
    refine (WV.WorldValid_impl va ua vc uc cs is w9 (by omega) (by omega) (PWo.row_cap HV.out) (PWo.sp_of HV.out (by omega)) (PWo.si_of HU.out (by omega))).mono ?_
    rintro e w10 ⟨rfl, hb⟩
    replace HB : Hid (Below w.heap.size w w10) := HB.out.trans (hb.mono HB.out.size)
    replace HM : Hid (∃ m, World.cell? w10 ⟨0, 0, none⟩ = some (.int .i64 m)) := PIn.hm_below HM.out hb
    replace S1 : Hid (Draw.SB w10 (.slice a1 xs1.length c1) xs1) := S1.out.below hb
    replace HV : Hid (w10.ownsRow w.heap.size 69 2 (.slice va cs.length vc) cs.length (flat cs)) := row_below hb HV.out
    replace HU : Hid (IR w10 w.heap.size (.slice ua is.length uc) is) := HU.out.below hb
    replace X5 : Hid (w10.heap[b5]? = some (.cells #[.slice va cs.length vc, .slice ua is.length uc] 42 (0, 0))) := below_heap hb (lt_of_heap X5.out) X5.out
    replace V7 : Hid (w10.ownsRow w3.heap.size 69 2 (.slice va7 ([] : List BB).length vc7) ([] : List BB).length (flat [])) := row_below hb V7.out
    replace U7 : Hid (IR w10 w3.heap.size (.slice ua7 ([] : List II).length uc7) []) := U7.out.below hb
    replace X7 : Hid (w10.heap[b7]? = some (.cells #[.slice va7 0 vc7, .slice ua7 0 uc7] 42 (0, 0))) := below_heap hb (lt_of_heap X7.out) X7.out
    clear hb
    rw [HWV.out]
    refine hK _ _ (fun _ => ⟨heap_cell X5.out 0, heap_cell X5.out 1, heap_cell X7.out 0, heap_cell X7.out 1⟩) ?_
    clear hK K
    refine wpAnyT_take (i := 15) (v := .bool false) rfl (by kernel_rfl) (by kernel_rfl) (by kernel_rfl) (by kernel_rfl) (fun _ _ _ h => h) (Or.inl ⟨by kernel_rfl, fun X hS => by obtain ⟨e0, e1, e2, e3⟩ := hS; go_simp⟩) ⟨heap_cell X5.out 0, heap_cell X5.out 1, heap_cell X7.out 0, heap_cell X7.out 1⟩ ?_
    try go_simp
    refine wpAnyT_take (i := 16) (v := .bool false) rfl (by kernel_rfl) (by kernel_rfl) (by kernel_rfl) (by kernel_rfl) (fun _ _ _ h => h) (Or.inl ⟨by kernel_rfl, fun X hS => by obtain ⟨e0, e1, e2, e3⟩ := hS; go_simp⟩) ⟨heap_cell X5.out 0, heap_cell X5.out 1, heap_cell X7.out 0, heap_cell X7.out 1⟩ ?_
    try go_simp
    refine wpAnyT_take (i := 17) (v := .bool false) rfl (by kernel_rfl) (by kernel_rfl) (by kernel_rfl) (by kernel_rfl) (fun _ _ _ h => h) (Or.inl ⟨by kernel_rfl, fun X hS => by obtain ⟨e0, e1, e2, e3⟩ := hS; go_simp⟩) ⟨heap_cell X5.out 0, heap_cell X5.out 1, heap_cell X7.out 0, heap_cell X7.out 1⟩ ?_
    try go_simp
    refine wpAnyT_take (i := 18) (v := .bool false) rfl (by kernel_rfl) (by kernel_rfl) (by kernel_rfl) (by kernel_rfl) (fun _ _ _ h => h) (Or.inl ⟨by kernel_rfl, fun X hS => by obtain ⟨e0, e1, e2, e3⟩ := hS; go_simp⟩) ⟨heap_cell X5.out 0, heap_cell X5.out 1, heap_cell X7.out 0, heap_cell X7.out 1⟩ ?_
    try go_simp
    refine wpAnyT_take (i := 19) (v := .bool false) rfl (by kernel_rfl) (by kernel_rfl) (by kernel_rfl) (by kernel_rfl) (fun _ _ _ h => h) (Or.inl ⟨by kernel_rfl, fun X hS => by obtain ⟨e0, e1, e2, e3⟩ := hS; go_simp⟩) ⟨heap_cell X5.out 0, heap_cell X5.out 1, heap_cell X7.out 0, heap_cell X7.out 1⟩ ?_
    try go_simp
    refine wpAnyT_take (i := 20) (v := undef) rfl (by kernel_rfl) (by kernel_rfl) (by kernel_rfl) (by kernel_rfl) (fun _ _ _ h => h) (Or.inr ⟨by kernel_rfl, rfl⟩) ⟨heap_cell X5.out 0, heap_cell X5.out 1, heap_cell X7.out 0, heap_cell X7.out 1⟩ ?_
    try go_simp
    refine wpAnyT_take (i := 21) (v := undef) rfl (by kernel_rfl) (by kernel_rfl) (by kernel_rfl) (by kernel_rfl) (fun _ _ _ h => h) (Or.inr ⟨by kernel_rfl, rfl⟩) ⟨heap_cell X5.out 0, heap_cell X5.out 1, heap_cell X7.out 0, heap_cell X7.out 1⟩ ?_
    try go_simp
    refine wpAnyT_take (i := 22) (v := undef) rfl (by kernel_rfl) (by kernel_rfl) (by kernel_rfl) (by kernel_rfl) (fun _ _ _ h => h) (Or.inr ⟨by kernel_rfl, rfl⟩) ⟨heap_cell X5.out 0, heap_cell X5.out 1, heap_cell X7.out 0, heap_cell X7.out 1⟩ ?_
    try go_simp
    refine wpAnyT_take (i := 23) (v := undef) rfl (by kernel_rfl) (by kernel_rfl) (by kernel_rfl) (by kernel_rfl) (fun _ _ _ h => h) (Or.inr ⟨by kernel_rfl, rfl⟩) ⟨heap_cell X5.out 0, heap_cell X5.out 1, heap_cell X7.out 0, heap_cell X7.out 1⟩ ?_
    try go_simp
    refine wpAnyT_take (i := 24) (v := .bool false) rfl (by kernel_rfl) (by kernel_rfl) (by kernel_rfl) (by kernel_rfl) (fun _ _ _ h => h) (Or.inl ⟨by kernel_rfl, fun X hS => by obtain ⟨e0, e1, e2, e3⟩ := hS; go_simp⟩) ⟨heap_cell X5.out 0, heap_cell X5.out 1, heap_cell X7.out 0, heap_cell X7.out 1⟩ ?_
    try go_simp
    refine wpAnyT_take (i := 25) (v := .bool false) rfl (by kernel_rfl) (by kernel_rfl) (by kernel_rfl) (by kernel_rfl) (fun _ _ _ h => h) (Or.inl ⟨by kernel_rfl, fun X hS => by obtain ⟨e0, e1, e2, e3⟩ := hS; go_simp⟩) ⟨heap_cell X5.out 0, heap_cell X5.out 1, heap_cell X7.out 0, heap_cell X7.out 1⟩ ?_
    try go_simp
    refine wpAnyT_drop _ 26 _ _ _ (by decide) (by kernel_rfl) ?_
    change wpList _ _ _ [] _ _
    clear V7 U7 X7 HV HU X5 HRW HSL HSE HWV
    go_wp2_with fail
    refine (Draw.DrawParseWorld_any _ xs1 w10 S1.out).mono ?_
    rintro e w11 ⟨s, rfl, -, hs, hb⟩
    replace HB : Hid (Below w.heap.size w w11) := HB.out.trans (hb.mono HB.out.size)
    replace HM : Hid (∃ m, World.cell? w11 ⟨0, 0, none⟩ = some (.int .i64 m)) := PIn.hm_below HM.out hb
    replace S1 : Hid (Draw.SB w11 (.slice a1 xs1.length c1) xs1) := S1.out.below hb
    clear hb
    obtain ⟨l, rfl, hz⟩ := bytes s
    have hl : l.length ≤ 30000 := by omega
    obtain ⟨⟨cs2, is2, ok⟩, hr⟩ : ∃ r, r = PWo.rW (PWoP.implW l) := ⟨_, rfl⟩
    obtain ⟨hz1, hz2⟩ := PWo.rW_sizes l (by omega)
    have hr2 : (cs2, is2, ok) = PWo.rW (PWoP.specW l) := by rw [hr, PWoP.same]
    rw [← hr2] at hz1 hz2
    dsimp only at hz1 hz2
    have HR := hid hr
    have HR2 := hid hr2
    clear hr hr2 hz hs S1
    go_wp2_with fail
    refine (show Calls Tryd.prog _ _ w11 (PWo.WoPost w11 (cs2, is2, ok)) from by rw [HR.out]; exact PWo.ParseWorld_impl l w11 (by omega) HM.out).mono ?_
    rintro e w12 ⟨v, u, rfl, hrow, hiu, hb⟩
    obtain ⟨va10, vc10, rfl⟩ := row_slice hrow
    obtain ⟨ua10, uc10, rfl⟩ := PWo.ir_slice hiu
    have V10 := hid hrow
    have U10 := hid hiu
    clear hrow hiu
    replace HB : Hid (Below w.heap.size w w12) := HB.out.trans (hb.mono HB.out.size)
    replace HM : Hid (∃ m, World.cell? w12 ⟨0, 0, none⟩ = some (.int .i64 m)) := PIn.hm_below HM.out hb
    clear hb
    go_wp2_with fail
    have hb : Below w12.heap.size w12 (w12.alloc (.cells #[.slice va10 cs2.length vc10, .slice ua10 is2.length uc10] 42)) := (Below.refl _ _).alloc (Nat.le_refl _) _
    replace HB : Hid (Below w.heap.size w (w12.alloc (.cells #[.slice va10 cs2.length vc10, .slice ua10 is2.length uc10] 42))) := HB.out.trans (hb.mono HB.out.size)
    replace HM : Hid (∃ m, World.cell? (w12.alloc (.cells #[.slice va10 cs2.length vc10, .slice ua10 is2.length uc10] 42)) ⟨0, 0, none⟩ = some (.int .i64 m)) := PIn.hm_below HM.out hb
    replace V10 : Hid ((w12.alloc (.cells #[.slice va10 cs2.length vc10, .slice ua10 is2.length uc10] 42)).ownsRow w11.heap.size 69 2 (.slice va10 cs2.length vc10) cs2.length (flat cs2)) := row_below hb V10.out
    replace U10 : Hid (IR (w12.alloc (.cells #[.slice va10 cs2.length vc10, .slice ua10 is2.length uc10] 42)) w11.heap.size (.slice ua10 is2.length uc10) is2) := U10.out.below hb
    clear hb
    have X10 : Hid ((w12.alloc (.cells #[.slice va10 cs2.length vc10, .slice ua10 is2.length uc10] 42)).heap[w12.heap.size]? = some (.cells #[.slice va10 cs2.length vc10, .slice ua10 is2.length uc10] 42 (0, 0))) := heap_alloc_new _ _
    generalize (w12.alloc (.cells #[.slice va10 cs2.length vc10, .slice ua10 is2.length uc10] 42)) = w13 at *
    obtain ⟨b10, hbb10⟩ : ∃ x, x = w12.heap.size := ⟨_, rfl⟩
    rw [← hbb10] at X10 ⊢
    clear hbb10
    refine (show Calls Tryd.prog _ _ w13 (PWo.WoPost w13 (cs2, is2, ok)) from by rw [HR2.out]; exact PWo.ParseWorld_spec l w13 (by omega)).mono ?_
    rintro e w14 ⟨v, u, rfl, hrow, hiu, hb⟩
    obtain ⟨va12, vc12, rfl⟩ := row_slice hrow
    obtain ⟨ua12, uc12, rfl⟩ := PWo.ir_slice hiu
    have V12 := hid hrow
    have U12 := hid hiu
    clear hrow hiu
    replace HB : Hid (Below w.heap.size w w14) := HB.out.trans (hb.mono HB.out.size)
    replace HM : Hid (∃ m, World.cell? w14 ⟨0, 0, none⟩ = some (.int .i64 m)) := PIn.hm_below HM.out hb
    replace V10 : Hid (w14.ownsRow w11.heap.size 69 2 (.slice va10 cs2.length vc10) cs2.length (flat cs2)) := row_below hb V10.out
    replace U10 : Hid (IR w14 w11.heap.size (.slice ua10 is2.length uc10) is2) := U10.out.below hb
    replace X10 : Hid (w14.heap[b10]? = some (.cells #[.slice va10 cs2.length vc10, .slice ua10 is2.length uc10] 42 (0, 0))) := below_heap hb (lt_of_heap X10.out) X10.out
    clear hb
    obtain ⟨i0, i1, f0, f1⟩ := PWo.k2 X10.out
    have hli := lt_of_heap X10.out
    go_wp2_with fail
    clear i0 i1 f0 f1 hli
    have hb : Below w14.heap.size w14 (w14.alloc (.cells #[.slice va12 cs2.length vc12, .slice ua12 is2.length uc12] 42)) := (Below.refl _ _).alloc (Nat.le_refl _) _
    replace HB : Hid (Below w.heap.size w (w14.alloc (.cells #[.slice va12 cs2.length vc12, .slice ua12 is2.length uc12] 42))) := HB.out.trans (hb.mono HB.out.size)
    replace HM : Hid (∃ m, World.cell? (w14.alloc (.cells #[.slice va12 cs2.length vc12, .slice ua12 is2.length uc12] 42)) ⟨0, 0, none⟩ = some (.int .i64 m)) := PIn.hm_below HM.out hb
    replace V10 : Hid ((w14.alloc (.cells #[.slice va12 cs2.length vc12, .slice ua12 is2.length uc12] 42)).ownsRow w11.heap.size 69 2 (.slice va10 cs2.length vc10) cs2.length (flat cs2)) := row_below hb V10.out
    replace U10 : Hid (IR (w14.alloc (.cells #[.slice va12 cs2.length vc12, .slice ua12 is2.length uc12] 42)) w11.heap.size (.slice ua10 is2.length uc10) is2) := U10.out.below hb
    replace X10 : Hid ((w14.alloc (.cells #[.slice va12 cs2.length vc12, .slice ua12 is2.length uc12] 42)).heap[b10]? = some (.cells #[.slice va10 cs2.length vc10, .slice ua10 is2.length uc10] 42 (0, 0))) := below_heap hb (lt_of_heap X10.out) X10.out
    replace V12 : Hid ((w14.alloc (.cells #[.slice va12 cs2.length vc12, .slice ua12 is2.length uc12] 42)).ownsRow w13.heap.size 69 2 (.slice va12 cs2.length vc12) cs2.length (flat cs2)) := row_below hb V12.out
    replace U12 : Hid (IR (w14.alloc (.cells #[.slice va12 cs2.length vc12, .slice ua12 is2.length uc12] 42)) w13.heap.size (.slice ua12 is2.length uc12) is2) := U12.out.below hb
    clear hb
    generalize (w14.alloc (.cells #[.slice va12 cs2.length vc12, .slice ua12 is2.length uc12] 42)) = wz at *
    refine (InsC.inWorld_same _ _ _ _ cs2 is2 wz _ _ (by omega) (by omega) (by omega) V10.out U10.out V12.out U12.out).mono ?_
    rintro e w15 ⟨rfl, hb⟩
    replace HB : Hid (Below w.heap.size w w15) := HB.out.trans (hb.mono HB.out.size)
    replace HM : Hid (∃ m, World.cell? w15 ⟨0, 0, none⟩ = some (.int .i64 m)) := PIn.hm_below HM.out hb
    replace V10 : Hid (w15.ownsRow w11.heap.size 69 2 (.slice va10 cs2.length vc10) cs2.length (flat cs2)) := row_below hb V10.out
    replace U10 : Hid (IR w15 w11.heap.size (.slice ua10 is2.length uc10) is2) := U10.out.below hb
    replace X10 : Hid (w15.heap[b10]? = some (.cells #[.slice va10 cs2.length vc10, .slice ua10 is2.length uc10] 42 (0, 0))) := below_heap hb (lt_of_heap X10.out) X10.out
    replace V12 : Hid (w15.ownsRow w13.heap.size 69 2 (.slice va12 cs2.length vc12) cs2.length (flat cs2)) := row_below hb V12.out
    replace U12 : Hid (IR w15 w13.heap.size (.slice ua12 is2.length uc12) is2) := U12.out.below hb
    clear hb
    have hoo : (ok == ok) = true := by simp
    cases ok with
    | false =>
      go_wp2
      go_ret
      exact ⟨rfl, HB.out⟩
    | true =>
      have HFT := hid (rW_true HR.out)
      obtain ⟨i0, i1, f0, f1⟩ := PWo.k2 X10.out
      have hli := lt_of_heap X10.out
      go_wp2_with fail
      clear i0 i1 f0 f1
      refine (FW.FormatWorld_impl va10 ua10 vc10 uc10 cs2 is2 w15 (by omega) (by omega) (PWo.row_cap V10.out) (PWo.sp_of V10.out (by omega)) (PWo.si_of U10.out (by omega))).mono ?_
      rintro e w16 ⟨rfl, hb⟩
      replace HB : Hid (Below w.heap.size w w16) := HB.out.trans (hb.mono HB.out.size)
      replace HM : Hid (∃ m, World.cell? w16 ⟨0, 0, none⟩ = some (.int .i64 m)) := PIn.hm_below HM.out hb
      replace V10 : Hid (w16.ownsRow w11.heap.size 69 2 (.slice va10 cs2.length vc10) cs2.length (flat cs2)) := row_below hb V10.out
      replace U10 : Hid (IR w16 w11.heap.size (.slice ua10 is2.length uc10) is2) := U10.out.below hb
      replace X10 : Hid (w16.heap[b10]? = some (.cells #[.slice va10 cs2.length vc10, .slice ua10 is2.length uc10] 42 (0, 0))) := below_heap hb (lt_of_heap X10.out) X10.out
      replace V12 : Hid (w16.ownsRow w13.heap.size 69 2 (.slice va12 cs2.length vc12) cs2.length (flat cs2)) := row_below hb V12.out
      replace U12 : Hid (IR w16 w13.heap.size (.slice ua12 is2.length uc12) is2) := U12.out.below hb
      clear hb
      rw [HFT.out]
      go_wp2
      go_ret
      exact ⟨rfl, HB.out⟩

theorem lifted (os : Os) (started : os.Started) (H : Type) (enc : TypeId × Value → H) :
    ReturnsInHanded {} Tryd.checked os 4 .any (fun w args => (Rows.fnWorldTextSpec.pre enc Tryd.prog Tryd.f4 Rows.fnWorldTextRow.domain false w args ∧ laidMetH Tryd.prog Rows.fnWorldTextRow.laid w) ∧ sizedMet enc Tryd.prog Tryd.f4 (OpenSpec.ofChange Rows.fnWorldTextSpec) false w args) (Rows.fnWorldTextSpec.post enc Tryd.prog Tryd.f4 false true false false) := by
  refine Shp.lifted_and_shape (C := Tryd.checked) (X := fun w _ => laidMetH Tryd.prog Rows.fnWorldTextRow.laid w) (fun _ _ _ hh h => h.of_heap hh) own started (by kernel_rfl) Tryd.func4
    (ChangeSpec.witness_shaped (enc := enc) (C := Tryd.checked) (os := os) (X := fun w _ => laidMetH Tryd.prog Rows.fnWorldTextRow.laid w) false (World.laidAll Tryd.prog os Rows.fnWorldTextRow.laid) #[.slice none 0 0, .slice none 0 0] 8 (World.laidAll_os _ _ _)
      (World.shaped_of_ZipB (by kernel_rfl) (by kernel_rfl)) (by kernel_rfl) (by kernel_rfl) (by kernel_rfl)
      (by rw [MakeChecks.laidMetH_plain _ _ _ (by kernel_rfl)]; exact laidMet_laidAll _ (by kernel_rfl) (by kernel_rfl))) ?_
  intro W base args ds gs before hsh _ hval0 hW hcnd _
  have hmx := cell_of_shapedOpen_int (P := Tryd.prog) (g := 0) (t := 3) (zero := #[.int .i64 0]) hsh (of_decide_eq_true (by kernel_rfl)) (by kernel_rfl) rfl (by kernel_rfl) (by kernel_rfl) Tryd.underlying3
  have hval : ∀ (j : Nat) t v, Tryd.f4.params[j]? = some t → args[j]? = some v → Value.okWide Tryd.prog W .any base t v := hval0
  have hW' := hW
  obtain ⟨p, q, hA0, hV, rfl, hfz, hnd⟩ := hW
  have hA : DataW.TrodAll enc Tryd.prog W 0 (fun _ => true) true Tryd.f4.params.toList args.toList ds p := hA0
  rw [Tryd.params4] at hA hval
  have hL := DataW.TrodAll.lt hA
  obtain ⟨v0, vs0, d0, ds0, p0, q0, hargs, rfl, rfl, h0, r0⟩ := trodAll_cons hA
  obtain ⟨v1, vs1, d1, ds1, p1, q1, rfl, rfl, rfl, h1, r1⟩ := trodAll_cons r0
  obtain ⟨rfl, rfl, rfl⟩ := trodAll_nil r1
  obtain rfl : args = #[v0, v1] := by cases args; simp_all
  obtain ⟨rfl, rfl⟩ := trodVars_none hV
  have k0 := h0
  have l0 : ∀ x ∈ p0, x.block < W.heap.size := fun x hx => hL x (by simp [hx])
  have k1 := h1
  have l1 : ∀ x ∈ p1, x.block < W.heap.size := fun x hx => hL x (by simp [hx])
  obtain ⟨xs0, s0⟩ := Draw.open_sb Tryd.underlying22 Tryd.underlying5 (by kernel_rfl) (hval 0 22 v0 rfl rfl) h0
  obtain ⟨xs1, s1⟩ := Draw.open_sb Tryd.underlying22 Tryd.underlying5 (by kernel_rfl) (hval 1 22 v1 rfl rfl) h1
  clear hA0 hval0
  simp only [List.append_nil] at hW'
  refine (walk W _ _ s0 _ _ s1 hmx).mono fun e W' ⟨he, bel⟩ => ?_
  subst he
  exact ⟨_, rfl, _, _, _, [], _, [], hW', (trodAll_cons_mk (shut_bool Tryd.underlying4 _) trodAll_mk0), (trodAll_cons_mk (Below.trod laidOut (by kernel_rfl) (of_decide_eq_true (by kernel_rfl)) k0 bel l0) (trodAll_cons_mk (Below.trod laidOut (by kernel_rfl) (of_decide_eq_true (by kernel_rfl)) k1 bel l1) trodAll_mk0)), rfl, bel.frame _, fun h => by cases h⟩
theorem e1 : Rows.fnWorldTextRow.lifted = Rows.fnInstanceTextRow.lifted := rfl
theorem e2 : Rows.fnWorldTextRow.make = Rows.fnInstanceTextRow.make := rfl
theorem e3 : Rows.fnWorldTextRow.plainKeys = Rows.fnInstanceTextRow.plainKeys := rfl
theorem facts : joinedFacts Tryd.pinned.checked.prog 4 Tryd.f4 Rows.fnWorldTextSpec Rows.fnWorldTextRow = true := by
  refine Facts.joined e1 e2 e3 ?_ ?_ ?_ ?_ ?_ ?_ ?_ ?_ ?_ ?_ ?_ ?_ ?_ ?_ ?_ ?_ ?_ ?_ ?_ ?_ ?_ ?_ ?_
  all_goals as_aux_lemma => kernel_rfl
theorem over : Rows.fnWorldTextRow.holds Tryd.pinned (OpenSpec.ofChange Rows.fnWorldTextSpec) :=
  OpenClaim.holds_of_wide 4 Tryd.f4 rfl rfl rfl rfl rfl rfl rfl ⟨rfl, rfl, rfl, rfl, rfl⟩ rfl rfl rfl rfl rfl (by kernel_rfl) Tryd.func4 facts
    (of_decide_eq_true (by kernel_rfl)) (by unfold Func.isWrapper; first | (rw [if_pos (by decide +kernel)]; kernel_rfl) | (rw [if_neg (by decide +kernel)]; exact ⟨rfl, rfl⟩))
    (fun os started H enc _ => lifted os started H enc)
end Go.Proofs.YtbdnhcfebgkpdaaDoor.fnWorldText
namespace Go.Proofs.YtbdnhcfebgkpdaaDoor
theorem fnWorldText_holds : Rows.FnWorldTextCardSaid :=
  Claim7.holds_tied_plain_at .later [] Rows.fnWorldTextCard.laidKinds true Rows.fnWorldTextCard.stood.harness Rows.fnWorldTextCard.stood.looks
    fnWorldText.over (fun _ h => by cases h) (by kernel_rfl) (fun _ h => by cases h) fnWorldText_row_tie rfl ⟨rfl, rfl⟩ (by kernel_rfl) rfl
    (fun f fn hf hfn => by
      obtain rfl : f = 4 := Option.some.inj ((show Tryd.prog.funcNamed "loop.example/instancesearch/laws.FnWorldText" = some 4 by kernel_rfl).symm.trans hf) |>.symm
      obtain rfl : fn = Tryd.f4 := (Option.some.inj (Tryd.func4.symm.trans hfn)).symm
      exact ⟨by kernel_rfl, fun j t ht => by
        rw [Tryd.params4] at ht
        have hm := Array.mem_of_getElem? ht
        have hall : (Tryd.f4.params.all fun u => !Tryd.prog.wantsStandIn u) = true := by kernel_rfl
        rw [Tryd.params4] at hall
        have := Array.all_eq_true'.1 hall t hm
        exact (show Tryd.prog.wantsStandIn t = false by simpa using this)⟩)
    (by kernel_rfl)
end Go.Proofs.YtbdnhcfebgkpdaaDoor
