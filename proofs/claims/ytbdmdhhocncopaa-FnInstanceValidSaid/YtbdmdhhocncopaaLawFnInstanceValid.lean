/- FnInstanceValid answers true for every input: a drawn world with one instance more is valid exactly if the instance is valid in it, and all of its own are; both programs answer alike. Conditions: none. -/
import Derived.Test.YtbdmdhhocncopaaIvM
import Derived.Test.YtbdmdhhocncopaaWDv
import Derived.Test.YtbdmdhhocncopaaTypeFns
import Derived.Test.YtbdmdhhocncopaaRows
import Derived.Test.YtbdmdhhocncopaaFacts
import Derived.WalkKit
import Derived.ProofKit
import Derived.OpenShut
import Derived.ShutString
import Derived.ChangeOld
import Derived.Below
import Derived.Carry
import Derived.Lib.SmallJoins
import Derived.Deep.DeepCutAuto
set_option linter.unusedVariables false
set_option linter.unusedSimpArgs false
set_option maxRecDepth 100000
namespace Go.Proofs.Ytbdmdhhocncopaa.fnInstanceValid
open Go.ChangeShapes Go.WideShapes Go.ChangeAt Go.RowKit Go.Joins Ty ListS IRow PWo
open Go.ChangeMaps (open_string shut_string)

theorem own : ownKnob Try.prog.godebug = none := by kernel_rfl
theorem laidOut : laidOutB Try.prog = true := by kernel_rfl
theorem bytes (s : ByteArray) : ∃ l : List UInt8, s = ⟨l.toArray⟩ ∧ s.size = l.length := ⟨s.data.toList, rfl, by simp⟩
set_option maxHeartbeats 16000000 in
theorem walk (w : World) (v0 : Value) (xs0 : List Int) (s0 : Draw.SB w v0 xs0) :
    Calls Try.prog 4 #[v0] w fun e w' => e = .returned (.bool true) ∧ Below w.heap.size w w' := by
  obtain ⟨a0, c0, rfl⟩ := Draw.sb_slice s0
  by_cases hl0 : 1048576 < xs0.length
  · have hl0' : (xs0.length : Int) > 1048576 := by omega
    go_enter Try.func4, Try.ntmps4
    go_wp2
    go_ret
    exact ⟨rfl, Below.refl _ _⟩
  have hl0' : ¬ (xs0.length : Int) > 1048576 := by omega
  have S0 := hid s0
  clear s0
  have HB : Hid (Below w.heap.size w w) := Below.refl _ _
  go_enter Try.func4, Try.ntmps4
  go_wp2_with fail
  refine (Draw.DrawInstanceValid_any _ xs0 w S0.out).mono ?_
  rintro e w1 ⟨v, u, cs, is, x, y, tv, ns, rfl, hw, hi, hb⟩
  replace HB : Hid (Below w.heap.size w w1) := HB.out.trans (hb.mono HB.out.size)
  clear hb
  obtain ⟨hv, hu, h1, h0, h2, h3⟩ := hw
  obtain ⟨hn, hx, hy, hn1, hn2⟩ := hi
  obtain ⟨va, vc, rfl⟩ := row_slice hv
  obtain ⟨gc, rfl⟩ := Draw.row_some hv h1
  obtain ⟨ua, uc, rfl⟩ := PWo.ir_slice hu
  obtain ⟨vs, hui, hur⟩ := hu
  obtain ⟨gi, rfl⟩ := Draw.row_some hui h0
  obtain ⟨ta, tc, rfl⟩ := row_slice hn
  obtain ⟨xl, rfl, hxl⟩ := bytes x
  obtain ⟨yl, rfl, hyl⟩ := bytes y
  have htn : tot ns ≤ 480 := by have := Draw.tot_smallW ns hn2; omega
  have hxl2 : xl.length ≤ 200 := by omega
  have hyl2 : yl.length ≤ 40 := by omega
  have HV := hid hv
  have HIR := hid hui
  have HRS := hid hur
  have HT := hid hn
  have hil : is.length ≤ 8000 := by omega
  clear hv hui hur hn S0 hl0' hn2 hx hy hxl hyl
  have hzw := HB.out.size
  have hgi0 := (row_own HIR.out gi rfl).2
  have hb : Below w1.heap.size w1 ((w1.alloc (.cells #[.slice (some ⟨gc, 0, none⟩) cs.length vc, .slice (some ⟨gi, 0, none⟩) is.length uc] 26)).alloc (.cells #[.string ⟨xl.toArray⟩, .string ⟨yl.toArray⟩, .slice ta ns.length tc] 39)) := ((Below.refl _ _).alloc (by simp; try omega) _).alloc (by simp; try omega) _
  replace HB : Hid (Below w.heap.size w ((w1.alloc (.cells #[.slice (some ⟨gc, 0, none⟩) cs.length vc, .slice (some ⟨gi, 0, none⟩) is.length uc] 26)).alloc (.cells #[.string ⟨xl.toArray⟩, .string ⟨yl.toArray⟩, .slice ta ns.length tc] 39))) := HB.out.trans (hb.mono HB.out.size)
  replace HV : Hid (((w1.alloc (.cells #[.slice (some ⟨gc, 0, none⟩) cs.length vc, .slice (some ⟨gi, 0, none⟩) is.length uc] 26)).alloc (.cells #[.string ⟨xl.toArray⟩, .string ⟨yl.toArray⟩, .slice ta ns.length tc] 39)).ownsRow w.heap.size 33 2 (.slice (some ⟨gc, 0, none⟩) cs.length vc) cs.length (flat cs)) := row_below hb HV.out
  replace HIR : Hid (((w1.alloc (.cells #[.slice (some ⟨gc, 0, none⟩) cs.length vc, .slice (some ⟨gi, 0, none⟩) is.length uc] 26)).alloc (.cells #[.string ⟨xl.toArray⟩, .string ⟨yl.toArray⟩, .slice ta ns.length tc] 39)).ownsRow w.heap.size 39 3 (.slice (some ⟨gi, 0, none⟩) is.length uc) is.length (flatI is vs)) := row_below hb HIR.out
  replace HRS : Hid (IRow.Rows ((w1.alloc (.cells #[.slice (some ⟨gc, 0, none⟩) cs.length vc, .slice (some ⟨gi, 0, none⟩) is.length uc] 26)).alloc (.cells #[.string ⟨xl.toArray⟩, .string ⟨yl.toArray⟩, .slice ta ns.length tc] 39)) w.heap.size is vs) := HRS.out.below hb
  replace HT : Hid (((w1.alloc (.cells #[.slice (some ⟨gc, 0, none⟩) cs.length vc, .slice (some ⟨gi, 0, none⟩) is.length uc] 26)).alloc (.cells #[.string ⟨xl.toArray⟩, .string ⟨yl.toArray⟩, .slice ta ns.length tc] 39)).ownsRow w.heap.size 36 2 (.slice ta ns.length tc) ns.length (flat ns)) := row_below hb HT.out
  clear hb
  have HW : Hid (((w1.alloc (.cells #[.slice (some ⟨gc, 0, none⟩) cs.length vc, .slice (some ⟨gi, 0, none⟩) is.length uc] 26)).alloc (.cells #[.string ⟨xl.toArray⟩, .string ⟨yl.toArray⟩, .slice ta ns.length tc] 39)).heap[w1.heap.size]? = some (.cells #[.slice (some ⟨gc, 0, none⟩) cs.length vc, .slice (some ⟨gi, 0, none⟩) is.length uc] 26 (0, 0))) := hb_alloc (hb_newk (by simp; try omega)) _
  have HI : Hid (((w1.alloc (.cells #[.slice (some ⟨gc, 0, none⟩) cs.length vc, .slice (some ⟨gi, 0, none⟩) is.length uc] 26)).alloc (.cells #[.string ⟨xl.toArray⟩, .string ⟨yl.toArray⟩, .slice ta ns.length tc] 39)).heap[w1.heap.size + 1]? = some (.cells #[.string ⟨xl.toArray⟩, .string ⟨yl.toArray⟩, .slice ta ns.length tc] 39 (0, 0))) := hb_newk (by simp; try omega)
  go_wp2_with fail
  generalize ((w1.alloc (.cells #[.slice (some ⟨gc, 0, none⟩) cs.length vc, .slice (some ⟨gi, 0, none⟩) is.length uc] 26)).alloc (.cells #[.string ⟨xl.toArray⟩, .string ⟨yl.toArray⟩, .slice ta ns.length tc] 39)) = w2 at *
  obtain ⟨iv, hiv⟩ : ∃ v, v = IV.ivB cs ((⟨xl.toArray⟩, ⟨yl.toArray⟩, ns) : II) := ⟨_, rfl⟩
  have HIV : Hid (IV.ivB cs ((⟨xl.toArray⟩, ⟨yl.toArray⟩, ns) : II) = iv) := hiv.symm
  obtain ⟨wv, hwv⟩ : ∃ v, v = WV.wvB cs is := ⟨_, rfl⟩
  have HWV : Hid (WV.wvB cs is = wv) := hwv.symm
  clear hiv hwv
  have hnn : (iv != iv) = false := by simp
  refine (IV.InstanceValid_impl (some ⟨gc, 0, none⟩) ta vc (some ⟨gi, 0, none⟩) is.length uc tc cs xl yl ns w2 (by omega) (PWo.row_cap HV.out) (by omega) (by omega) (by omega) (PWo.sp_of HV.out (by omega)) (PWo.sp_of HT.out (by omega))).mono ?_
  rintro e w3 ⟨rfl, hb⟩
  replace HB : Hid (Below w.heap.size w w3) := HB.out.trans (hb.mono HB.out.size)
  replace HV : Hid (w3.ownsRow w.heap.size 33 2 (.slice (some ⟨gc, 0, none⟩) cs.length vc) cs.length (flat cs)) := row_below hb HV.out
  replace HIR : Hid (w3.ownsRow w.heap.size 39 3 (.slice (some ⟨gi, 0, none⟩) is.length uc) is.length (flatI is vs)) := row_below hb HIR.out
  replace HRS : Hid (IRow.Rows w3 w.heap.size is vs) := HRS.out.below hb
  replace HT : Hid (w3.ownsRow w.heap.size 36 2 (.slice ta ns.length tc) ns.length (flat ns)) := row_below hb HT.out
  replace HW : Hid (w3.heap[w1.heap.size]? = some (.cells #[.slice (some ⟨gc, 0, none⟩) cs.length vc, .slice (some ⟨gi, 0, none⟩) is.length uc] 26 (0, 0))) := below_heap hb (lt_of_heap HW.out) HW.out
  replace HI : Hid (w3.heap[w1.heap.size + 1]? = some (.cells #[.string ⟨xl.toArray⟩, .string ⟨yl.toArray⟩, .slice ta ns.length tc] 39 (0, 0))) := below_heap hb (lt_of_heap HI.out) HI.out
  clear hb
  rw [HIV.out]
  obtain ⟨i0, i1, f0, f1⟩ := PWo.k2 HW.out
  obtain ⟨j0, j1, j2, y0, y1, y2⟩ := PIn.k3 HI.out
  have hli := lt_of_heap HW.out
  have hlk := lt_of_heap HI.out
  go_wp2_with fail
  clear i0 i1 f0 f1 j0 j1 j2 y0 y1 y2 hli hlk
  refine (IV.InstanceValid_spec (some ⟨gc, 0, none⟩) ta vc (some ⟨gi, 0, none⟩) is.length uc tc cs xl yl ns w3 (by omega) (PWo.row_cap HV.out) (by omega) (by omega) (by omega) (PWo.sp_of HV.out (by omega)) (PWo.sp_of HT.out (by omega))).mono ?_
  rintro e w4 ⟨rfl, hb⟩
  replace HB : Hid (Below w.heap.size w w4) := HB.out.trans (hb.mono HB.out.size)
  replace HV : Hid (w4.ownsRow w.heap.size 33 2 (.slice (some ⟨gc, 0, none⟩) cs.length vc) cs.length (flat cs)) := row_below hb HV.out
  replace HIR : Hid (w4.ownsRow w.heap.size 39 3 (.slice (some ⟨gi, 0, none⟩) is.length uc) is.length (flatI is vs)) := row_below hb HIR.out
  replace HRS : Hid (IRow.Rows w4 w.heap.size is vs) := HRS.out.below hb
  replace HT : Hid (w4.ownsRow w.heap.size 36 2 (.slice ta ns.length tc) ns.length (flat ns)) := row_below hb HT.out
  replace HW : Hid (w4.heap[w1.heap.size]? = some (.cells #[.slice (some ⟨gc, 0, none⟩) cs.length vc, .slice (some ⟨gi, 0, none⟩) is.length uc] 26 (0, 0))) := below_heap hb (lt_of_heap HW.out) HW.out
  replace HI : Hid (w4.heap[w1.heap.size + 1]? = some (.cells #[.string ⟨xl.toArray⟩, .string ⟨yl.toArray⟩, .slice ta ns.length tc] 39 (0, 0))) := below_heap hb (lt_of_heap HI.out) HI.out
  clear hb
  rw [HIV.out]
  obtain ⟨i0, i1, f0, f1⟩ := PWo.k2 HW.out
  obtain ⟨j0, j1, j2, y0, y1, y2⟩ := PIn.k3 HI.out
  have hli := lt_of_heap HW.out
  have hlk := lt_of_heap HI.out
  go_wp2_with fail
  clear i0 i1 f0 f1 j0 j1 j2 y0 y1 y2 hli hlk
  clear hnn
  have HO1 := hid (Draw.flatI_one is vs (Draw.rows_one HRS.out))
  have HP : Hid (IvL.PK w w4 w1.heap.size gc vc gi uc ta tc cs is vs ns xl yl) := ⟨HB.out, HW.out, HI.out, HV.out, HIR.out, HRS.out, HT.out⟩
  obtain ⟨ib, hib, hz0, hz1, hz2⟩ := info_parts PWo.infoInst
  have HIB := hid hib
  have HZ0 := hid hz0
  have HZ1 := hid hz1
  have HZ2 := hid hz2
  clear hib hz0 hz1 hz2 HB HV HIR HRS HT HW HI
  go_cut [6] (fun p wr => ∃ bo gx cx : Nat, p = .pointer (some ⟨bo, 0, none⟩) ∧ Hid (wr.heap[bo]? = some (.cells #[.slice (some ⟨gc, 0, none⟩) cs.length vc, .slice (some ⟨gx, 0, none⟩) (is.length + 1) cx] 26 (0, 0))) ∧ Hid (wr.ownsRow w.heap.size 39 3 (.slice (some ⟨gx, 0, none⟩) (is.length + 1) cx) (is.length + 1) (flatI is vs ++ [.string ⟨xl.toArray⟩, .string ⟨yl.toArray⟩, .slice ta ns.length tc])) ∧ Hid (IvL.PK w wr w1.heap.size gc vc gi uc ta tc cs is vs ns xl yl))
  case first =>
    refine wp_region_any (by kernel_rfl) ?_
    change wpAny _ _ _ _ _ _ _ (World.drew _)
    have hb : Below w4.heap.size w4 w4.drew := (Below.refl _ _).drew
    replace HP : Hid (IvL.PK w w4.drew w1.heap.size gc vc gi uc ta tc cs is vs ns xl yl) := HP.out.below hb
    clear hb
    generalize w4.drew = w5 at *
    refine wpAny_of_T (S := fun X => X.cell? ⟨w1.heap.size, 0, none⟩ = some (.slice (some ⟨gc, 0, none⟩) cs.length vc) ∧ X.cell? ⟨w1.heap.size, 1, none⟩ = some (.slice (some ⟨gi, 0, none⟩) is.length uc) ∧ X.cell? ⟨w1.heap.size + 1, 0, none⟩ = some (.string ⟨xl.toArray⟩) ∧ X.cell? ⟨w1.heap.size + 1, 1, none⟩ = some (.string ⟨yl.toArray⟩) ∧ X.cell? ⟨w1.heap.size + 1, 2, none⟩ = some (.slice ta ns.length tc)) (m := 11) _ _ _ _ ?_
    refine wpAnyT_take (i := 0) (v := .pointer (some ⟨w1.heap.size, 0, none⟩)) rfl (by kernel_rfl) (by kernel_rfl) (by kernel_rfl) (by kernel_rfl) (fun _ _ _ h => h) (Or.inl ⟨by kernel_rfl, fun X hS => by obtain ⟨e0, e1, e2, e3, e4⟩ := hS; go_simp⟩) HP.out.cells ?_
    try go_simp
    refine wpAnyT_take (i := 1) (v := .slice (some ⟨gc, 0, none⟩) cs.length vc) rfl (by kernel_rfl) (by kernel_rfl) (by kernel_rfl) (by kernel_rfl) (fun _ _ _ h => h) (Or.inl ⟨by kernel_rfl, fun X hS => by obtain ⟨e0, e1, e2, e3, e4⟩ := hS; go_simp⟩) HP.out.cells ?_
    try go_simp
    refine wpAnyT_take (i := 3) (v := .pointer (some ⟨w1.heap.size, 1, none⟩)) rfl (by kernel_rfl) (by kernel_rfl) (by kernel_rfl) (by kernel_rfl) (fun _ _ _ h => h) (Or.inl ⟨by kernel_rfl, fun X hS => by obtain ⟨e0, e1, e2, e3, e4⟩ := hS; go_simp⟩) HP.out.cells ?_
    try go_simp
    refine wpAnyT_take (i := 4) (v := .slice (some ⟨gi, 0, none⟩) is.length uc) rfl (by kernel_rfl) (by kernel_rfl) (by kernel_rfl) (by kernel_rfl) (fun _ _ _ h => h) (Or.inl ⟨by kernel_rfl, fun X hS => by obtain ⟨e0, e1, e2, e3, e4⟩ := hS; go_simp⟩) HP.out.cells ?_
    try go_simp
    refine wpAnyT_take (i := 6) (v := .agg #[.string ⟨xl.toArray⟩, .string ⟨yl.toArray⟩, .slice ta ns.length tc]) rfl (by kernel_rfl) (by kernel_rfl) (by kernel_rfl) (by kernel_rfl) (fun _ _ _ h => h) (Or.inl ⟨by kernel_rfl, fun X hS => by obtain ⟨e0, e1, e2, e3, e4⟩ := hS; go_simp⟩) HP.out.cells ?_
    try go_simp
    refine wpAnyT_three 2 7 10 rfl rfl rfl (by kernel_rfl) (fun K hK => ?_) (fun K hK => ?_) (fun K hK => ?_)
    · go_simp
      have hq := HP.out.nums
      have hbz := HP.out.wB.size
      have hb : Below w5.heap.size w5 (w5.alloc (.cells #[] 39)) := (Below.refl _ _).alloc (Nat.le_refl _) _
      have HER : Hid ((w5.alloc (.cells #[] 39)).ownsRow w.heap.size 39 3 (.slice (some ⟨w5.heap.size, 0, none⟩) 0 0) 0 []) := by
        have h := World.ownsRow_made (base := w.heap.size) (e := 39) (size := 3) w5 #[] 0 (by omega) (by simp [maxLen]) rfl
        show World.ownsRow _ _ _ _ _ _ _
        simpa using h
      replace HP : Hid (IvL.PK w (w5.alloc (.cells #[] 39)) w1.heap.size gc vc gi uc ta tc cs is vs ns xl yl) := HP.out.below hb
      clear hb
      have HEH : Hid ((w5.alloc (.cells #[] 39)).heap[w5.heap.size]? = some (.cells #[] 39 (0, 0))) := heap_alloc_new _ _
      generalize (w5.alloc (.cells #[] 39)) = w6 at *
      obtain ⟨b6, hbb6⟩ : ∃ x, x = w5.heap.size := ⟨_, rfl⟩
      rw [← hbb6] at HEH HER ⊢
      have hAe : (w1.heap.size + 1) < b6 ∧ gi < b6 := by omega
      clear hq
      clear hbz
      clear hbb6
      clear HEH
      refine hK _ _ (fun _ => HP.out.cells) ?_
      clear hK K
      refine wpAnyT_three 5 7 10 rfl rfl rfl (by kernel_rfl) (fun K hK => ?_) (fun K hK => ?_) (fun K hK => ?_)
      · rw [if_pos (by kernel_rfl)]
        have hq := HP.out.nums
        refine (wp_append_lies w6 (Operand.tmp 28) (Operand.tmp 30) 24 rfl (w.heap.size) 39 ib (.agg #[.string ⟨#[]⟩, .string ⟨#[]⟩, .slice none 0 0]) 3 56 Try.underlying24 HIB.out HZ0.out HZ1.out HZ2.out rfl (by decide) (.slice (some ⟨b6, 0, none⟩) 0 0) (0) [] rfl HER.out ⟨gi, 0, none⟩ (is.length) _ (flatI is vs) rfl HP.out.wR.1 (fun j u hj => by rw [IvL.addr_add]; exact row_cell HP.out.wR j hj) HO1.out (by omega) (by unfold maxLen; omega) (by omega) (by omega) w6.heap.size rfl fun g1' cap1 w7 hown hgr hlie hlt9 => hK _ _ (fun _ => ((HP.out.app HER.out hgr (fun g h => by have h8 := IvL.own_ne h; omega))).cells) ?_)
        clear hK K
        have hG5 : (w1.heap.size + 1) < g1' ∧ gi < g1' := by
          rcases IvL.own_lie hlie with h | h <;> omega
        have HQ : Hid (IvL.PK w w7 w1.heap.size gc vc gi uc ta tc cs is vs ns xl yl) := (HP.out.app HER.out hgr (fun g h => by have h8 := IvL.own_ne h; omega))
        replace HP := HQ
        clear HQ
        obtain ⟨g5, hg5⟩ : ∃ x, x = g1' := ⟨_, rfl⟩
        obtain ⟨cap5, hcap5⟩ : ∃ x, x = cap1 := ⟨_, rfl⟩
        rw [← hg5, ← hcap5] at hown ⊢
        rw [← hg5] at hG5
        clear hg5 hcap5 hlie hlt9
        replace HER : Hid (w7.ownsRow w.heap.size 39 3 (.slice (some ⟨g5, 0, none⟩) (is.length) cap5) (is.length) (flatI is vs)) := by show World.ownsRow _ _ _ _ _ _ _; simpa using hown
        clear hown hgr hq
        try rw [Nat.zero_add]
        refine wpAnyT_two 7 10 rfl rfl (by kernel_rfl) (fun K hK => ?_) (fun K hK => ?_)
        · go_simp
          have hq := HP.out.nums
          have hq_g5 := (row_own HER.out g5 rfl).2
          have hb : Below w7.heap.size w7 (w7.alloc (.cells #[.string ⟨xl.toArray⟩, .string ⟨yl.toArray⟩, .slice ta ns.length tc] 39)) := (Below.refl _ _).alloc (Nat.le_refl _) _
          replace HP : Hid (IvL.PK w (w7.alloc (.cells #[.string ⟨xl.toArray⟩, .string ⟨yl.toArray⟩, .slice ta ns.length tc] 39)) w1.heap.size gc vc gi uc ta tc cs is vs ns xl yl) := HP.out.below hb
          replace HER : Hid ((w7.alloc (.cells #[.string ⟨xl.toArray⟩, .string ⟨yl.toArray⟩, .slice ta ns.length tc] 39)).ownsRow w.heap.size 39 3 (.slice (some ⟨g5, 0, none⟩) (is.length) cap5) (is.length) (flatI is vs)) := row_below hb HER.out
          clear hb
          have HB1 : Hid ((w7.alloc (.cells #[.string ⟨xl.toArray⟩, .string ⟨yl.toArray⟩, .slice ta ns.length tc] 39)).heap[w7.heap.size]? = some (.cells #[.string ⟨xl.toArray⟩, .string ⟨yl.toArray⟩, .slice ta ns.length tc] 39 (0, 0))) := heap_alloc_new _ _
          generalize (w7.alloc (.cells #[.string ⟨xl.toArray⟩, .string ⟨yl.toArray⟩, .slice ta ns.length tc] 39)) = w8 at *
          obtain ⟨b8, hbb8⟩ : ∃ x, x = w7.heap.size := ⟨_, rfl⟩
          rw [← hbb8] at HB1 ⊢
          have hAn : (w1.heap.size + 1) < b8 ∧ gi < b8 := by omega
          have hCng5 : g5 < b8 := by omega
          clear hq hq_g5
          clear hbb8
          refine hK _ _ (fun _ => HP.out.cells) ?_
          clear hK K
          refine wpAnyT_two 8 10 rfl rfl (by kernel_rfl) (fun K hK => ?_) (fun K hK => ?_)
          · rw [if_pos (by kernel_rfl)]
            have hq := HP.out.nums
            refine (wp_append_lies w8 (Operand.tmp 31) (Operand.tmp 33) 24 rfl (w.heap.size) 39 ib (.agg #[.string ⟨#[]⟩, .string ⟨#[]⟩, .slice none 0 0]) 3 56 Try.underlying24 HIB.out HZ0.out HZ1.out HZ2.out rfl (by decide) (.slice (some ⟨g5, 0, none⟩) (is.length) cap5) ((is.length)) (flatI is vs) rfl HER.out ⟨b8, 0, none⟩ (1) _ [.string ⟨xl.toArray⟩, .string ⟨yl.toArray⟩, .slice ta ns.length tc] rfl (by simp) (fun j u hj => by rw [IvL.addr_add]; exact PWo.news_three (heap_cell HB1.out 0) (heap_cell HB1.out 1) (heap_cell HB1.out 2) j u hj) (by simp [Value.oneCell']) (by omega) (by unfold maxLen; omega) (by omega) (by omega) w8.heap.size rfl fun g1' cap1 w9 hown hgr hlie hlt9 => hK _ _ (fun _ => ((HP.out.app HER.out hgr (fun g h => by have h8 := IvL.own_ne h; omega))).cells) ?_)
            clear hK K
            have hG8 : (w1.heap.size + 1) < g1' ∧ gi < g1' := by
              rcases IvL.own_lie hlie with h | h <;> omega
            have HQ : Hid (IvL.PK w w9 w1.heap.size gc vc gi uc ta tc cs is vs ns xl yl) := (HP.out.app HER.out hgr (fun g h => by have h8 := IvL.own_ne h; omega))
            replace HP := HQ
            clear HQ
            obtain ⟨g8, hg8⟩ : ∃ x, x = g1' := ⟨_, rfl⟩
            obtain ⟨cap8, hcap8⟩ : ∃ x, x = cap1 := ⟨_, rfl⟩
            rw [← hg8, ← hcap8] at hown ⊢
            rw [← hg8] at hG8
            clear hg8 hcap8 hlie hlt9
            replace HER : Hid (w9.ownsRow w.heap.size 39 3 (.slice (some ⟨g8, 0, none⟩) (is.length + 1) cap8) (is.length + 1) (flatI is vs ++ [.string ⟨xl.toArray⟩, .string ⟨yl.toArray⟩, .slice ta ns.length tc])) := by show World.ownsRow _ _ _ _ _ _ _; simpa using hown
            clear hown hgr hq
            clear HB1
            refine wpAnyT_take (i := 9) (v := .agg #[.slice (some ⟨gc, 0, none⟩) cs.length vc, .slice (some ⟨g8, 0, none⟩) (is.length + 1) cap8]) rfl (by kernel_rfl) (by kernel_rfl) (by kernel_rfl) (by kernel_rfl) (fun _ _ _ h => h) (Or.inl ⟨by kernel_rfl, fun X hS => by obtain ⟨e0, e1, e2, e3, e4⟩ := hS; go_simp⟩) HP.out.cells ?_
            try go_simp
            refine wpAnyT_one 10 rfl (by kernel_rfl) (fun K hK => ?_)
            go_simp
            have hq := HP.out.nums
            have hb : Below w9.heap.size w9 (w9.alloc (.cells #[.slice none 0 0, .slice none 0 0] 26)) := (Below.refl _ _).alloc (Nat.le_refl _) _
            replace HP : Hid (IvL.PK w (w9.alloc (.cells #[.slice none 0 0, .slice none 0 0] 26)) w1.heap.size gc vc gi uc ta tc cs is vs ns xl yl) := HP.out.below hb
            replace HER : Hid ((w9.alloc (.cells #[.slice none 0 0, .slice none 0 0] 26)).ownsRow w.heap.size 39 3 (.slice (some ⟨g8, 0, none⟩) (is.length + 1) cap8) (is.length + 1) (flatI is vs ++ [.string ⟨xl.toArray⟩, .string ⟨yl.toArray⟩, .slice ta ns.length tc])) := row_below hb HER.out
            clear hb
            have HNW : Hid ((w9.alloc (.cells #[.slice none 0 0, .slice none 0 0] 26)).heap[w9.heap.size]? = some (.cells #[.slice none 0 0, .slice none 0 0] 26 (0, 0))) := heap_alloc_new _ _
            generalize (w9.alloc (.cells #[.slice none 0 0, .slice none 0 0] 26)) = w10 at *
            obtain ⟨b10, hbb10⟩ : ∃ x, x = w9.heap.size := ⟨_, rfl⟩
            rw [← hbb10] at HNW ⊢
            have hN1 : (w1.heap.size + 1) < b10 ∧ w.heap.size ≤ b10 := by omega
            clear hq
            clear hbb10
            refine hK _ _ (fun _ => HP.out.cells) ?_
            clear hK K
            refine wpAnyT_drop _ 11 _ _ _ (by decide) (by kernel_rfl) ?_
            change wpList _ _ _ [_] _ _
            obtain ⟨i0, i1, f0, f1⟩ := PWo.k2 HNW.out
            have hli := lt_of_heap HNW.out
            go_wp2
            go_meet
            case rel =>
              exact ⟨b10, g8, cap8, rfl, heap_set (heap_set HNW.out 0 _) 1 _, Draw.row_boxR HNW.out HER.out (by decide) (Draw.set2_boxR w10 b10 (.slice (some ⟨gc, 0, none⟩) cs.length vc) (.slice (some ⟨g8, 0, none⟩) (is.length + 1) cap8)), HP.out.box HNW.out hN1.1 hN1.2⟩
          · go_simp
            have hq := HP.out.nums
            have hb : Below w8.heap.size w8 (w8.alloc (.cells #[.slice none 0 0, .slice none 0 0] 26)) := (Below.refl _ _).alloc (Nat.le_refl _) _
            replace HP : Hid (IvL.PK w (w8.alloc (.cells #[.slice none 0 0, .slice none 0 0] 26)) w1.heap.size gc vc gi uc ta tc cs is vs ns xl yl) := HP.out.below hb
            replace HER : Hid ((w8.alloc (.cells #[.slice none 0 0, .slice none 0 0] 26)).ownsRow w.heap.size 39 3 (.slice (some ⟨g5, 0, none⟩) (is.length) cap5) (is.length) (flatI is vs)) := row_below hb HER.out
            replace HB1 : Hid ((w8.alloc (.cells #[.slice none 0 0, .slice none 0 0] 26)).heap[b8]? = some (.cells #[.string ⟨xl.toArray⟩, .string ⟨yl.toArray⟩, .slice ta ns.length tc] 39 (0, 0))) := below_heap hb (lt_of_heap HB1.out) HB1.out
            clear hb
            have HNW : Hid ((w8.alloc (.cells #[.slice none 0 0, .slice none 0 0] 26)).heap[w8.heap.size]? = some (.cells #[.slice none 0 0, .slice none 0 0] 26 (0, 0))) := heap_alloc_new _ _
            generalize (w8.alloc (.cells #[.slice none 0 0, .slice none 0 0] 26)) = w9 at *
            obtain ⟨b9, hbb9⟩ : ∃ x, x = w8.heap.size := ⟨_, rfl⟩
            rw [← hbb9] at HNW ⊢
            have hN1 : (w1.heap.size + 1) < b9 ∧ w.heap.size ≤ b9 := by omega
            clear hq
            clear hbb9
            refine hK _ _ (fun _ => HP.out.cells) ?_
            clear hK K
            refine wpAnyT_one 8 rfl (by kernel_rfl) (fun K hK => ?_)
            rw [if_pos (by kernel_rfl)]
            have hq := HP.out.nums
            refine (wp_append_lies w9 (Operand.tmp 31) (Operand.tmp 33) 24 rfl (w.heap.size) 39 ib (.agg #[.string ⟨#[]⟩, .string ⟨#[]⟩, .slice none 0 0]) 3 56 Try.underlying24 HIB.out HZ0.out HZ1.out HZ2.out rfl (by decide) (.slice (some ⟨g5, 0, none⟩) (is.length) cap5) ((is.length)) (flatI is vs) rfl HER.out ⟨b8, 0, none⟩ (1) _ [.string ⟨xl.toArray⟩, .string ⟨yl.toArray⟩, .slice ta ns.length tc] rfl (by simp) (fun j u hj => by rw [IvL.addr_add]; exact PWo.news_three (heap_cell HB1.out 0) (heap_cell HB1.out 1) (heap_cell HB1.out 2) j u hj) (by simp [Value.oneCell']) (by omega) (by unfold maxLen; omega) (by omega) (by omega) w9.heap.size rfl fun g1' cap1 w10 hown hgr hlie hlt9 => hK _ _ (fun _ => ((HP.out.app HER.out hgr (fun g h => by have h8 := IvL.own_ne h; omega))).cells) ?_)
            clear hK K
            have hG8 : (w1.heap.size + 1) < g1' ∧ gi < g1' := by
              rcases IvL.own_lie hlie with h | h <;> omega
            have HQ : Hid (IvL.PK w w10 w1.heap.size gc vc gi uc ta tc cs is vs ns xl yl) := (HP.out.app HER.out hgr (fun g h => by have h8 := IvL.own_ne h; omega))
            replace HNW : Hid (w10.heap[b9]? = some (.cells #[.slice none 0 0, .slice none 0 0] 26 (0, 0))) := PWo.keep_rowG hgr HER.out HNW.out (by decide)
            replace HP := HQ
            clear HQ
            obtain ⟨g8, hg8⟩ : ∃ x, x = g1' := ⟨_, rfl⟩
            obtain ⟨cap8, hcap8⟩ : ∃ x, x = cap1 := ⟨_, rfl⟩
            rw [← hg8, ← hcap8] at hown ⊢
            rw [← hg8] at hG8
            clear hg8 hcap8 hlie hlt9
            replace HER : Hid (w10.ownsRow w.heap.size 39 3 (.slice (some ⟨g8, 0, none⟩) (is.length + 1) cap8) (is.length + 1) (flatI is vs ++ [.string ⟨xl.toArray⟩, .string ⟨yl.toArray⟩, .slice ta ns.length tc])) := by show World.ownsRow _ _ _ _ _ _ _; simpa using hown
            clear hown hgr hq
            clear HB1
            refine wpAnyT_take (i := 9) (v := .agg #[.slice (some ⟨gc, 0, none⟩) cs.length vc, .slice (some ⟨g8, 0, none⟩) (is.length + 1) cap8]) rfl (by kernel_rfl) (by kernel_rfl) (by kernel_rfl) (by kernel_rfl) (fun _ _ _ h => h) (Or.inl ⟨by kernel_rfl, fun X hS => by obtain ⟨e0, e1, e2, e3, e4⟩ := hS; go_simp⟩) HP.out.cells ?_
            try go_simp
            refine wpAnyT_drop _ 11 _ _ _ (by decide) (by kernel_rfl) ?_
            change wpList _ _ _ [_] _ _
            obtain ⟨i0, i1, f0, f1⟩ := PWo.k2 HNW.out
            have hli := lt_of_heap HNW.out
            go_wp2
            go_meet
            case rel =>
              exact ⟨b9, g8, cap8, rfl, heap_set (heap_set HNW.out 0 _) 1 _, Draw.row_boxR HNW.out HER.out (by decide) (Draw.set2_boxR w10 b9 (.slice (some ⟨gc, 0, none⟩) cs.length vc) (.slice (some ⟨g8, 0, none⟩) (is.length + 1) cap8)), HP.out.box HNW.out hN1.1 hN1.2⟩
        · go_simp
          have hq := HP.out.nums
          have hb : Below w7.heap.size w7 (w7.alloc (.cells #[.slice none 0 0, .slice none 0 0] 26)) := (Below.refl _ _).alloc (Nat.le_refl _) _
          replace HP : Hid (IvL.PK w (w7.alloc (.cells #[.slice none 0 0, .slice none 0 0] 26)) w1.heap.size gc vc gi uc ta tc cs is vs ns xl yl) := HP.out.below hb
          replace HER : Hid ((w7.alloc (.cells #[.slice none 0 0, .slice none 0 0] 26)).ownsRow w.heap.size 39 3 (.slice (some ⟨g5, 0, none⟩) (is.length) cap5) (is.length) (flatI is vs)) := row_below hb HER.out
          clear hb
          have HNW : Hid ((w7.alloc (.cells #[.slice none 0 0, .slice none 0 0] 26)).heap[w7.heap.size]? = some (.cells #[.slice none 0 0, .slice none 0 0] 26 (0, 0))) := heap_alloc_new _ _
          generalize (w7.alloc (.cells #[.slice none 0 0, .slice none 0 0] 26)) = w8 at *
          obtain ⟨b8, hbb8⟩ : ∃ x, x = w7.heap.size := ⟨_, rfl⟩
          rw [← hbb8] at HNW ⊢
          have hN1 : (w1.heap.size + 1) < b8 ∧ w.heap.size ≤ b8 := by omega
          clear hq
          clear hbb8
          refine hK _ _ (fun _ => HP.out.cells) ?_
          clear hK K
          refine wpAnyT_one 7 rfl (by kernel_rfl) (fun K hK => ?_)
          go_simp
          have hq := HP.out.nums
          have hq_g5 := (row_own HER.out g5 rfl).2
          have hb : Below w8.heap.size w8 (w8.alloc (.cells #[.string ⟨xl.toArray⟩, .string ⟨yl.toArray⟩, .slice ta ns.length tc] 39)) := (Below.refl _ _).alloc (Nat.le_refl _) _
          replace HP : Hid (IvL.PK w (w8.alloc (.cells #[.string ⟨xl.toArray⟩, .string ⟨yl.toArray⟩, .slice ta ns.length tc] 39)) w1.heap.size gc vc gi uc ta tc cs is vs ns xl yl) := HP.out.below hb
          replace HER : Hid ((w8.alloc (.cells #[.string ⟨xl.toArray⟩, .string ⟨yl.toArray⟩, .slice ta ns.length tc] 39)).ownsRow w.heap.size 39 3 (.slice (some ⟨g5, 0, none⟩) (is.length) cap5) (is.length) (flatI is vs)) := row_below hb HER.out
          replace HNW : Hid ((w8.alloc (.cells #[.string ⟨xl.toArray⟩, .string ⟨yl.toArray⟩, .slice ta ns.length tc] 39)).heap[b8]? = some (.cells #[.slice none 0 0, .slice none 0 0] 26 (0, 0))) := below_heap hb (lt_of_heap HNW.out) HNW.out
          clear hb
          have HB1 : Hid ((w8.alloc (.cells #[.string ⟨xl.toArray⟩, .string ⟨yl.toArray⟩, .slice ta ns.length tc] 39)).heap[w8.heap.size]? = some (.cells #[.string ⟨xl.toArray⟩, .string ⟨yl.toArray⟩, .slice ta ns.length tc] 39 (0, 0))) := heap_alloc_new _ _
          generalize (w8.alloc (.cells #[.string ⟨xl.toArray⟩, .string ⟨yl.toArray⟩, .slice ta ns.length tc] 39)) = w9 at *
          obtain ⟨b9, hbb9⟩ : ∃ x, x = w8.heap.size := ⟨_, rfl⟩
          rw [← hbb9] at HB1 ⊢
          have hAn : (w1.heap.size + 1) < b9 ∧ gi < b9 := by omega
          have hCng5 : g5 < b9 := by omega
          clear hq hq_g5
          clear hbb9
          refine hK _ _ (fun _ => HP.out.cells) ?_
          clear hK K
          refine wpAnyT_one 8 rfl (by kernel_rfl) (fun K hK => ?_)
          rw [if_pos (by kernel_rfl)]
          have hq := HP.out.nums
          refine (wp_append_lies w9 (Operand.tmp 31) (Operand.tmp 33) 24 rfl (w.heap.size) 39 ib (.agg #[.string ⟨#[]⟩, .string ⟨#[]⟩, .slice none 0 0]) 3 56 Try.underlying24 HIB.out HZ0.out HZ1.out HZ2.out rfl (by decide) (.slice (some ⟨g5, 0, none⟩) (is.length) cap5) ((is.length)) (flatI is vs) rfl HER.out ⟨b9, 0, none⟩ (1) _ [.string ⟨xl.toArray⟩, .string ⟨yl.toArray⟩, .slice ta ns.length tc] rfl (by simp) (fun j u hj => by rw [IvL.addr_add]; exact PWo.news_three (heap_cell HB1.out 0) (heap_cell HB1.out 1) (heap_cell HB1.out 2) j u hj) (by simp [Value.oneCell']) (by omega) (by unfold maxLen; omega) (by omega) (by omega) w9.heap.size rfl fun g1' cap1 w10 hown hgr hlie hlt9 => hK _ _ (fun _ => ((HP.out.app HER.out hgr (fun g h => by have h8 := IvL.own_ne h; omega))).cells) ?_)
          clear hK K
          have hG8 : (w1.heap.size + 1) < g1' ∧ gi < g1' := by
            rcases IvL.own_lie hlie with h | h <;> omega
          have HQ : Hid (IvL.PK w w10 w1.heap.size gc vc gi uc ta tc cs is vs ns xl yl) := (HP.out.app HER.out hgr (fun g h => by have h8 := IvL.own_ne h; omega))
          replace HNW : Hid (w10.heap[b8]? = some (.cells #[.slice none 0 0, .slice none 0 0] 26 (0, 0))) := PWo.keep_rowG hgr HER.out HNW.out (by decide)
          replace HP := HQ
          clear HQ
          obtain ⟨g8, hg8⟩ : ∃ x, x = g1' := ⟨_, rfl⟩
          obtain ⟨cap8, hcap8⟩ : ∃ x, x = cap1 := ⟨_, rfl⟩
          rw [← hg8, ← hcap8] at hown ⊢
          rw [← hg8] at hG8
          clear hg8 hcap8 hlie hlt9
          replace HER : Hid (w10.ownsRow w.heap.size 39 3 (.slice (some ⟨g8, 0, none⟩) (is.length + 1) cap8) (is.length + 1) (flatI is vs ++ [.string ⟨xl.toArray⟩, .string ⟨yl.toArray⟩, .slice ta ns.length tc])) := by show World.ownsRow _ _ _ _ _ _ _; simpa using hown
          clear hown hgr hq
          clear HB1
          refine wpAnyT_take (i := 9) (v := .agg #[.slice (some ⟨gc, 0, none⟩) cs.length vc, .slice (some ⟨g8, 0, none⟩) (is.length + 1) cap8]) rfl (by kernel_rfl) (by kernel_rfl) (by kernel_rfl) (by kernel_rfl) (fun _ _ _ h => h) (Or.inl ⟨by kernel_rfl, fun X hS => by obtain ⟨e0, e1, e2, e3, e4⟩ := hS; go_simp⟩) HP.out.cells ?_
          try go_simp
          refine wpAnyT_drop _ 11 _ _ _ (by decide) (by kernel_rfl) ?_
          change wpList _ _ _ [_] _ _
          obtain ⟨i0, i1, f0, f1⟩ := PWo.k2 HNW.out
          have hli := lt_of_heap HNW.out
          go_wp2
          go_meet
          case rel =>
            exact ⟨b8, g8, cap8, rfl, heap_set (heap_set HNW.out 0 _) 1 _, Draw.row_boxR HNW.out HER.out (by decide) (Draw.set2_boxR w10 b8 (.slice (some ⟨gc, 0, none⟩) cs.length vc) (.slice (some ⟨g8, 0, none⟩) (is.length + 1) cap8)), HP.out.box HNW.out hN1.1 hN1.2⟩
      · go_simp
        have hq := HP.out.nums
        have hq_b6 := (row_own HER.out b6 rfl).2
        have hb : Below w6.heap.size w6 (w6.alloc (.cells #[.string ⟨xl.toArray⟩, .string ⟨yl.toArray⟩, .slice ta ns.length tc] 39)) := (Below.refl _ _).alloc (Nat.le_refl _) _
        replace HP : Hid (IvL.PK w (w6.alloc (.cells #[.string ⟨xl.toArray⟩, .string ⟨yl.toArray⟩, .slice ta ns.length tc] 39)) w1.heap.size gc vc gi uc ta tc cs is vs ns xl yl) := HP.out.below hb
        replace HER : Hid ((w6.alloc (.cells #[.string ⟨xl.toArray⟩, .string ⟨yl.toArray⟩, .slice ta ns.length tc] 39)).ownsRow w.heap.size 39 3 (.slice (some ⟨b6, 0, none⟩) 0 0) 0 []) := row_below hb HER.out
        clear hb
        have HB1 : Hid ((w6.alloc (.cells #[.string ⟨xl.toArray⟩, .string ⟨yl.toArray⟩, .slice ta ns.length tc] 39)).heap[w6.heap.size]? = some (.cells #[.string ⟨xl.toArray⟩, .string ⟨yl.toArray⟩, .slice ta ns.length tc] 39 (0, 0))) := heap_alloc_new _ _
        generalize (w6.alloc (.cells #[.string ⟨xl.toArray⟩, .string ⟨yl.toArray⟩, .slice ta ns.length tc] 39)) = w7 at *
        obtain ⟨b7, hbb7⟩ : ∃ x, x = w6.heap.size := ⟨_, rfl⟩
        rw [← hbb7] at HB1 ⊢
        have hAn : (w1.heap.size + 1) < b7 ∧ gi < b7 := by omega
        have hCnb6 : b6 < b7 := by omega
        clear hq hq_b6
        clear hbb7
        refine hK _ _ (fun _ => HP.out.cells) ?_
        clear hK K
        refine wpAnyT_two 5 10 rfl rfl (by kernel_rfl) (fun K hK => ?_) (fun K hK => ?_)
        · rw [if_pos (by kernel_rfl)]
          have hq := HP.out.nums
          refine (wp_append_lies w7 (Operand.tmp 28) (Operand.tmp 30) 24 rfl (w.heap.size) 39 ib (.agg #[.string ⟨#[]⟩, .string ⟨#[]⟩, .slice none 0 0]) 3 56 Try.underlying24 HIB.out HZ0.out HZ1.out HZ2.out rfl (by decide) (.slice (some ⟨b6, 0, none⟩) 0 0) (0) [] rfl HER.out ⟨gi, 0, none⟩ (is.length) _ (flatI is vs) rfl HP.out.wR.1 (fun j u hj => by rw [IvL.addr_add]; exact row_cell HP.out.wR j hj) HO1.out (by omega) (by unfold maxLen; omega) (by omega) (by omega) w7.heap.size rfl fun g1' cap1 w8 hown hgr hlie hlt9 => hK _ _ (fun _ => ((HP.out.app HER.out hgr (fun g h => by have h8 := IvL.own_ne h; omega))).cells) ?_)
          clear hK K
          have hG5 : (w1.heap.size + 1) < g1' ∧ gi < g1' := by
            rcases IvL.own_lie hlie with h | h <;> omega
          have HQ : Hid (IvL.PK w w8 w1.heap.size gc vc gi uc ta tc cs is vs ns xl yl) := (HP.out.app HER.out hgr (fun g h => by have h8 := IvL.own_ne h; omega))
          replace HB1 : Hid (w8.heap[b7]? = some (.cells #[.string ⟨xl.toArray⟩, .string ⟨yl.toArray⟩, .slice ta ns.length tc] 39 (0, 0))) := IvL.heap_own HB1.out hgr (by omega)
          replace HP := HQ
          clear HQ
          obtain ⟨g5, hg5⟩ : ∃ x, x = g1' := ⟨_, rfl⟩
          obtain ⟨cap5, hcap5⟩ : ∃ x, x = cap1 := ⟨_, rfl⟩
          rw [← hg5, ← hcap5] at hown ⊢
          rw [← hg5] at hG5
          clear hg5 hcap5 hlie hlt9
          replace HER : Hid (w8.ownsRow w.heap.size 39 3 (.slice (some ⟨g5, 0, none⟩) (is.length) cap5) (is.length) (flatI is vs)) := by show World.ownsRow _ _ _ _ _ _ _; simpa using hown
          clear hown hgr hq
          try rw [Nat.zero_add]
          refine wpAnyT_two 8 10 rfl rfl (by kernel_rfl) (fun K hK => ?_) (fun K hK => ?_)
          · rw [if_pos (by kernel_rfl)]
            have hq := HP.out.nums
            refine (wp_append_lies w8 (Operand.tmp 31) (Operand.tmp 33) 24 rfl (w.heap.size) 39 ib (.agg #[.string ⟨#[]⟩, .string ⟨#[]⟩, .slice none 0 0]) 3 56 Try.underlying24 HIB.out HZ0.out HZ1.out HZ2.out rfl (by decide) (.slice (some ⟨g5, 0, none⟩) (is.length) cap5) ((is.length)) (flatI is vs) rfl HER.out ⟨b7, 0, none⟩ (1) _ [.string ⟨xl.toArray⟩, .string ⟨yl.toArray⟩, .slice ta ns.length tc] rfl (by simp) (fun j u hj => by rw [IvL.addr_add]; exact PWo.news_three (heap_cell HB1.out 0) (heap_cell HB1.out 1) (heap_cell HB1.out 2) j u hj) (by simp [Value.oneCell']) (by omega) (by unfold maxLen; omega) (by omega) (by omega) w8.heap.size rfl fun g1' cap1 w9 hown hgr hlie hlt9 => hK _ _ (fun _ => ((HP.out.app HER.out hgr (fun g h => by have h8 := IvL.own_ne h; omega))).cells) ?_)
            clear hK K
            have hG8 : (w1.heap.size + 1) < g1' ∧ gi < g1' := by
              rcases IvL.own_lie hlie with h | h <;> omega
            have HQ : Hid (IvL.PK w w9 w1.heap.size gc vc gi uc ta tc cs is vs ns xl yl) := (HP.out.app HER.out hgr (fun g h => by have h8 := IvL.own_ne h; omega))
            replace HP := HQ
            clear HQ
            obtain ⟨g8, hg8⟩ : ∃ x, x = g1' := ⟨_, rfl⟩
            obtain ⟨cap8, hcap8⟩ : ∃ x, x = cap1 := ⟨_, rfl⟩
            rw [← hg8, ← hcap8] at hown ⊢
            rw [← hg8] at hG8
            clear hg8 hcap8 hlie hlt9
            replace HER : Hid (w9.ownsRow w.heap.size 39 3 (.slice (some ⟨g8, 0, none⟩) (is.length + 1) cap8) (is.length + 1) (flatI is vs ++ [.string ⟨xl.toArray⟩, .string ⟨yl.toArray⟩, .slice ta ns.length tc])) := by show World.ownsRow _ _ _ _ _ _ _; simpa using hown
            clear hown hgr hq
            clear HB1
            refine wpAnyT_take (i := 9) (v := .agg #[.slice (some ⟨gc, 0, none⟩) cs.length vc, .slice (some ⟨g8, 0, none⟩) (is.length + 1) cap8]) rfl (by kernel_rfl) (by kernel_rfl) (by kernel_rfl) (by kernel_rfl) (fun _ _ _ h => h) (Or.inl ⟨by kernel_rfl, fun X hS => by obtain ⟨e0, e1, e2, e3, e4⟩ := hS; go_simp⟩) HP.out.cells ?_
            try go_simp
            refine wpAnyT_one 10 rfl (by kernel_rfl) (fun K hK => ?_)
            go_simp
            have hq := HP.out.nums
            have hb : Below w9.heap.size w9 (w9.alloc (.cells #[.slice none 0 0, .slice none 0 0] 26)) := (Below.refl _ _).alloc (Nat.le_refl _) _
            replace HP : Hid (IvL.PK w (w9.alloc (.cells #[.slice none 0 0, .slice none 0 0] 26)) w1.heap.size gc vc gi uc ta tc cs is vs ns xl yl) := HP.out.below hb
            replace HER : Hid ((w9.alloc (.cells #[.slice none 0 0, .slice none 0 0] 26)).ownsRow w.heap.size 39 3 (.slice (some ⟨g8, 0, none⟩) (is.length + 1) cap8) (is.length + 1) (flatI is vs ++ [.string ⟨xl.toArray⟩, .string ⟨yl.toArray⟩, .slice ta ns.length tc])) := row_below hb HER.out
            clear hb
            have HNW : Hid ((w9.alloc (.cells #[.slice none 0 0, .slice none 0 0] 26)).heap[w9.heap.size]? = some (.cells #[.slice none 0 0, .slice none 0 0] 26 (0, 0))) := heap_alloc_new _ _
            generalize (w9.alloc (.cells #[.slice none 0 0, .slice none 0 0] 26)) = w10 at *
            obtain ⟨b10, hbb10⟩ : ∃ x, x = w9.heap.size := ⟨_, rfl⟩
            rw [← hbb10] at HNW ⊢
            have hN1 : (w1.heap.size + 1) < b10 ∧ w.heap.size ≤ b10 := by omega
            clear hq
            clear hbb10
            refine hK _ _ (fun _ => HP.out.cells) ?_
            clear hK K
            refine wpAnyT_drop _ 11 _ _ _ (by decide) (by kernel_rfl) ?_
            change wpList _ _ _ [_] _ _
            obtain ⟨i0, i1, f0, f1⟩ := PWo.k2 HNW.out
            have hli := lt_of_heap HNW.out
            go_wp2
            go_meet
            case rel =>
              exact ⟨b10, g8, cap8, rfl, heap_set (heap_set HNW.out 0 _) 1 _, Draw.row_boxR HNW.out HER.out (by decide) (Draw.set2_boxR w10 b10 (.slice (some ⟨gc, 0, none⟩) cs.length vc) (.slice (some ⟨g8, 0, none⟩) (is.length + 1) cap8)), HP.out.box HNW.out hN1.1 hN1.2⟩
          · go_simp
            have hq := HP.out.nums
            have hb : Below w8.heap.size w8 (w8.alloc (.cells #[.slice none 0 0, .slice none 0 0] 26)) := (Below.refl _ _).alloc (Nat.le_refl _) _
            replace HP : Hid (IvL.PK w (w8.alloc (.cells #[.slice none 0 0, .slice none 0 0] 26)) w1.heap.size gc vc gi uc ta tc cs is vs ns xl yl) := HP.out.below hb
            replace HER : Hid ((w8.alloc (.cells #[.slice none 0 0, .slice none 0 0] 26)).ownsRow w.heap.size 39 3 (.slice (some ⟨g5, 0, none⟩) (is.length) cap5) (is.length) (flatI is vs)) := row_below hb HER.out
            replace HB1 : Hid ((w8.alloc (.cells #[.slice none 0 0, .slice none 0 0] 26)).heap[b7]? = some (.cells #[.string ⟨xl.toArray⟩, .string ⟨yl.toArray⟩, .slice ta ns.length tc] 39 (0, 0))) := below_heap hb (lt_of_heap HB1.out) HB1.out
            clear hb
            have HNW : Hid ((w8.alloc (.cells #[.slice none 0 0, .slice none 0 0] 26)).heap[w8.heap.size]? = some (.cells #[.slice none 0 0, .slice none 0 0] 26 (0, 0))) := heap_alloc_new _ _
            generalize (w8.alloc (.cells #[.slice none 0 0, .slice none 0 0] 26)) = w9 at *
            obtain ⟨b9, hbb9⟩ : ∃ x, x = w8.heap.size := ⟨_, rfl⟩
            rw [← hbb9] at HNW ⊢
            have hN1 : (w1.heap.size + 1) < b9 ∧ w.heap.size ≤ b9 := by omega
            clear hq
            clear hbb9
            refine hK _ _ (fun _ => HP.out.cells) ?_
            clear hK K
            refine wpAnyT_one 8 rfl (by kernel_rfl) (fun K hK => ?_)
            rw [if_pos (by kernel_rfl)]
            have hq := HP.out.nums
            refine (wp_append_lies w9 (Operand.tmp 31) (Operand.tmp 33) 24 rfl (w.heap.size) 39 ib (.agg #[.string ⟨#[]⟩, .string ⟨#[]⟩, .slice none 0 0]) 3 56 Try.underlying24 HIB.out HZ0.out HZ1.out HZ2.out rfl (by decide) (.slice (some ⟨g5, 0, none⟩) (is.length) cap5) ((is.length)) (flatI is vs) rfl HER.out ⟨b7, 0, none⟩ (1) _ [.string ⟨xl.toArray⟩, .string ⟨yl.toArray⟩, .slice ta ns.length tc] rfl (by simp) (fun j u hj => by rw [IvL.addr_add]; exact PWo.news_three (heap_cell HB1.out 0) (heap_cell HB1.out 1) (heap_cell HB1.out 2) j u hj) (by simp [Value.oneCell']) (by omega) (by unfold maxLen; omega) (by omega) (by omega) w9.heap.size rfl fun g1' cap1 w10 hown hgr hlie hlt9 => hK _ _ (fun _ => ((HP.out.app HER.out hgr (fun g h => by have h8 := IvL.own_ne h; omega))).cells) ?_)
            clear hK K
            have hG8 : (w1.heap.size + 1) < g1' ∧ gi < g1' := by
              rcases IvL.own_lie hlie with h | h <;> omega
            have HQ : Hid (IvL.PK w w10 w1.heap.size gc vc gi uc ta tc cs is vs ns xl yl) := (HP.out.app HER.out hgr (fun g h => by have h8 := IvL.own_ne h; omega))
            replace HNW : Hid (w10.heap[b9]? = some (.cells #[.slice none 0 0, .slice none 0 0] 26 (0, 0))) := PWo.keep_rowG hgr HER.out HNW.out (by decide)
            replace HP := HQ
            clear HQ
            obtain ⟨g8, hg8⟩ : ∃ x, x = g1' := ⟨_, rfl⟩
            obtain ⟨cap8, hcap8⟩ : ∃ x, x = cap1 := ⟨_, rfl⟩
            rw [← hg8, ← hcap8] at hown ⊢
            rw [← hg8] at hG8
            clear hg8 hcap8 hlie hlt9
            replace HER : Hid (w10.ownsRow w.heap.size 39 3 (.slice (some ⟨g8, 0, none⟩) (is.length + 1) cap8) (is.length + 1) (flatI is vs ++ [.string ⟨xl.toArray⟩, .string ⟨yl.toArray⟩, .slice ta ns.length tc])) := by show World.ownsRow _ _ _ _ _ _ _; simpa using hown
            clear hown hgr hq
            clear HB1
            refine wpAnyT_take (i := 9) (v := .agg #[.slice (some ⟨gc, 0, none⟩) cs.length vc, .slice (some ⟨g8, 0, none⟩) (is.length + 1) cap8]) rfl (by kernel_rfl) (by kernel_rfl) (by kernel_rfl) (by kernel_rfl) (fun _ _ _ h => h) (Or.inl ⟨by kernel_rfl, fun X hS => by obtain ⟨e0, e1, e2, e3, e4⟩ := hS; go_simp⟩) HP.out.cells ?_
            try go_simp
            refine wpAnyT_drop _ 11 _ _ _ (by decide) (by kernel_rfl) ?_
            change wpList _ _ _ [_] _ _
            obtain ⟨i0, i1, f0, f1⟩ := PWo.k2 HNW.out
            have hli := lt_of_heap HNW.out
            go_wp2
            go_meet
            case rel =>
              exact ⟨b9, g8, cap8, rfl, heap_set (heap_set HNW.out 0 _) 1 _, Draw.row_boxR HNW.out HER.out (by decide) (Draw.set2_boxR w10 b9 (.slice (some ⟨gc, 0, none⟩) cs.length vc) (.slice (some ⟨g8, 0, none⟩) (is.length + 1) cap8)), HP.out.box HNW.out hN1.1 hN1.2⟩
        · go_simp
          have hq := HP.out.nums
          have hb : Below w7.heap.size w7 (w7.alloc (.cells #[.slice none 0 0, .slice none 0 0] 26)) := (Below.refl _ _).alloc (Nat.le_refl _) _
          replace HP : Hid (IvL.PK w (w7.alloc (.cells #[.slice none 0 0, .slice none 0 0] 26)) w1.heap.size gc vc gi uc ta tc cs is vs ns xl yl) := HP.out.below hb
          replace HER : Hid ((w7.alloc (.cells #[.slice none 0 0, .slice none 0 0] 26)).ownsRow w.heap.size 39 3 (.slice (some ⟨b6, 0, none⟩) 0 0) 0 []) := row_below hb HER.out
          replace HB1 : Hid ((w7.alloc (.cells #[.slice none 0 0, .slice none 0 0] 26)).heap[b7]? = some (.cells #[.string ⟨xl.toArray⟩, .string ⟨yl.toArray⟩, .slice ta ns.length tc] 39 (0, 0))) := below_heap hb (lt_of_heap HB1.out) HB1.out
          clear hb
          have HNW : Hid ((w7.alloc (.cells #[.slice none 0 0, .slice none 0 0] 26)).heap[w7.heap.size]? = some (.cells #[.slice none 0 0, .slice none 0 0] 26 (0, 0))) := heap_alloc_new _ _
          generalize (w7.alloc (.cells #[.slice none 0 0, .slice none 0 0] 26)) = w8 at *
          obtain ⟨b8, hbb8⟩ : ∃ x, x = w7.heap.size := ⟨_, rfl⟩
          rw [← hbb8] at HNW ⊢
          have hN1 : (w1.heap.size + 1) < b8 ∧ w.heap.size ≤ b8 := by omega
          clear hq
          clear hbb8
          refine hK _ _ (fun _ => HP.out.cells) ?_
          clear hK K
          refine wpAnyT_one 5 rfl (by kernel_rfl) (fun K hK => ?_)
          rw [if_pos (by kernel_rfl)]
          have hq := HP.out.nums
          refine (wp_append_lies w8 (Operand.tmp 28) (Operand.tmp 30) 24 rfl (w.heap.size) 39 ib (.agg #[.string ⟨#[]⟩, .string ⟨#[]⟩, .slice none 0 0]) 3 56 Try.underlying24 HIB.out HZ0.out HZ1.out HZ2.out rfl (by decide) (.slice (some ⟨b6, 0, none⟩) 0 0) (0) [] rfl HER.out ⟨gi, 0, none⟩ (is.length) _ (flatI is vs) rfl HP.out.wR.1 (fun j u hj => by rw [IvL.addr_add]; exact row_cell HP.out.wR j hj) HO1.out (by omega) (by unfold maxLen; omega) (by omega) (by omega) w8.heap.size rfl fun g1' cap1 w9 hown hgr hlie hlt9 => hK _ _ (fun _ => ((HP.out.app HER.out hgr (fun g h => by have h8 := IvL.own_ne h; omega))).cells) ?_)
          clear hK K
          have hG5 : (w1.heap.size + 1) < g1' ∧ gi < g1' := by
            rcases IvL.own_lie hlie with h | h <;> omega
          have HQ : Hid (IvL.PK w w9 w1.heap.size gc vc gi uc ta tc cs is vs ns xl yl) := (HP.out.app HER.out hgr (fun g h => by have h8 := IvL.own_ne h; omega))
          replace HB1 : Hid (w9.heap[b7]? = some (.cells #[.string ⟨xl.toArray⟩, .string ⟨yl.toArray⟩, .slice ta ns.length tc] 39 (0, 0))) := IvL.heap_own HB1.out hgr (by omega)
          replace HNW : Hid (w9.heap[b8]? = some (.cells #[.slice none 0 0, .slice none 0 0] 26 (0, 0))) := PWo.keep_rowG hgr HER.out HNW.out (by decide)
          replace HP := HQ
          clear HQ
          obtain ⟨g5, hg5⟩ : ∃ x, x = g1' := ⟨_, rfl⟩
          obtain ⟨cap5, hcap5⟩ : ∃ x, x = cap1 := ⟨_, rfl⟩
          rw [← hg5, ← hcap5] at hown ⊢
          rw [← hg5] at hG5
          clear hg5 hcap5 hlie hlt9
          replace HER : Hid (w9.ownsRow w.heap.size 39 3 (.slice (some ⟨g5, 0, none⟩) (is.length) cap5) (is.length) (flatI is vs)) := by show World.ownsRow _ _ _ _ _ _ _; simpa using hown
          clear hown hgr hq
          try rw [Nat.zero_add]
          refine wpAnyT_one 8 rfl (by kernel_rfl) (fun K hK => ?_)
          rw [if_pos (by kernel_rfl)]
          have hq := HP.out.nums
          refine (wp_append_lies w9 (Operand.tmp 31) (Operand.tmp 33) 24 rfl (w.heap.size) 39 ib (.agg #[.string ⟨#[]⟩, .string ⟨#[]⟩, .slice none 0 0]) 3 56 Try.underlying24 HIB.out HZ0.out HZ1.out HZ2.out rfl (by decide) (.slice (some ⟨g5, 0, none⟩) (is.length) cap5) ((is.length)) (flatI is vs) rfl HER.out ⟨b7, 0, none⟩ (1) _ [.string ⟨xl.toArray⟩, .string ⟨yl.toArray⟩, .slice ta ns.length tc] rfl (by simp) (fun j u hj => by rw [IvL.addr_add]; exact PWo.news_three (heap_cell HB1.out 0) (heap_cell HB1.out 1) (heap_cell HB1.out 2) j u hj) (by simp [Value.oneCell']) (by omega) (by unfold maxLen; omega) (by omega) (by omega) w9.heap.size rfl fun g1' cap1 w10 hown hgr hlie hlt9 => hK _ _ (fun _ => ((HP.out.app HER.out hgr (fun g h => by have h8 := IvL.own_ne h; omega))).cells) ?_)
          clear hK K
          have hG8 : (w1.heap.size + 1) < g1' ∧ gi < g1' := by
            rcases IvL.own_lie hlie with h | h <;> omega
          have HQ : Hid (IvL.PK w w10 w1.heap.size gc vc gi uc ta tc cs is vs ns xl yl) := (HP.out.app HER.out hgr (fun g h => by have h8 := IvL.own_ne h; omega))
          replace HNW : Hid (w10.heap[b8]? = some (.cells #[.slice none 0 0, .slice none 0 0] 26 (0, 0))) := PWo.keep_rowG hgr HER.out HNW.out (by decide)
          replace HP := HQ
          clear HQ
          obtain ⟨g8, hg8⟩ : ∃ x, x = g1' := ⟨_, rfl⟩
          obtain ⟨cap8, hcap8⟩ : ∃ x, x = cap1 := ⟨_, rfl⟩
          rw [← hg8, ← hcap8] at hown ⊢
          rw [← hg8] at hG8
          clear hg8 hcap8 hlie hlt9
          replace HER : Hid (w10.ownsRow w.heap.size 39 3 (.slice (some ⟨g8, 0, none⟩) (is.length + 1) cap8) (is.length + 1) (flatI is vs ++ [.string ⟨xl.toArray⟩, .string ⟨yl.toArray⟩, .slice ta ns.length tc])) := by show World.ownsRow _ _ _ _ _ _ _; simpa using hown
          clear hown hgr hq
          clear HB1
          refine wpAnyT_take (i := 9) (v := .agg #[.slice (some ⟨gc, 0, none⟩) cs.length vc, .slice (some ⟨g8, 0, none⟩) (is.length + 1) cap8]) rfl (by kernel_rfl) (by kernel_rfl) (by kernel_rfl) (by kernel_rfl) (fun _ _ _ h => h) (Or.inl ⟨by kernel_rfl, fun X hS => by obtain ⟨e0, e1, e2, e3, e4⟩ := hS; go_simp⟩) HP.out.cells ?_
          try go_simp
          refine wpAnyT_drop _ 11 _ _ _ (by decide) (by kernel_rfl) ?_
          change wpList _ _ _ [_] _ _
          obtain ⟨i0, i1, f0, f1⟩ := PWo.k2 HNW.out
          have hli := lt_of_heap HNW.out
          go_wp2
          go_meet
          case rel =>
            exact ⟨b8, g8, cap8, rfl, heap_set (heap_set HNW.out 0 _) 1 _, Draw.row_boxR HNW.out HER.out (by decide) (Draw.set2_boxR w10 b8 (.slice (some ⟨gc, 0, none⟩) cs.length vc) (.slice (some ⟨g8, 0, none⟩) (is.length + 1) cap8)), HP.out.box HNW.out hN1.1 hN1.2⟩
      · go_simp
        have hq := HP.out.nums
        have hb : Below w6.heap.size w6 (w6.alloc (.cells #[.slice none 0 0, .slice none 0 0] 26)) := (Below.refl _ _).alloc (Nat.le_refl _) _
        replace HP : Hid (IvL.PK w (w6.alloc (.cells #[.slice none 0 0, .slice none 0 0] 26)) w1.heap.size gc vc gi uc ta tc cs is vs ns xl yl) := HP.out.below hb
        replace HER : Hid ((w6.alloc (.cells #[.slice none 0 0, .slice none 0 0] 26)).ownsRow w.heap.size 39 3 (.slice (some ⟨b6, 0, none⟩) 0 0) 0 []) := row_below hb HER.out
        clear hb
        have HNW : Hid ((w6.alloc (.cells #[.slice none 0 0, .slice none 0 0] 26)).heap[w6.heap.size]? = some (.cells #[.slice none 0 0, .slice none 0 0] 26 (0, 0))) := heap_alloc_new _ _
        generalize (w6.alloc (.cells #[.slice none 0 0, .slice none 0 0] 26)) = w7 at *
        obtain ⟨b7, hbb7⟩ : ∃ x, x = w6.heap.size := ⟨_, rfl⟩
        rw [← hbb7] at HNW ⊢
        have hN1 : (w1.heap.size + 1) < b7 ∧ w.heap.size ≤ b7 := by omega
        clear hq
        clear hbb7
        refine hK _ _ (fun _ => HP.out.cells) ?_
        clear hK K
        refine wpAnyT_two 5 7 rfl rfl (by kernel_rfl) (fun K hK => ?_) (fun K hK => ?_)
        · rw [if_pos (by kernel_rfl)]
          have hq := HP.out.nums
          refine (wp_append_lies w7 (Operand.tmp 28) (Operand.tmp 30) 24 rfl (w.heap.size) 39 ib (.agg #[.string ⟨#[]⟩, .string ⟨#[]⟩, .slice none 0 0]) 3 56 Try.underlying24 HIB.out HZ0.out HZ1.out HZ2.out rfl (by decide) (.slice (some ⟨b6, 0, none⟩) 0 0) (0) [] rfl HER.out ⟨gi, 0, none⟩ (is.length) _ (flatI is vs) rfl HP.out.wR.1 (fun j u hj => by rw [IvL.addr_add]; exact row_cell HP.out.wR j hj) HO1.out (by omega) (by unfold maxLen; omega) (by omega) (by omega) w7.heap.size rfl fun g1' cap1 w8 hown hgr hlie hlt9 => hK _ _ (fun _ => ((HP.out.app HER.out hgr (fun g h => by have h8 := IvL.own_ne h; omega))).cells) ?_)
          clear hK K
          have hG5 : (w1.heap.size + 1) < g1' ∧ gi < g1' := by
            rcases IvL.own_lie hlie with h | h <;> omega
          have HQ : Hid (IvL.PK w w8 w1.heap.size gc vc gi uc ta tc cs is vs ns xl yl) := (HP.out.app HER.out hgr (fun g h => by have h8 := IvL.own_ne h; omega))
          replace HNW : Hid (w8.heap[b7]? = some (.cells #[.slice none 0 0, .slice none 0 0] 26 (0, 0))) := PWo.keep_rowG hgr HER.out HNW.out (by decide)
          replace HP := HQ
          clear HQ
          obtain ⟨g5, hg5⟩ : ∃ x, x = g1' := ⟨_, rfl⟩
          obtain ⟨cap5, hcap5⟩ : ∃ x, x = cap1 := ⟨_, rfl⟩
          rw [← hg5, ← hcap5] at hown ⊢
          rw [← hg5] at hG5
          clear hg5 hcap5 hlie hlt9
          replace HER : Hid (w8.ownsRow w.heap.size 39 3 (.slice (some ⟨g5, 0, none⟩) (is.length) cap5) (is.length) (flatI is vs)) := by show World.ownsRow _ _ _ _ _ _ _; simpa using hown
          clear hown hgr hq
          try rw [Nat.zero_add]
          refine wpAnyT_one 7 rfl (by kernel_rfl) (fun K hK => ?_)
          go_simp
          have hq := HP.out.nums
          have hq_g5 := (row_own HER.out g5 rfl).2
          have hb : Below w8.heap.size w8 (w8.alloc (.cells #[.string ⟨xl.toArray⟩, .string ⟨yl.toArray⟩, .slice ta ns.length tc] 39)) := (Below.refl _ _).alloc (Nat.le_refl _) _
          replace HP : Hid (IvL.PK w (w8.alloc (.cells #[.string ⟨xl.toArray⟩, .string ⟨yl.toArray⟩, .slice ta ns.length tc] 39)) w1.heap.size gc vc gi uc ta tc cs is vs ns xl yl) := HP.out.below hb
          replace HER : Hid ((w8.alloc (.cells #[.string ⟨xl.toArray⟩, .string ⟨yl.toArray⟩, .slice ta ns.length tc] 39)).ownsRow w.heap.size 39 3 (.slice (some ⟨g5, 0, none⟩) (is.length) cap5) (is.length) (flatI is vs)) := row_below hb HER.out
          replace HNW : Hid ((w8.alloc (.cells #[.string ⟨xl.toArray⟩, .string ⟨yl.toArray⟩, .slice ta ns.length tc] 39)).heap[b7]? = some (.cells #[.slice none 0 0, .slice none 0 0] 26 (0, 0))) := below_heap hb (lt_of_heap HNW.out) HNW.out
          clear hb
          have HB1 : Hid ((w8.alloc (.cells #[.string ⟨xl.toArray⟩, .string ⟨yl.toArray⟩, .slice ta ns.length tc] 39)).heap[w8.heap.size]? = some (.cells #[.string ⟨xl.toArray⟩, .string ⟨yl.toArray⟩, .slice ta ns.length tc] 39 (0, 0))) := heap_alloc_new _ _
          generalize (w8.alloc (.cells #[.string ⟨xl.toArray⟩, .string ⟨yl.toArray⟩, .slice ta ns.length tc] 39)) = w9 at *
          obtain ⟨b9, hbb9⟩ : ∃ x, x = w8.heap.size := ⟨_, rfl⟩
          rw [← hbb9] at HB1 ⊢
          have hAn : (w1.heap.size + 1) < b9 ∧ gi < b9 := by omega
          have hCng5 : g5 < b9 := by omega
          clear hq hq_g5
          clear hbb9
          refine hK _ _ (fun _ => HP.out.cells) ?_
          clear hK K
          refine wpAnyT_one 8 rfl (by kernel_rfl) (fun K hK => ?_)
          rw [if_pos (by kernel_rfl)]
          have hq := HP.out.nums
          refine (wp_append_lies w9 (Operand.tmp 31) (Operand.tmp 33) 24 rfl (w.heap.size) 39 ib (.agg #[.string ⟨#[]⟩, .string ⟨#[]⟩, .slice none 0 0]) 3 56 Try.underlying24 HIB.out HZ0.out HZ1.out HZ2.out rfl (by decide) (.slice (some ⟨g5, 0, none⟩) (is.length) cap5) ((is.length)) (flatI is vs) rfl HER.out ⟨b9, 0, none⟩ (1) _ [.string ⟨xl.toArray⟩, .string ⟨yl.toArray⟩, .slice ta ns.length tc] rfl (by simp) (fun j u hj => by rw [IvL.addr_add]; exact PWo.news_three (heap_cell HB1.out 0) (heap_cell HB1.out 1) (heap_cell HB1.out 2) j u hj) (by simp [Value.oneCell']) (by omega) (by unfold maxLen; omega) (by omega) (by omega) w9.heap.size rfl fun g1' cap1 w10 hown hgr hlie hlt9 => hK _ _ (fun _ => ((HP.out.app HER.out hgr (fun g h => by have h8 := IvL.own_ne h; omega))).cells) ?_)
          clear hK K
          have hG8 : (w1.heap.size + 1) < g1' ∧ gi < g1' := by
            rcases IvL.own_lie hlie with h | h <;> omega
          have HQ : Hid (IvL.PK w w10 w1.heap.size gc vc gi uc ta tc cs is vs ns xl yl) := (HP.out.app HER.out hgr (fun g h => by have h8 := IvL.own_ne h; omega))
          replace HNW : Hid (w10.heap[b7]? = some (.cells #[.slice none 0 0, .slice none 0 0] 26 (0, 0))) := PWo.keep_rowG hgr HER.out HNW.out (by decide)
          replace HP := HQ
          clear HQ
          obtain ⟨g8, hg8⟩ : ∃ x, x = g1' := ⟨_, rfl⟩
          obtain ⟨cap8, hcap8⟩ : ∃ x, x = cap1 := ⟨_, rfl⟩
          rw [← hg8, ← hcap8] at hown ⊢
          rw [← hg8] at hG8
          clear hg8 hcap8 hlie hlt9
          replace HER : Hid (w10.ownsRow w.heap.size 39 3 (.slice (some ⟨g8, 0, none⟩) (is.length + 1) cap8) (is.length + 1) (flatI is vs ++ [.string ⟨xl.toArray⟩, .string ⟨yl.toArray⟩, .slice ta ns.length tc])) := by show World.ownsRow _ _ _ _ _ _ _; simpa using hown
          clear hown hgr hq
          clear HB1
          refine wpAnyT_take (i := 9) (v := .agg #[.slice (some ⟨gc, 0, none⟩) cs.length vc, .slice (some ⟨g8, 0, none⟩) (is.length + 1) cap8]) rfl (by kernel_rfl) (by kernel_rfl) (by kernel_rfl) (by kernel_rfl) (fun _ _ _ h => h) (Or.inl ⟨by kernel_rfl, fun X hS => by obtain ⟨e0, e1, e2, e3, e4⟩ := hS; go_simp⟩) HP.out.cells ?_
          try go_simp
          refine wpAnyT_drop _ 11 _ _ _ (by decide) (by kernel_rfl) ?_
          change wpList _ _ _ [_] _ _
          obtain ⟨i0, i1, f0, f1⟩ := PWo.k2 HNW.out
          have hli := lt_of_heap HNW.out
          go_wp2
          go_meet
          case rel =>
            exact ⟨b7, g8, cap8, rfl, heap_set (heap_set HNW.out 0 _) 1 _, Draw.row_boxR HNW.out HER.out (by decide) (Draw.set2_boxR w10 b7 (.slice (some ⟨gc, 0, none⟩) cs.length vc) (.slice (some ⟨g8, 0, none⟩) (is.length + 1) cap8)), HP.out.box HNW.out hN1.1 hN1.2⟩
        · go_simp
          have hq := HP.out.nums
          have hq_b6 := (row_own HER.out b6 rfl).2
          have hb : Below w7.heap.size w7 (w7.alloc (.cells #[.string ⟨xl.toArray⟩, .string ⟨yl.toArray⟩, .slice ta ns.length tc] 39)) := (Below.refl _ _).alloc (Nat.le_refl _) _
          replace HP : Hid (IvL.PK w (w7.alloc (.cells #[.string ⟨xl.toArray⟩, .string ⟨yl.toArray⟩, .slice ta ns.length tc] 39)) w1.heap.size gc vc gi uc ta tc cs is vs ns xl yl) := HP.out.below hb
          replace HER : Hid ((w7.alloc (.cells #[.string ⟨xl.toArray⟩, .string ⟨yl.toArray⟩, .slice ta ns.length tc] 39)).ownsRow w.heap.size 39 3 (.slice (some ⟨b6, 0, none⟩) 0 0) 0 []) := row_below hb HER.out
          replace HNW : Hid ((w7.alloc (.cells #[.string ⟨xl.toArray⟩, .string ⟨yl.toArray⟩, .slice ta ns.length tc] 39)).heap[b7]? = some (.cells #[.slice none 0 0, .slice none 0 0] 26 (0, 0))) := below_heap hb (lt_of_heap HNW.out) HNW.out
          clear hb
          have HB1 : Hid ((w7.alloc (.cells #[.string ⟨xl.toArray⟩, .string ⟨yl.toArray⟩, .slice ta ns.length tc] 39)).heap[w7.heap.size]? = some (.cells #[.string ⟨xl.toArray⟩, .string ⟨yl.toArray⟩, .slice ta ns.length tc] 39 (0, 0))) := heap_alloc_new _ _
          generalize (w7.alloc (.cells #[.string ⟨xl.toArray⟩, .string ⟨yl.toArray⟩, .slice ta ns.length tc] 39)) = w8 at *
          obtain ⟨b8, hbb8⟩ : ∃ x, x = w7.heap.size := ⟨_, rfl⟩
          rw [← hbb8] at HB1 ⊢
          have hAn : (w1.heap.size + 1) < b8 ∧ gi < b8 := by omega
          have hCnb6 : b6 < b8 := by omega
          clear hq hq_b6
          clear hbb8
          refine hK _ _ (fun _ => HP.out.cells) ?_
          clear hK K
          refine wpAnyT_one 5 rfl (by kernel_rfl) (fun K hK => ?_)
          rw [if_pos (by kernel_rfl)]
          have hq := HP.out.nums
          refine (wp_append_lies w8 (Operand.tmp 28) (Operand.tmp 30) 24 rfl (w.heap.size) 39 ib (.agg #[.string ⟨#[]⟩, .string ⟨#[]⟩, .slice none 0 0]) 3 56 Try.underlying24 HIB.out HZ0.out HZ1.out HZ2.out rfl (by decide) (.slice (some ⟨b6, 0, none⟩) 0 0) (0) [] rfl HER.out ⟨gi, 0, none⟩ (is.length) _ (flatI is vs) rfl HP.out.wR.1 (fun j u hj => by rw [IvL.addr_add]; exact row_cell HP.out.wR j hj) HO1.out (by omega) (by unfold maxLen; omega) (by omega) (by omega) w8.heap.size rfl fun g1' cap1 w9 hown hgr hlie hlt9 => hK _ _ (fun _ => ((HP.out.app HER.out hgr (fun g h => by have h8 := IvL.own_ne h; omega))).cells) ?_)
          clear hK K
          have hG5 : (w1.heap.size + 1) < g1' ∧ gi < g1' := by
            rcases IvL.own_lie hlie with h | h <;> omega
          have HQ : Hid (IvL.PK w w9 w1.heap.size gc vc gi uc ta tc cs is vs ns xl yl) := (HP.out.app HER.out hgr (fun g h => by have h8 := IvL.own_ne h; omega))
          replace HNW : Hid (w9.heap[b7]? = some (.cells #[.slice none 0 0, .slice none 0 0] 26 (0, 0))) := PWo.keep_rowG hgr HER.out HNW.out (by decide)
          replace HB1 : Hid (w9.heap[b8]? = some (.cells #[.string ⟨xl.toArray⟩, .string ⟨yl.toArray⟩, .slice ta ns.length tc] 39 (0, 0))) := IvL.heap_own HB1.out hgr (by omega)
          replace HP := HQ
          clear HQ
          obtain ⟨g5, hg5⟩ : ∃ x, x = g1' := ⟨_, rfl⟩
          obtain ⟨cap5, hcap5⟩ : ∃ x, x = cap1 := ⟨_, rfl⟩
          rw [← hg5, ← hcap5] at hown ⊢
          rw [← hg5] at hG5
          clear hg5 hcap5 hlie hlt9
          replace HER : Hid (w9.ownsRow w.heap.size 39 3 (.slice (some ⟨g5, 0, none⟩) (is.length) cap5) (is.length) (flatI is vs)) := by show World.ownsRow _ _ _ _ _ _ _; simpa using hown
          clear hown hgr hq
          try rw [Nat.zero_add]
          refine wpAnyT_one 8 rfl (by kernel_rfl) (fun K hK => ?_)
          rw [if_pos (by kernel_rfl)]
          have hq := HP.out.nums
          refine (wp_append_lies w9 (Operand.tmp 31) (Operand.tmp 33) 24 rfl (w.heap.size) 39 ib (.agg #[.string ⟨#[]⟩, .string ⟨#[]⟩, .slice none 0 0]) 3 56 Try.underlying24 HIB.out HZ0.out HZ1.out HZ2.out rfl (by decide) (.slice (some ⟨g5, 0, none⟩) (is.length) cap5) ((is.length)) (flatI is vs) rfl HER.out ⟨b8, 0, none⟩ (1) _ [.string ⟨xl.toArray⟩, .string ⟨yl.toArray⟩, .slice ta ns.length tc] rfl (by simp) (fun j u hj => by rw [IvL.addr_add]; exact PWo.news_three (heap_cell HB1.out 0) (heap_cell HB1.out 1) (heap_cell HB1.out 2) j u hj) (by simp [Value.oneCell']) (by omega) (by unfold maxLen; omega) (by omega) (by omega) w9.heap.size rfl fun g1' cap1 w10 hown hgr hlie hlt9 => hK _ _ (fun _ => ((HP.out.app HER.out hgr (fun g h => by have h8 := IvL.own_ne h; omega))).cells) ?_)
          clear hK K
          have hG8 : (w1.heap.size + 1) < g1' ∧ gi < g1' := by
            rcases IvL.own_lie hlie with h | h <;> omega
          have HQ : Hid (IvL.PK w w10 w1.heap.size gc vc gi uc ta tc cs is vs ns xl yl) := (HP.out.app HER.out hgr (fun g h => by have h8 := IvL.own_ne h; omega))
          replace HNW : Hid (w10.heap[b7]? = some (.cells #[.slice none 0 0, .slice none 0 0] 26 (0, 0))) := PWo.keep_rowG hgr HER.out HNW.out (by decide)
          replace HP := HQ
          clear HQ
          obtain ⟨g8, hg8⟩ : ∃ x, x = g1' := ⟨_, rfl⟩
          obtain ⟨cap8, hcap8⟩ : ∃ x, x = cap1 := ⟨_, rfl⟩
          rw [← hg8, ← hcap8] at hown ⊢
          rw [← hg8] at hG8
          clear hg8 hcap8 hlie hlt9
          replace HER : Hid (w10.ownsRow w.heap.size 39 3 (.slice (some ⟨g8, 0, none⟩) (is.length + 1) cap8) (is.length + 1) (flatI is vs ++ [.string ⟨xl.toArray⟩, .string ⟨yl.toArray⟩, .slice ta ns.length tc])) := by show World.ownsRow _ _ _ _ _ _ _; simpa using hown
          clear hown hgr hq
          clear HB1
          refine wpAnyT_take (i := 9) (v := .agg #[.slice (some ⟨gc, 0, none⟩) cs.length vc, .slice (some ⟨g8, 0, none⟩) (is.length + 1) cap8]) rfl (by kernel_rfl) (by kernel_rfl) (by kernel_rfl) (by kernel_rfl) (fun _ _ _ h => h) (Or.inl ⟨by kernel_rfl, fun X hS => by obtain ⟨e0, e1, e2, e3, e4⟩ := hS; go_simp⟩) HP.out.cells ?_
          try go_simp
          refine wpAnyT_drop _ 11 _ _ _ (by decide) (by kernel_rfl) ?_
          change wpList _ _ _ [_] _ _
          obtain ⟨i0, i1, f0, f1⟩ := PWo.k2 HNW.out
          have hli := lt_of_heap HNW.out
          go_wp2
          go_meet
          case rel =>
            exact ⟨b7, g8, cap8, rfl, heap_set (heap_set HNW.out 0 _) 1 _, Draw.row_boxR HNW.out HER.out (by decide) (Draw.set2_boxR w10 b7 (.slice (some ⟨gc, 0, none⟩) cs.length vc) (.slice (some ⟨g8, 0, none⟩) (is.length + 1) cap8)), HP.out.box HNW.out hN1.1 hN1.2⟩
    · go_simp
      have hq := HP.out.nums
      have hb : Below w5.heap.size w5 (w5.alloc (.cells #[.string ⟨xl.toArray⟩, .string ⟨yl.toArray⟩, .slice ta ns.length tc] 39)) := (Below.refl _ _).alloc (Nat.le_refl _) _
      replace HP : Hid (IvL.PK w (w5.alloc (.cells #[.string ⟨xl.toArray⟩, .string ⟨yl.toArray⟩, .slice ta ns.length tc] 39)) w1.heap.size gc vc gi uc ta tc cs is vs ns xl yl) := HP.out.below hb
      clear hb
      have HB1 : Hid ((w5.alloc (.cells #[.string ⟨xl.toArray⟩, .string ⟨yl.toArray⟩, .slice ta ns.length tc] 39)).heap[w5.heap.size]? = some (.cells #[.string ⟨xl.toArray⟩, .string ⟨yl.toArray⟩, .slice ta ns.length tc] 39 (0, 0))) := heap_alloc_new _ _
      generalize (w5.alloc (.cells #[.string ⟨xl.toArray⟩, .string ⟨yl.toArray⟩, .slice ta ns.length tc] 39)) = w6 at *
      obtain ⟨b6, hbb6⟩ : ∃ x, x = w5.heap.size := ⟨_, rfl⟩
      rw [← hbb6] at HB1 ⊢
      have hAn : (w1.heap.size + 1) < b6 ∧ gi < b6 := by omega
      clear hq
      clear hbb6
      refine hK _ _ (fun _ => HP.out.cells) ?_
      clear hK K
      refine wpAnyT_two 2 10 rfl rfl (by kernel_rfl) (fun K hK => ?_) (fun K hK => ?_)
      · go_simp
        have hq := HP.out.nums
        have hq_b6 := lt_of_heap HB1.out
        have hbz := HP.out.wB.size
        have hb : Below w6.heap.size w6 (w6.alloc (.cells #[] 39)) := (Below.refl _ _).alloc (Nat.le_refl _) _
        have HER : Hid ((w6.alloc (.cells #[] 39)).ownsRow w.heap.size 39 3 (.slice (some ⟨w6.heap.size, 0, none⟩) 0 0) 0 []) := by
          have h := World.ownsRow_made (base := w.heap.size) (e := 39) (size := 3) w6 #[] 0 (by omega) (by simp [maxLen]) rfl
          show World.ownsRow _ _ _ _ _ _ _
          simpa using h
        replace HP : Hid (IvL.PK w (w6.alloc (.cells #[] 39)) w1.heap.size gc vc gi uc ta tc cs is vs ns xl yl) := HP.out.below hb
        replace HB1 : Hid ((w6.alloc (.cells #[] 39)).heap[b6]? = some (.cells #[.string ⟨xl.toArray⟩, .string ⟨yl.toArray⟩, .slice ta ns.length tc] 39 (0, 0))) := below_heap hb (lt_of_heap HB1.out) HB1.out
        clear hb
        have HEH : Hid ((w6.alloc (.cells #[] 39)).heap[w6.heap.size]? = some (.cells #[] 39 (0, 0))) := heap_alloc_new _ _
        generalize (w6.alloc (.cells #[] 39)) = w7 at *
        obtain ⟨b7, hbb7⟩ : ∃ x, x = w6.heap.size := ⟨_, rfl⟩
        rw [← hbb7] at HEH HER ⊢
        have hAe : (w1.heap.size + 1) < b7 ∧ gi < b7 := by omega
        have hCeb6 : b6 < b7 := by omega
        clear hq hq_b6
        clear hbz
        clear hbb7
        clear HEH
        refine hK _ _ (fun _ => HP.out.cells) ?_
        clear hK K
        refine wpAnyT_two 5 10 rfl rfl (by kernel_rfl) (fun K hK => ?_) (fun K hK => ?_)
        · rw [if_pos (by kernel_rfl)]
          have hq := HP.out.nums
          refine (wp_append_lies w7 (Operand.tmp 28) (Operand.tmp 30) 24 rfl (w.heap.size) 39 ib (.agg #[.string ⟨#[]⟩, .string ⟨#[]⟩, .slice none 0 0]) 3 56 Try.underlying24 HIB.out HZ0.out HZ1.out HZ2.out rfl (by decide) (.slice (some ⟨b7, 0, none⟩) 0 0) (0) [] rfl HER.out ⟨gi, 0, none⟩ (is.length) _ (flatI is vs) rfl HP.out.wR.1 (fun j u hj => by rw [IvL.addr_add]; exact row_cell HP.out.wR j hj) HO1.out (by omega) (by unfold maxLen; omega) (by omega) (by omega) w7.heap.size rfl fun g1' cap1 w8 hown hgr hlie hlt9 => hK _ _ (fun _ => ((HP.out.app HER.out hgr (fun g h => by have h8 := IvL.own_ne h; omega))).cells) ?_)
          clear hK K
          have hG5 : (w1.heap.size + 1) < g1' ∧ gi < g1' := by
            rcases IvL.own_lie hlie with h | h <;> omega
          have HQ : Hid (IvL.PK w w8 w1.heap.size gc vc gi uc ta tc cs is vs ns xl yl) := (HP.out.app HER.out hgr (fun g h => by have h8 := IvL.own_ne h; omega))
          replace HB1 : Hid (w8.heap[b6]? = some (.cells #[.string ⟨xl.toArray⟩, .string ⟨yl.toArray⟩, .slice ta ns.length tc] 39 (0, 0))) := IvL.heap_own HB1.out hgr (by omega)
          replace HP := HQ
          clear HQ
          obtain ⟨g5, hg5⟩ : ∃ x, x = g1' := ⟨_, rfl⟩
          obtain ⟨cap5, hcap5⟩ : ∃ x, x = cap1 := ⟨_, rfl⟩
          rw [← hg5, ← hcap5] at hown ⊢
          rw [← hg5] at hG5
          clear hg5 hcap5 hlie hlt9
          replace HER : Hid (w8.ownsRow w.heap.size 39 3 (.slice (some ⟨g5, 0, none⟩) (is.length) cap5) (is.length) (flatI is vs)) := by show World.ownsRow _ _ _ _ _ _ _; simpa using hown
          clear hown hgr hq
          try rw [Nat.zero_add]
          refine wpAnyT_two 8 10 rfl rfl (by kernel_rfl) (fun K hK => ?_) (fun K hK => ?_)
          · rw [if_pos (by kernel_rfl)]
            have hq := HP.out.nums
            refine (wp_append_lies w8 (Operand.tmp 31) (Operand.tmp 33) 24 rfl (w.heap.size) 39 ib (.agg #[.string ⟨#[]⟩, .string ⟨#[]⟩, .slice none 0 0]) 3 56 Try.underlying24 HIB.out HZ0.out HZ1.out HZ2.out rfl (by decide) (.slice (some ⟨g5, 0, none⟩) (is.length) cap5) ((is.length)) (flatI is vs) rfl HER.out ⟨b6, 0, none⟩ (1) _ [.string ⟨xl.toArray⟩, .string ⟨yl.toArray⟩, .slice ta ns.length tc] rfl (by simp) (fun j u hj => by rw [IvL.addr_add]; exact PWo.news_three (heap_cell HB1.out 0) (heap_cell HB1.out 1) (heap_cell HB1.out 2) j u hj) (by simp [Value.oneCell']) (by omega) (by unfold maxLen; omega) (by omega) (by omega) w8.heap.size rfl fun g1' cap1 w9 hown hgr hlie hlt9 => hK _ _ (fun _ => ((HP.out.app HER.out hgr (fun g h => by have h8 := IvL.own_ne h; omega))).cells) ?_)
            clear hK K
            have hG8 : (w1.heap.size + 1) < g1' ∧ gi < g1' := by
              rcases IvL.own_lie hlie with h | h <;> omega
            have HQ : Hid (IvL.PK w w9 w1.heap.size gc vc gi uc ta tc cs is vs ns xl yl) := (HP.out.app HER.out hgr (fun g h => by have h8 := IvL.own_ne h; omega))
            replace HP := HQ
            clear HQ
            obtain ⟨g8, hg8⟩ : ∃ x, x = g1' := ⟨_, rfl⟩
            obtain ⟨cap8, hcap8⟩ : ∃ x, x = cap1 := ⟨_, rfl⟩
            rw [← hg8, ← hcap8] at hown ⊢
            rw [← hg8] at hG8
            clear hg8 hcap8 hlie hlt9
            replace HER : Hid (w9.ownsRow w.heap.size 39 3 (.slice (some ⟨g8, 0, none⟩) (is.length + 1) cap8) (is.length + 1) (flatI is vs ++ [.string ⟨xl.toArray⟩, .string ⟨yl.toArray⟩, .slice ta ns.length tc])) := by show World.ownsRow _ _ _ _ _ _ _; simpa using hown
            clear hown hgr hq
            clear HB1
            refine wpAnyT_take (i := 9) (v := .agg #[.slice (some ⟨gc, 0, none⟩) cs.length vc, .slice (some ⟨g8, 0, none⟩) (is.length + 1) cap8]) rfl (by kernel_rfl) (by kernel_rfl) (by kernel_rfl) (by kernel_rfl) (fun _ _ _ h => h) (Or.inl ⟨by kernel_rfl, fun X hS => by obtain ⟨e0, e1, e2, e3, e4⟩ := hS; go_simp⟩) HP.out.cells ?_
            try go_simp
            refine wpAnyT_one 10 rfl (by kernel_rfl) (fun K hK => ?_)
            go_simp
            have hq := HP.out.nums
            have hb : Below w9.heap.size w9 (w9.alloc (.cells #[.slice none 0 0, .slice none 0 0] 26)) := (Below.refl _ _).alloc (Nat.le_refl _) _
            replace HP : Hid (IvL.PK w (w9.alloc (.cells #[.slice none 0 0, .slice none 0 0] 26)) w1.heap.size gc vc gi uc ta tc cs is vs ns xl yl) := HP.out.below hb
            replace HER : Hid ((w9.alloc (.cells #[.slice none 0 0, .slice none 0 0] 26)).ownsRow w.heap.size 39 3 (.slice (some ⟨g8, 0, none⟩) (is.length + 1) cap8) (is.length + 1) (flatI is vs ++ [.string ⟨xl.toArray⟩, .string ⟨yl.toArray⟩, .slice ta ns.length tc])) := row_below hb HER.out
            clear hb
            have HNW : Hid ((w9.alloc (.cells #[.slice none 0 0, .slice none 0 0] 26)).heap[w9.heap.size]? = some (.cells #[.slice none 0 0, .slice none 0 0] 26 (0, 0))) := heap_alloc_new _ _
            generalize (w9.alloc (.cells #[.slice none 0 0, .slice none 0 0] 26)) = w10 at *
            obtain ⟨b10, hbb10⟩ : ∃ x, x = w9.heap.size := ⟨_, rfl⟩
            rw [← hbb10] at HNW ⊢
            have hN1 : (w1.heap.size + 1) < b10 ∧ w.heap.size ≤ b10 := by omega
            clear hq
            clear hbb10
            refine hK _ _ (fun _ => HP.out.cells) ?_
            clear hK K
            refine wpAnyT_drop _ 11 _ _ _ (by decide) (by kernel_rfl) ?_
            change wpList _ _ _ [_] _ _
            obtain ⟨i0, i1, f0, f1⟩ := PWo.k2 HNW.out
            have hli := lt_of_heap HNW.out
            go_wp2
            go_meet
            case rel =>
              exact ⟨b10, g8, cap8, rfl, heap_set (heap_set HNW.out 0 _) 1 _, Draw.row_boxR HNW.out HER.out (by decide) (Draw.set2_boxR w10 b10 (.slice (some ⟨gc, 0, none⟩) cs.length vc) (.slice (some ⟨g8, 0, none⟩) (is.length + 1) cap8)), HP.out.box HNW.out hN1.1 hN1.2⟩
          · go_simp
            have hq := HP.out.nums
            have hb : Below w8.heap.size w8 (w8.alloc (.cells #[.slice none 0 0, .slice none 0 0] 26)) := (Below.refl _ _).alloc (Nat.le_refl _) _
            replace HP : Hid (IvL.PK w (w8.alloc (.cells #[.slice none 0 0, .slice none 0 0] 26)) w1.heap.size gc vc gi uc ta tc cs is vs ns xl yl) := HP.out.below hb
            replace HB1 : Hid ((w8.alloc (.cells #[.slice none 0 0, .slice none 0 0] 26)).heap[b6]? = some (.cells #[.string ⟨xl.toArray⟩, .string ⟨yl.toArray⟩, .slice ta ns.length tc] 39 (0, 0))) := below_heap hb (lt_of_heap HB1.out) HB1.out
            replace HER : Hid ((w8.alloc (.cells #[.slice none 0 0, .slice none 0 0] 26)).ownsRow w.heap.size 39 3 (.slice (some ⟨g5, 0, none⟩) (is.length) cap5) (is.length) (flatI is vs)) := row_below hb HER.out
            clear hb
            have HNW : Hid ((w8.alloc (.cells #[.slice none 0 0, .slice none 0 0] 26)).heap[w8.heap.size]? = some (.cells #[.slice none 0 0, .slice none 0 0] 26 (0, 0))) := heap_alloc_new _ _
            generalize (w8.alloc (.cells #[.slice none 0 0, .slice none 0 0] 26)) = w9 at *
            obtain ⟨b9, hbb9⟩ : ∃ x, x = w8.heap.size := ⟨_, rfl⟩
            rw [← hbb9] at HNW ⊢
            have hN1 : (w1.heap.size + 1) < b9 ∧ w.heap.size ≤ b9 := by omega
            clear hq
            clear hbb9
            refine hK _ _ (fun _ => HP.out.cells) ?_
            clear hK K
            refine wpAnyT_one 8 rfl (by kernel_rfl) (fun K hK => ?_)
            rw [if_pos (by kernel_rfl)]
            have hq := HP.out.nums
            refine (wp_append_lies w9 (Operand.tmp 31) (Operand.tmp 33) 24 rfl (w.heap.size) 39 ib (.agg #[.string ⟨#[]⟩, .string ⟨#[]⟩, .slice none 0 0]) 3 56 Try.underlying24 HIB.out HZ0.out HZ1.out HZ2.out rfl (by decide) (.slice (some ⟨g5, 0, none⟩) (is.length) cap5) ((is.length)) (flatI is vs) rfl HER.out ⟨b6, 0, none⟩ (1) _ [.string ⟨xl.toArray⟩, .string ⟨yl.toArray⟩, .slice ta ns.length tc] rfl (by simp) (fun j u hj => by rw [IvL.addr_add]; exact PWo.news_three (heap_cell HB1.out 0) (heap_cell HB1.out 1) (heap_cell HB1.out 2) j u hj) (by simp [Value.oneCell']) (by omega) (by unfold maxLen; omega) (by omega) (by omega) w9.heap.size rfl fun g1' cap1 w10 hown hgr hlie hlt9 => hK _ _ (fun _ => ((HP.out.app HER.out hgr (fun g h => by have h8 := IvL.own_ne h; omega))).cells) ?_)
            clear hK K
            have hG8 : (w1.heap.size + 1) < g1' ∧ gi < g1' := by
              rcases IvL.own_lie hlie with h | h <;> omega
            have HQ : Hid (IvL.PK w w10 w1.heap.size gc vc gi uc ta tc cs is vs ns xl yl) := (HP.out.app HER.out hgr (fun g h => by have h8 := IvL.own_ne h; omega))
            replace HNW : Hid (w10.heap[b9]? = some (.cells #[.slice none 0 0, .slice none 0 0] 26 (0, 0))) := PWo.keep_rowG hgr HER.out HNW.out (by decide)
            replace HP := HQ
            clear HQ
            obtain ⟨g8, hg8⟩ : ∃ x, x = g1' := ⟨_, rfl⟩
            obtain ⟨cap8, hcap8⟩ : ∃ x, x = cap1 := ⟨_, rfl⟩
            rw [← hg8, ← hcap8] at hown ⊢
            rw [← hg8] at hG8
            clear hg8 hcap8 hlie hlt9
            replace HER : Hid (w10.ownsRow w.heap.size 39 3 (.slice (some ⟨g8, 0, none⟩) (is.length + 1) cap8) (is.length + 1) (flatI is vs ++ [.string ⟨xl.toArray⟩, .string ⟨yl.toArray⟩, .slice ta ns.length tc])) := by show World.ownsRow _ _ _ _ _ _ _; simpa using hown
            clear hown hgr hq
            clear HB1
            refine wpAnyT_take (i := 9) (v := .agg #[.slice (some ⟨gc, 0, none⟩) cs.length vc, .slice (some ⟨g8, 0, none⟩) (is.length + 1) cap8]) rfl (by kernel_rfl) (by kernel_rfl) (by kernel_rfl) (by kernel_rfl) (fun _ _ _ h => h) (Or.inl ⟨by kernel_rfl, fun X hS => by obtain ⟨e0, e1, e2, e3, e4⟩ := hS; go_simp⟩) HP.out.cells ?_
            try go_simp
            refine wpAnyT_drop _ 11 _ _ _ (by decide) (by kernel_rfl) ?_
            change wpList _ _ _ [_] _ _
            obtain ⟨i0, i1, f0, f1⟩ := PWo.k2 HNW.out
            have hli := lt_of_heap HNW.out
            go_wp2
            go_meet
            case rel =>
              exact ⟨b9, g8, cap8, rfl, heap_set (heap_set HNW.out 0 _) 1 _, Draw.row_boxR HNW.out HER.out (by decide) (Draw.set2_boxR w10 b9 (.slice (some ⟨gc, 0, none⟩) cs.length vc) (.slice (some ⟨g8, 0, none⟩) (is.length + 1) cap8)), HP.out.box HNW.out hN1.1 hN1.2⟩
        · go_simp
          have hq := HP.out.nums
          have hb : Below w7.heap.size w7 (w7.alloc (.cells #[.slice none 0 0, .slice none 0 0] 26)) := (Below.refl _ _).alloc (Nat.le_refl _) _
          replace HP : Hid (IvL.PK w (w7.alloc (.cells #[.slice none 0 0, .slice none 0 0] 26)) w1.heap.size gc vc gi uc ta tc cs is vs ns xl yl) := HP.out.below hb
          replace HB1 : Hid ((w7.alloc (.cells #[.slice none 0 0, .slice none 0 0] 26)).heap[b6]? = some (.cells #[.string ⟨xl.toArray⟩, .string ⟨yl.toArray⟩, .slice ta ns.length tc] 39 (0, 0))) := below_heap hb (lt_of_heap HB1.out) HB1.out
          replace HER : Hid ((w7.alloc (.cells #[.slice none 0 0, .slice none 0 0] 26)).ownsRow w.heap.size 39 3 (.slice (some ⟨b7, 0, none⟩) 0 0) 0 []) := row_below hb HER.out
          clear hb
          have HNW : Hid ((w7.alloc (.cells #[.slice none 0 0, .slice none 0 0] 26)).heap[w7.heap.size]? = some (.cells #[.slice none 0 0, .slice none 0 0] 26 (0, 0))) := heap_alloc_new _ _
          generalize (w7.alloc (.cells #[.slice none 0 0, .slice none 0 0] 26)) = w8 at *
          obtain ⟨b8, hbb8⟩ : ∃ x, x = w7.heap.size := ⟨_, rfl⟩
          rw [← hbb8] at HNW ⊢
          have hN1 : (w1.heap.size + 1) < b8 ∧ w.heap.size ≤ b8 := by omega
          clear hq
          clear hbb8
          refine hK _ _ (fun _ => HP.out.cells) ?_
          clear hK K
          refine wpAnyT_one 5 rfl (by kernel_rfl) (fun K hK => ?_)
          rw [if_pos (by kernel_rfl)]
          have hq := HP.out.nums
          refine (wp_append_lies w8 (Operand.tmp 28) (Operand.tmp 30) 24 rfl (w.heap.size) 39 ib (.agg #[.string ⟨#[]⟩, .string ⟨#[]⟩, .slice none 0 0]) 3 56 Try.underlying24 HIB.out HZ0.out HZ1.out HZ2.out rfl (by decide) (.slice (some ⟨b7, 0, none⟩) 0 0) (0) [] rfl HER.out ⟨gi, 0, none⟩ (is.length) _ (flatI is vs) rfl HP.out.wR.1 (fun j u hj => by rw [IvL.addr_add]; exact row_cell HP.out.wR j hj) HO1.out (by omega) (by unfold maxLen; omega) (by omega) (by omega) w8.heap.size rfl fun g1' cap1 w9 hown hgr hlie hlt9 => hK _ _ (fun _ => ((HP.out.app HER.out hgr (fun g h => by have h8 := IvL.own_ne h; omega))).cells) ?_)
          clear hK K
          have hG5 : (w1.heap.size + 1) < g1' ∧ gi < g1' := by
            rcases IvL.own_lie hlie with h | h <;> omega
          have HQ : Hid (IvL.PK w w9 w1.heap.size gc vc gi uc ta tc cs is vs ns xl yl) := (HP.out.app HER.out hgr (fun g h => by have h8 := IvL.own_ne h; omega))
          replace HB1 : Hid (w9.heap[b6]? = some (.cells #[.string ⟨xl.toArray⟩, .string ⟨yl.toArray⟩, .slice ta ns.length tc] 39 (0, 0))) := IvL.heap_own HB1.out hgr (by omega)
          replace HNW : Hid (w9.heap[b8]? = some (.cells #[.slice none 0 0, .slice none 0 0] 26 (0, 0))) := PWo.keep_rowG hgr HER.out HNW.out (by decide)
          replace HP := HQ
          clear HQ
          obtain ⟨g5, hg5⟩ : ∃ x, x = g1' := ⟨_, rfl⟩
          obtain ⟨cap5, hcap5⟩ : ∃ x, x = cap1 := ⟨_, rfl⟩
          rw [← hg5, ← hcap5] at hown ⊢
          rw [← hg5] at hG5
          clear hg5 hcap5 hlie hlt9
          replace HER : Hid (w9.ownsRow w.heap.size 39 3 (.slice (some ⟨g5, 0, none⟩) (is.length) cap5) (is.length) (flatI is vs)) := by show World.ownsRow _ _ _ _ _ _ _; simpa using hown
          clear hown hgr hq
          try rw [Nat.zero_add]
          refine wpAnyT_one 8 rfl (by kernel_rfl) (fun K hK => ?_)
          rw [if_pos (by kernel_rfl)]
          have hq := HP.out.nums
          refine (wp_append_lies w9 (Operand.tmp 31) (Operand.tmp 33) 24 rfl (w.heap.size) 39 ib (.agg #[.string ⟨#[]⟩, .string ⟨#[]⟩, .slice none 0 0]) 3 56 Try.underlying24 HIB.out HZ0.out HZ1.out HZ2.out rfl (by decide) (.slice (some ⟨g5, 0, none⟩) (is.length) cap5) ((is.length)) (flatI is vs) rfl HER.out ⟨b6, 0, none⟩ (1) _ [.string ⟨xl.toArray⟩, .string ⟨yl.toArray⟩, .slice ta ns.length tc] rfl (by simp) (fun j u hj => by rw [IvL.addr_add]; exact PWo.news_three (heap_cell HB1.out 0) (heap_cell HB1.out 1) (heap_cell HB1.out 2) j u hj) (by simp [Value.oneCell']) (by omega) (by unfold maxLen; omega) (by omega) (by omega) w9.heap.size rfl fun g1' cap1 w10 hown hgr hlie hlt9 => hK _ _ (fun _ => ((HP.out.app HER.out hgr (fun g h => by have h8 := IvL.own_ne h; omega))).cells) ?_)
          clear hK K
          have hG8 : (w1.heap.size + 1) < g1' ∧ gi < g1' := by
            rcases IvL.own_lie hlie with h | h <;> omega
          have HQ : Hid (IvL.PK w w10 w1.heap.size gc vc gi uc ta tc cs is vs ns xl yl) := (HP.out.app HER.out hgr (fun g h => by have h8 := IvL.own_ne h; omega))
          replace HNW : Hid (w10.heap[b8]? = some (.cells #[.slice none 0 0, .slice none 0 0] 26 (0, 0))) := PWo.keep_rowG hgr HER.out HNW.out (by decide)
          replace HP := HQ
          clear HQ
          obtain ⟨g8, hg8⟩ : ∃ x, x = g1' := ⟨_, rfl⟩
          obtain ⟨cap8, hcap8⟩ : ∃ x, x = cap1 := ⟨_, rfl⟩
          rw [← hg8, ← hcap8] at hown ⊢
          rw [← hg8] at hG8
          clear hg8 hcap8 hlie hlt9
          replace HER : Hid (w10.ownsRow w.heap.size 39 3 (.slice (some ⟨g8, 0, none⟩) (is.length + 1) cap8) (is.length + 1) (flatI is vs ++ [.string ⟨xl.toArray⟩, .string ⟨yl.toArray⟩, .slice ta ns.length tc])) := by show World.ownsRow _ _ _ _ _ _ _; simpa using hown
          clear hown hgr hq
          clear HB1
          refine wpAnyT_take (i := 9) (v := .agg #[.slice (some ⟨gc, 0, none⟩) cs.length vc, .slice (some ⟨g8, 0, none⟩) (is.length + 1) cap8]) rfl (by kernel_rfl) (by kernel_rfl) (by kernel_rfl) (by kernel_rfl) (fun _ _ _ h => h) (Or.inl ⟨by kernel_rfl, fun X hS => by obtain ⟨e0, e1, e2, e3, e4⟩ := hS; go_simp⟩) HP.out.cells ?_
          try go_simp
          refine wpAnyT_drop _ 11 _ _ _ (by decide) (by kernel_rfl) ?_
          change wpList _ _ _ [_] _ _
          obtain ⟨i0, i1, f0, f1⟩ := PWo.k2 HNW.out
          have hli := lt_of_heap HNW.out
          go_wp2
          go_meet
          case rel =>
            exact ⟨b8, g8, cap8, rfl, heap_set (heap_set HNW.out 0 _) 1 _, Draw.row_boxR HNW.out HER.out (by decide) (Draw.set2_boxR w10 b8 (.slice (some ⟨gc, 0, none⟩) cs.length vc) (.slice (some ⟨g8, 0, none⟩) (is.length + 1) cap8)), HP.out.box HNW.out hN1.1 hN1.2⟩
      · go_simp
        have hq := HP.out.nums
        have hb : Below w6.heap.size w6 (w6.alloc (.cells #[.slice none 0 0, .slice none 0 0] 26)) := (Below.refl _ _).alloc (Nat.le_refl _) _
        replace HP : Hid (IvL.PK w (w6.alloc (.cells #[.slice none 0 0, .slice none 0 0] 26)) w1.heap.size gc vc gi uc ta tc cs is vs ns xl yl) := HP.out.below hb
        replace HB1 : Hid ((w6.alloc (.cells #[.slice none 0 0, .slice none 0 0] 26)).heap[b6]? = some (.cells #[.string ⟨xl.toArray⟩, .string ⟨yl.toArray⟩, .slice ta ns.length tc] 39 (0, 0))) := below_heap hb (lt_of_heap HB1.out) HB1.out
        clear hb
        have HNW : Hid ((w6.alloc (.cells #[.slice none 0 0, .slice none 0 0] 26)).heap[w6.heap.size]? = some (.cells #[.slice none 0 0, .slice none 0 0] 26 (0, 0))) := heap_alloc_new _ _
        generalize (w6.alloc (.cells #[.slice none 0 0, .slice none 0 0] 26)) = w7 at *
        obtain ⟨b7, hbb7⟩ : ∃ x, x = w6.heap.size := ⟨_, rfl⟩
        rw [← hbb7] at HNW ⊢
        have hN1 : (w1.heap.size + 1) < b7 ∧ w.heap.size ≤ b7 := by omega
        clear hq
        clear hbb7
        refine hK _ _ (fun _ => HP.out.cells) ?_
        clear hK K
        refine wpAnyT_one 2 rfl (by kernel_rfl) (fun K hK => ?_)
        go_simp
        have hq := HP.out.nums
        have hq_b6 := lt_of_heap HB1.out
        have hbz := HP.out.wB.size
        have hb : Below w7.heap.size w7 (w7.alloc (.cells #[] 39)) := (Below.refl _ _).alloc (Nat.le_refl _) _
        have HER : Hid ((w7.alloc (.cells #[] 39)).ownsRow w.heap.size 39 3 (.slice (some ⟨w7.heap.size, 0, none⟩) 0 0) 0 []) := by
          have h := World.ownsRow_made (base := w.heap.size) (e := 39) (size := 3) w7 #[] 0 (by omega) (by simp [maxLen]) rfl
          show World.ownsRow _ _ _ _ _ _ _
          simpa using h
        replace HP : Hid (IvL.PK w (w7.alloc (.cells #[] 39)) w1.heap.size gc vc gi uc ta tc cs is vs ns xl yl) := HP.out.below hb
        replace HB1 : Hid ((w7.alloc (.cells #[] 39)).heap[b6]? = some (.cells #[.string ⟨xl.toArray⟩, .string ⟨yl.toArray⟩, .slice ta ns.length tc] 39 (0, 0))) := below_heap hb (lt_of_heap HB1.out) HB1.out
        replace HNW : Hid ((w7.alloc (.cells #[] 39)).heap[b7]? = some (.cells #[.slice none 0 0, .slice none 0 0] 26 (0, 0))) := below_heap hb (lt_of_heap HNW.out) HNW.out
        clear hb
        have HEH : Hid ((w7.alloc (.cells #[] 39)).heap[w7.heap.size]? = some (.cells #[] 39 (0, 0))) := heap_alloc_new _ _
        generalize (w7.alloc (.cells #[] 39)) = w8 at *
        obtain ⟨b8, hbb8⟩ : ∃ x, x = w7.heap.size := ⟨_, rfl⟩
        rw [← hbb8] at HEH HER ⊢
        have hAe : (w1.heap.size + 1) < b8 ∧ gi < b8 := by omega
        have hCeb6 : b6 < b8 := by omega
        clear hq hq_b6
        clear hbz
        clear hbb8
        clear HEH
        refine hK _ _ (fun _ => HP.out.cells) ?_
        clear hK K
        refine wpAnyT_one 5 rfl (by kernel_rfl) (fun K hK => ?_)
        rw [if_pos (by kernel_rfl)]
        have hq := HP.out.nums
        refine (wp_append_lies w8 (Operand.tmp 28) (Operand.tmp 30) 24 rfl (w.heap.size) 39 ib (.agg #[.string ⟨#[]⟩, .string ⟨#[]⟩, .slice none 0 0]) 3 56 Try.underlying24 HIB.out HZ0.out HZ1.out HZ2.out rfl (by decide) (.slice (some ⟨b8, 0, none⟩) 0 0) (0) [] rfl HER.out ⟨gi, 0, none⟩ (is.length) _ (flatI is vs) rfl HP.out.wR.1 (fun j u hj => by rw [IvL.addr_add]; exact row_cell HP.out.wR j hj) HO1.out (by omega) (by unfold maxLen; omega) (by omega) (by omega) w8.heap.size rfl fun g1' cap1 w9 hown hgr hlie hlt9 => hK _ _ (fun _ => ((HP.out.app HER.out hgr (fun g h => by have h8 := IvL.own_ne h; omega))).cells) ?_)
        clear hK K
        have hG5 : (w1.heap.size + 1) < g1' ∧ gi < g1' := by
          rcases IvL.own_lie hlie with h | h <;> omega
        have HQ : Hid (IvL.PK w w9 w1.heap.size gc vc gi uc ta tc cs is vs ns xl yl) := (HP.out.app HER.out hgr (fun g h => by have h8 := IvL.own_ne h; omega))
        replace HB1 : Hid (w9.heap[b6]? = some (.cells #[.string ⟨xl.toArray⟩, .string ⟨yl.toArray⟩, .slice ta ns.length tc] 39 (0, 0))) := IvL.heap_own HB1.out hgr (by omega)
        replace HNW : Hid (w9.heap[b7]? = some (.cells #[.slice none 0 0, .slice none 0 0] 26 (0, 0))) := PWo.keep_rowG hgr HER.out HNW.out (by decide)
        replace HP := HQ
        clear HQ
        obtain ⟨g5, hg5⟩ : ∃ x, x = g1' := ⟨_, rfl⟩
        obtain ⟨cap5, hcap5⟩ : ∃ x, x = cap1 := ⟨_, rfl⟩
        rw [← hg5, ← hcap5] at hown ⊢
        rw [← hg5] at hG5
        clear hg5 hcap5 hlie hlt9
        replace HER : Hid (w9.ownsRow w.heap.size 39 3 (.slice (some ⟨g5, 0, none⟩) (is.length) cap5) (is.length) (flatI is vs)) := by show World.ownsRow _ _ _ _ _ _ _; simpa using hown
        clear hown hgr hq
        try rw [Nat.zero_add]
        refine wpAnyT_one 8 rfl (by kernel_rfl) (fun K hK => ?_)
        rw [if_pos (by kernel_rfl)]
        have hq := HP.out.nums
        refine (wp_append_lies w9 (Operand.tmp 31) (Operand.tmp 33) 24 rfl (w.heap.size) 39 ib (.agg #[.string ⟨#[]⟩, .string ⟨#[]⟩, .slice none 0 0]) 3 56 Try.underlying24 HIB.out HZ0.out HZ1.out HZ2.out rfl (by decide) (.slice (some ⟨g5, 0, none⟩) (is.length) cap5) ((is.length)) (flatI is vs) rfl HER.out ⟨b6, 0, none⟩ (1) _ [.string ⟨xl.toArray⟩, .string ⟨yl.toArray⟩, .slice ta ns.length tc] rfl (by simp) (fun j u hj => by rw [IvL.addr_add]; exact PWo.news_three (heap_cell HB1.out 0) (heap_cell HB1.out 1) (heap_cell HB1.out 2) j u hj) (by simp [Value.oneCell']) (by omega) (by unfold maxLen; omega) (by omega) (by omega) w9.heap.size rfl fun g1' cap1 w10 hown hgr hlie hlt9 => hK _ _ (fun _ => ((HP.out.app HER.out hgr (fun g h => by have h8 := IvL.own_ne h; omega))).cells) ?_)
        clear hK K
        have hG8 : (w1.heap.size + 1) < g1' ∧ gi < g1' := by
          rcases IvL.own_lie hlie with h | h <;> omega
        have HQ : Hid (IvL.PK w w10 w1.heap.size gc vc gi uc ta tc cs is vs ns xl yl) := (HP.out.app HER.out hgr (fun g h => by have h8 := IvL.own_ne h; omega))
        replace HNW : Hid (w10.heap[b7]? = some (.cells #[.slice none 0 0, .slice none 0 0] 26 (0, 0))) := PWo.keep_rowG hgr HER.out HNW.out (by decide)
        replace HP := HQ
        clear HQ
        obtain ⟨g8, hg8⟩ : ∃ x, x = g1' := ⟨_, rfl⟩
        obtain ⟨cap8, hcap8⟩ : ∃ x, x = cap1 := ⟨_, rfl⟩
        rw [← hg8, ← hcap8] at hown ⊢
        rw [← hg8] at hG8
        clear hg8 hcap8 hlie hlt9
        replace HER : Hid (w10.ownsRow w.heap.size 39 3 (.slice (some ⟨g8, 0, none⟩) (is.length + 1) cap8) (is.length + 1) (flatI is vs ++ [.string ⟨xl.toArray⟩, .string ⟨yl.toArray⟩, .slice ta ns.length tc])) := by show World.ownsRow _ _ _ _ _ _ _; simpa using hown
        clear hown hgr hq
        clear HB1
        refine wpAnyT_take (i := 9) (v := .agg #[.slice (some ⟨gc, 0, none⟩) cs.length vc, .slice (some ⟨g8, 0, none⟩) (is.length + 1) cap8]) rfl (by kernel_rfl) (by kernel_rfl) (by kernel_rfl) (by kernel_rfl) (fun _ _ _ h => h) (Or.inl ⟨by kernel_rfl, fun X hS => by obtain ⟨e0, e1, e2, e3, e4⟩ := hS; go_simp⟩) HP.out.cells ?_
        try go_simp
        refine wpAnyT_drop _ 11 _ _ _ (by decide) (by kernel_rfl) ?_
        change wpList _ _ _ [_] _ _
        obtain ⟨i0, i1, f0, f1⟩ := PWo.k2 HNW.out
        have hli := lt_of_heap HNW.out
        go_wp2
        go_meet
        case rel =>
          exact ⟨b7, g8, cap8, rfl, heap_set (heap_set HNW.out 0 _) 1 _, Draw.row_boxR HNW.out HER.out (by decide) (Draw.set2_boxR w10 b7 (.slice (some ⟨gc, 0, none⟩) cs.length vc) (.slice (some ⟨g8, 0, none⟩) (is.length + 1) cap8)), HP.out.box HNW.out hN1.1 hN1.2⟩
    · go_simp
      have hq := HP.out.nums
      have hb : Below w5.heap.size w5 (w5.alloc (.cells #[.slice none 0 0, .slice none 0 0] 26)) := (Below.refl _ _).alloc (Nat.le_refl _) _
      replace HP : Hid (IvL.PK w (w5.alloc (.cells #[.slice none 0 0, .slice none 0 0] 26)) w1.heap.size gc vc gi uc ta tc cs is vs ns xl yl) := HP.out.below hb
      clear hb
      have HNW : Hid ((w5.alloc (.cells #[.slice none 0 0, .slice none 0 0] 26)).heap[w5.heap.size]? = some (.cells #[.slice none 0 0, .slice none 0 0] 26 (0, 0))) := heap_alloc_new _ _
      generalize (w5.alloc (.cells #[.slice none 0 0, .slice none 0 0] 26)) = w6 at *
      obtain ⟨b6, hbb6⟩ : ∃ x, x = w5.heap.size := ⟨_, rfl⟩
      rw [← hbb6] at HNW ⊢
      have hN1 : (w1.heap.size + 1) < b6 ∧ w.heap.size ≤ b6 := by omega
      clear hq
      clear hbb6
      refine hK _ _ (fun _ => HP.out.cells) ?_
      clear hK K
      refine wpAnyT_two 2 7 rfl rfl (by kernel_rfl) (fun K hK => ?_) (fun K hK => ?_)
      · go_simp
        have hq := HP.out.nums
        have hbz := HP.out.wB.size
        have hb : Below w6.heap.size w6 (w6.alloc (.cells #[] 39)) := (Below.refl _ _).alloc (Nat.le_refl _) _
        have HER : Hid ((w6.alloc (.cells #[] 39)).ownsRow w.heap.size 39 3 (.slice (some ⟨w6.heap.size, 0, none⟩) 0 0) 0 []) := by
          have h := World.ownsRow_made (base := w.heap.size) (e := 39) (size := 3) w6 #[] 0 (by omega) (by simp [maxLen]) rfl
          show World.ownsRow _ _ _ _ _ _ _
          simpa using h
        replace HP : Hid (IvL.PK w (w6.alloc (.cells #[] 39)) w1.heap.size gc vc gi uc ta tc cs is vs ns xl yl) := HP.out.below hb
        replace HNW : Hid ((w6.alloc (.cells #[] 39)).heap[b6]? = some (.cells #[.slice none 0 0, .slice none 0 0] 26 (0, 0))) := below_heap hb (lt_of_heap HNW.out) HNW.out
        clear hb
        have HEH : Hid ((w6.alloc (.cells #[] 39)).heap[w6.heap.size]? = some (.cells #[] 39 (0, 0))) := heap_alloc_new _ _
        generalize (w6.alloc (.cells #[] 39)) = w7 at *
        obtain ⟨b7, hbb7⟩ : ∃ x, x = w6.heap.size := ⟨_, rfl⟩
        rw [← hbb7] at HEH HER ⊢
        have hAe : (w1.heap.size + 1) < b7 ∧ gi < b7 := by omega
        clear hq
        clear hbz
        clear hbb7
        clear HEH
        refine hK _ _ (fun _ => HP.out.cells) ?_
        clear hK K
        refine wpAnyT_two 5 7 rfl rfl (by kernel_rfl) (fun K hK => ?_) (fun K hK => ?_)
        · rw [if_pos (by kernel_rfl)]
          have hq := HP.out.nums
          refine (wp_append_lies w7 (Operand.tmp 28) (Operand.tmp 30) 24 rfl (w.heap.size) 39 ib (.agg #[.string ⟨#[]⟩, .string ⟨#[]⟩, .slice none 0 0]) 3 56 Try.underlying24 HIB.out HZ0.out HZ1.out HZ2.out rfl (by decide) (.slice (some ⟨b7, 0, none⟩) 0 0) (0) [] rfl HER.out ⟨gi, 0, none⟩ (is.length) _ (flatI is vs) rfl HP.out.wR.1 (fun j u hj => by rw [IvL.addr_add]; exact row_cell HP.out.wR j hj) HO1.out (by omega) (by unfold maxLen; omega) (by omega) (by omega) w7.heap.size rfl fun g1' cap1 w8 hown hgr hlie hlt9 => hK _ _ (fun _ => ((HP.out.app HER.out hgr (fun g h => by have h8 := IvL.own_ne h; omega))).cells) ?_)
          clear hK K
          have hG5 : (w1.heap.size + 1) < g1' ∧ gi < g1' := by
            rcases IvL.own_lie hlie with h | h <;> omega
          have HQ : Hid (IvL.PK w w8 w1.heap.size gc vc gi uc ta tc cs is vs ns xl yl) := (HP.out.app HER.out hgr (fun g h => by have h8 := IvL.own_ne h; omega))
          replace HNW : Hid (w8.heap[b6]? = some (.cells #[.slice none 0 0, .slice none 0 0] 26 (0, 0))) := PWo.keep_rowG hgr HER.out HNW.out (by decide)
          replace HP := HQ
          clear HQ
          obtain ⟨g5, hg5⟩ : ∃ x, x = g1' := ⟨_, rfl⟩
          obtain ⟨cap5, hcap5⟩ : ∃ x, x = cap1 := ⟨_, rfl⟩
          rw [← hg5, ← hcap5] at hown ⊢
          rw [← hg5] at hG5
          clear hg5 hcap5 hlie hlt9
          replace HER : Hid (w8.ownsRow w.heap.size 39 3 (.slice (some ⟨g5, 0, none⟩) (is.length) cap5) (is.length) (flatI is vs)) := by show World.ownsRow _ _ _ _ _ _ _; simpa using hown
          clear hown hgr hq
          try rw [Nat.zero_add]
          refine wpAnyT_one 7 rfl (by kernel_rfl) (fun K hK => ?_)
          go_simp
          have hq := HP.out.nums
          have hq_g5 := (row_own HER.out g5 rfl).2
          have hb : Below w8.heap.size w8 (w8.alloc (.cells #[.string ⟨xl.toArray⟩, .string ⟨yl.toArray⟩, .slice ta ns.length tc] 39)) := (Below.refl _ _).alloc (Nat.le_refl _) _
          replace HP : Hid (IvL.PK w (w8.alloc (.cells #[.string ⟨xl.toArray⟩, .string ⟨yl.toArray⟩, .slice ta ns.length tc] 39)) w1.heap.size gc vc gi uc ta tc cs is vs ns xl yl) := HP.out.below hb
          replace HNW : Hid ((w8.alloc (.cells #[.string ⟨xl.toArray⟩, .string ⟨yl.toArray⟩, .slice ta ns.length tc] 39)).heap[b6]? = some (.cells #[.slice none 0 0, .slice none 0 0] 26 (0, 0))) := below_heap hb (lt_of_heap HNW.out) HNW.out
          replace HER : Hid ((w8.alloc (.cells #[.string ⟨xl.toArray⟩, .string ⟨yl.toArray⟩, .slice ta ns.length tc] 39)).ownsRow w.heap.size 39 3 (.slice (some ⟨g5, 0, none⟩) (is.length) cap5) (is.length) (flatI is vs)) := row_below hb HER.out
          clear hb
          have HB1 : Hid ((w8.alloc (.cells #[.string ⟨xl.toArray⟩, .string ⟨yl.toArray⟩, .slice ta ns.length tc] 39)).heap[w8.heap.size]? = some (.cells #[.string ⟨xl.toArray⟩, .string ⟨yl.toArray⟩, .slice ta ns.length tc] 39 (0, 0))) := heap_alloc_new _ _
          generalize (w8.alloc (.cells #[.string ⟨xl.toArray⟩, .string ⟨yl.toArray⟩, .slice ta ns.length tc] 39)) = w9 at *
          obtain ⟨b9, hbb9⟩ : ∃ x, x = w8.heap.size := ⟨_, rfl⟩
          rw [← hbb9] at HB1 ⊢
          have hAn : (w1.heap.size + 1) < b9 ∧ gi < b9 := by omega
          have hCng5 : g5 < b9 := by omega
          clear hq hq_g5
          clear hbb9
          refine hK _ _ (fun _ => HP.out.cells) ?_
          clear hK K
          refine wpAnyT_one 8 rfl (by kernel_rfl) (fun K hK => ?_)
          rw [if_pos (by kernel_rfl)]
          have hq := HP.out.nums
          refine (wp_append_lies w9 (Operand.tmp 31) (Operand.tmp 33) 24 rfl (w.heap.size) 39 ib (.agg #[.string ⟨#[]⟩, .string ⟨#[]⟩, .slice none 0 0]) 3 56 Try.underlying24 HIB.out HZ0.out HZ1.out HZ2.out rfl (by decide) (.slice (some ⟨g5, 0, none⟩) (is.length) cap5) ((is.length)) (flatI is vs) rfl HER.out ⟨b9, 0, none⟩ (1) _ [.string ⟨xl.toArray⟩, .string ⟨yl.toArray⟩, .slice ta ns.length tc] rfl (by simp) (fun j u hj => by rw [IvL.addr_add]; exact PWo.news_three (heap_cell HB1.out 0) (heap_cell HB1.out 1) (heap_cell HB1.out 2) j u hj) (by simp [Value.oneCell']) (by omega) (by unfold maxLen; omega) (by omega) (by omega) w9.heap.size rfl fun g1' cap1 w10 hown hgr hlie hlt9 => hK _ _ (fun _ => ((HP.out.app HER.out hgr (fun g h => by have h8 := IvL.own_ne h; omega))).cells) ?_)
          clear hK K
          have hG8 : (w1.heap.size + 1) < g1' ∧ gi < g1' := by
            rcases IvL.own_lie hlie with h | h <;> omega
          have HQ : Hid (IvL.PK w w10 w1.heap.size gc vc gi uc ta tc cs is vs ns xl yl) := (HP.out.app HER.out hgr (fun g h => by have h8 := IvL.own_ne h; omega))
          replace HNW : Hid (w10.heap[b6]? = some (.cells #[.slice none 0 0, .slice none 0 0] 26 (0, 0))) := PWo.keep_rowG hgr HER.out HNW.out (by decide)
          replace HP := HQ
          clear HQ
          obtain ⟨g8, hg8⟩ : ∃ x, x = g1' := ⟨_, rfl⟩
          obtain ⟨cap8, hcap8⟩ : ∃ x, x = cap1 := ⟨_, rfl⟩
          rw [← hg8, ← hcap8] at hown ⊢
          rw [← hg8] at hG8
          clear hg8 hcap8 hlie hlt9
          replace HER : Hid (w10.ownsRow w.heap.size 39 3 (.slice (some ⟨g8, 0, none⟩) (is.length + 1) cap8) (is.length + 1) (flatI is vs ++ [.string ⟨xl.toArray⟩, .string ⟨yl.toArray⟩, .slice ta ns.length tc])) := by show World.ownsRow _ _ _ _ _ _ _; simpa using hown
          clear hown hgr hq
          clear HB1
          refine wpAnyT_take (i := 9) (v := .agg #[.slice (some ⟨gc, 0, none⟩) cs.length vc, .slice (some ⟨g8, 0, none⟩) (is.length + 1) cap8]) rfl (by kernel_rfl) (by kernel_rfl) (by kernel_rfl) (by kernel_rfl) (fun _ _ _ h => h) (Or.inl ⟨by kernel_rfl, fun X hS => by obtain ⟨e0, e1, e2, e3, e4⟩ := hS; go_simp⟩) HP.out.cells ?_
          try go_simp
          refine wpAnyT_drop _ 11 _ _ _ (by decide) (by kernel_rfl) ?_
          change wpList _ _ _ [_] _ _
          obtain ⟨i0, i1, f0, f1⟩ := PWo.k2 HNW.out
          have hli := lt_of_heap HNW.out
          go_wp2
          go_meet
          case rel =>
            exact ⟨b6, g8, cap8, rfl, heap_set (heap_set HNW.out 0 _) 1 _, Draw.row_boxR HNW.out HER.out (by decide) (Draw.set2_boxR w10 b6 (.slice (some ⟨gc, 0, none⟩) cs.length vc) (.slice (some ⟨g8, 0, none⟩) (is.length + 1) cap8)), HP.out.box HNW.out hN1.1 hN1.2⟩
        · go_simp
          have hq := HP.out.nums
          have hq_b7 := (row_own HER.out b7 rfl).2
          have hb : Below w7.heap.size w7 (w7.alloc (.cells #[.string ⟨xl.toArray⟩, .string ⟨yl.toArray⟩, .slice ta ns.length tc] 39)) := (Below.refl _ _).alloc (Nat.le_refl _) _
          replace HP : Hid (IvL.PK w (w7.alloc (.cells #[.string ⟨xl.toArray⟩, .string ⟨yl.toArray⟩, .slice ta ns.length tc] 39)) w1.heap.size gc vc gi uc ta tc cs is vs ns xl yl) := HP.out.below hb
          replace HNW : Hid ((w7.alloc (.cells #[.string ⟨xl.toArray⟩, .string ⟨yl.toArray⟩, .slice ta ns.length tc] 39)).heap[b6]? = some (.cells #[.slice none 0 0, .slice none 0 0] 26 (0, 0))) := below_heap hb (lt_of_heap HNW.out) HNW.out
          replace HER : Hid ((w7.alloc (.cells #[.string ⟨xl.toArray⟩, .string ⟨yl.toArray⟩, .slice ta ns.length tc] 39)).ownsRow w.heap.size 39 3 (.slice (some ⟨b7, 0, none⟩) 0 0) 0 []) := row_below hb HER.out
          clear hb
          have HB1 : Hid ((w7.alloc (.cells #[.string ⟨xl.toArray⟩, .string ⟨yl.toArray⟩, .slice ta ns.length tc] 39)).heap[w7.heap.size]? = some (.cells #[.string ⟨xl.toArray⟩, .string ⟨yl.toArray⟩, .slice ta ns.length tc] 39 (0, 0))) := heap_alloc_new _ _
          generalize (w7.alloc (.cells #[.string ⟨xl.toArray⟩, .string ⟨yl.toArray⟩, .slice ta ns.length tc] 39)) = w8 at *
          obtain ⟨b8, hbb8⟩ : ∃ x, x = w7.heap.size := ⟨_, rfl⟩
          rw [← hbb8] at HB1 ⊢
          have hAn : (w1.heap.size + 1) < b8 ∧ gi < b8 := by omega
          have hCnb7 : b7 < b8 := by omega
          clear hq hq_b7
          clear hbb8
          refine hK _ _ (fun _ => HP.out.cells) ?_
          clear hK K
          refine wpAnyT_one 5 rfl (by kernel_rfl) (fun K hK => ?_)
          rw [if_pos (by kernel_rfl)]
          have hq := HP.out.nums
          refine (wp_append_lies w8 (Operand.tmp 28) (Operand.tmp 30) 24 rfl (w.heap.size) 39 ib (.agg #[.string ⟨#[]⟩, .string ⟨#[]⟩, .slice none 0 0]) 3 56 Try.underlying24 HIB.out HZ0.out HZ1.out HZ2.out rfl (by decide) (.slice (some ⟨b7, 0, none⟩) 0 0) (0) [] rfl HER.out ⟨gi, 0, none⟩ (is.length) _ (flatI is vs) rfl HP.out.wR.1 (fun j u hj => by rw [IvL.addr_add]; exact row_cell HP.out.wR j hj) HO1.out (by omega) (by unfold maxLen; omega) (by omega) (by omega) w8.heap.size rfl fun g1' cap1 w9 hown hgr hlie hlt9 => hK _ _ (fun _ => ((HP.out.app HER.out hgr (fun g h => by have h8 := IvL.own_ne h; omega))).cells) ?_)
          clear hK K
          have hG5 : (w1.heap.size + 1) < g1' ∧ gi < g1' := by
            rcases IvL.own_lie hlie with h | h <;> omega
          have HQ : Hid (IvL.PK w w9 w1.heap.size gc vc gi uc ta tc cs is vs ns xl yl) := (HP.out.app HER.out hgr (fun g h => by have h8 := IvL.own_ne h; omega))
          replace HNW : Hid (w9.heap[b6]? = some (.cells #[.slice none 0 0, .slice none 0 0] 26 (0, 0))) := PWo.keep_rowG hgr HER.out HNW.out (by decide)
          replace HB1 : Hid (w9.heap[b8]? = some (.cells #[.string ⟨xl.toArray⟩, .string ⟨yl.toArray⟩, .slice ta ns.length tc] 39 (0, 0))) := IvL.heap_own HB1.out hgr (by omega)
          replace HP := HQ
          clear HQ
          obtain ⟨g5, hg5⟩ : ∃ x, x = g1' := ⟨_, rfl⟩
          obtain ⟨cap5, hcap5⟩ : ∃ x, x = cap1 := ⟨_, rfl⟩
          rw [← hg5, ← hcap5] at hown ⊢
          rw [← hg5] at hG5
          clear hg5 hcap5 hlie hlt9
          replace HER : Hid (w9.ownsRow w.heap.size 39 3 (.slice (some ⟨g5, 0, none⟩) (is.length) cap5) (is.length) (flatI is vs)) := by show World.ownsRow _ _ _ _ _ _ _; simpa using hown
          clear hown hgr hq
          try rw [Nat.zero_add]
          refine wpAnyT_one 8 rfl (by kernel_rfl) (fun K hK => ?_)
          rw [if_pos (by kernel_rfl)]
          have hq := HP.out.nums
          refine (wp_append_lies w9 (Operand.tmp 31) (Operand.tmp 33) 24 rfl (w.heap.size) 39 ib (.agg #[.string ⟨#[]⟩, .string ⟨#[]⟩, .slice none 0 0]) 3 56 Try.underlying24 HIB.out HZ0.out HZ1.out HZ2.out rfl (by decide) (.slice (some ⟨g5, 0, none⟩) (is.length) cap5) ((is.length)) (flatI is vs) rfl HER.out ⟨b8, 0, none⟩ (1) _ [.string ⟨xl.toArray⟩, .string ⟨yl.toArray⟩, .slice ta ns.length tc] rfl (by simp) (fun j u hj => by rw [IvL.addr_add]; exact PWo.news_three (heap_cell HB1.out 0) (heap_cell HB1.out 1) (heap_cell HB1.out 2) j u hj) (by simp [Value.oneCell']) (by omega) (by unfold maxLen; omega) (by omega) (by omega) w9.heap.size rfl fun g1' cap1 w10 hown hgr hlie hlt9 => hK _ _ (fun _ => ((HP.out.app HER.out hgr (fun g h => by have h8 := IvL.own_ne h; omega))).cells) ?_)
          clear hK K
          have hG8 : (w1.heap.size + 1) < g1' ∧ gi < g1' := by
            rcases IvL.own_lie hlie with h | h <;> omega
          have HQ : Hid (IvL.PK w w10 w1.heap.size gc vc gi uc ta tc cs is vs ns xl yl) := (HP.out.app HER.out hgr (fun g h => by have h8 := IvL.own_ne h; omega))
          replace HNW : Hid (w10.heap[b6]? = some (.cells #[.slice none 0 0, .slice none 0 0] 26 (0, 0))) := PWo.keep_rowG hgr HER.out HNW.out (by decide)
          replace HP := HQ
          clear HQ
          obtain ⟨g8, hg8⟩ : ∃ x, x = g1' := ⟨_, rfl⟩
          obtain ⟨cap8, hcap8⟩ : ∃ x, x = cap1 := ⟨_, rfl⟩
          rw [← hg8, ← hcap8] at hown ⊢
          rw [← hg8] at hG8
          clear hg8 hcap8 hlie hlt9
          replace HER : Hid (w10.ownsRow w.heap.size 39 3 (.slice (some ⟨g8, 0, none⟩) (is.length + 1) cap8) (is.length + 1) (flatI is vs ++ [.string ⟨xl.toArray⟩, .string ⟨yl.toArray⟩, .slice ta ns.length tc])) := by show World.ownsRow _ _ _ _ _ _ _; simpa using hown
          clear hown hgr hq
          clear HB1
          refine wpAnyT_take (i := 9) (v := .agg #[.slice (some ⟨gc, 0, none⟩) cs.length vc, .slice (some ⟨g8, 0, none⟩) (is.length + 1) cap8]) rfl (by kernel_rfl) (by kernel_rfl) (by kernel_rfl) (by kernel_rfl) (fun _ _ _ h => h) (Or.inl ⟨by kernel_rfl, fun X hS => by obtain ⟨e0, e1, e2, e3, e4⟩ := hS; go_simp⟩) HP.out.cells ?_
          try go_simp
          refine wpAnyT_drop _ 11 _ _ _ (by decide) (by kernel_rfl) ?_
          change wpList _ _ _ [_] _ _
          obtain ⟨i0, i1, f0, f1⟩ := PWo.k2 HNW.out
          have hli := lt_of_heap HNW.out
          go_wp2
          go_meet
          case rel =>
            exact ⟨b6, g8, cap8, rfl, heap_set (heap_set HNW.out 0 _) 1 _, Draw.row_boxR HNW.out HER.out (by decide) (Draw.set2_boxR w10 b6 (.slice (some ⟨gc, 0, none⟩) cs.length vc) (.slice (some ⟨g8, 0, none⟩) (is.length + 1) cap8)), HP.out.box HNW.out hN1.1 hN1.2⟩
      · go_simp
        have hq := HP.out.nums
        have hb : Below w6.heap.size w6 (w6.alloc (.cells #[.string ⟨xl.toArray⟩, .string ⟨yl.toArray⟩, .slice ta ns.length tc] 39)) := (Below.refl _ _).alloc (Nat.le_refl _) _
        replace HP : Hid (IvL.PK w (w6.alloc (.cells #[.string ⟨xl.toArray⟩, .string ⟨yl.toArray⟩, .slice ta ns.length tc] 39)) w1.heap.size gc vc gi uc ta tc cs is vs ns xl yl) := HP.out.below hb
        replace HNW : Hid ((w6.alloc (.cells #[.string ⟨xl.toArray⟩, .string ⟨yl.toArray⟩, .slice ta ns.length tc] 39)).heap[b6]? = some (.cells #[.slice none 0 0, .slice none 0 0] 26 (0, 0))) := below_heap hb (lt_of_heap HNW.out) HNW.out
        clear hb
        have HB1 : Hid ((w6.alloc (.cells #[.string ⟨xl.toArray⟩, .string ⟨yl.toArray⟩, .slice ta ns.length tc] 39)).heap[w6.heap.size]? = some (.cells #[.string ⟨xl.toArray⟩, .string ⟨yl.toArray⟩, .slice ta ns.length tc] 39 (0, 0))) := heap_alloc_new _ _
        generalize (w6.alloc (.cells #[.string ⟨xl.toArray⟩, .string ⟨yl.toArray⟩, .slice ta ns.length tc] 39)) = w7 at *
        obtain ⟨b7, hbb7⟩ : ∃ x, x = w6.heap.size := ⟨_, rfl⟩
        rw [← hbb7] at HB1 ⊢
        have hAn : (w1.heap.size + 1) < b7 ∧ gi < b7 := by omega
        clear hq
        clear hbb7
        refine hK _ _ (fun _ => HP.out.cells) ?_
        clear hK K
        refine wpAnyT_one 2 rfl (by kernel_rfl) (fun K hK => ?_)
        go_simp
        have hq := HP.out.nums
        have hq_b7 := lt_of_heap HB1.out
        have hbz := HP.out.wB.size
        have hb : Below w7.heap.size w7 (w7.alloc (.cells #[] 39)) := (Below.refl _ _).alloc (Nat.le_refl _) _
        have HER : Hid ((w7.alloc (.cells #[] 39)).ownsRow w.heap.size 39 3 (.slice (some ⟨w7.heap.size, 0, none⟩) 0 0) 0 []) := by
          have h := World.ownsRow_made (base := w.heap.size) (e := 39) (size := 3) w7 #[] 0 (by omega) (by simp [maxLen]) rfl
          show World.ownsRow _ _ _ _ _ _ _
          simpa using h
        replace HP : Hid (IvL.PK w (w7.alloc (.cells #[] 39)) w1.heap.size gc vc gi uc ta tc cs is vs ns xl yl) := HP.out.below hb
        replace HNW : Hid ((w7.alloc (.cells #[] 39)).heap[b6]? = some (.cells #[.slice none 0 0, .slice none 0 0] 26 (0, 0))) := below_heap hb (lt_of_heap HNW.out) HNW.out
        replace HB1 : Hid ((w7.alloc (.cells #[] 39)).heap[b7]? = some (.cells #[.string ⟨xl.toArray⟩, .string ⟨yl.toArray⟩, .slice ta ns.length tc] 39 (0, 0))) := below_heap hb (lt_of_heap HB1.out) HB1.out
        clear hb
        have HEH : Hid ((w7.alloc (.cells #[] 39)).heap[w7.heap.size]? = some (.cells #[] 39 (0, 0))) := heap_alloc_new _ _
        generalize (w7.alloc (.cells #[] 39)) = w8 at *
        obtain ⟨b8, hbb8⟩ : ∃ x, x = w7.heap.size := ⟨_, rfl⟩
        rw [← hbb8] at HEH HER ⊢
        have hAe : (w1.heap.size + 1) < b8 ∧ gi < b8 := by omega
        have hCeb7 : b7 < b8 := by omega
        clear hq hq_b7
        clear hbz
        clear hbb8
        clear HEH
        refine hK _ _ (fun _ => HP.out.cells) ?_
        clear hK K
        refine wpAnyT_one 5 rfl (by kernel_rfl) (fun K hK => ?_)
        rw [if_pos (by kernel_rfl)]
        have hq := HP.out.nums
        refine (wp_append_lies w8 (Operand.tmp 28) (Operand.tmp 30) 24 rfl (w.heap.size) 39 ib (.agg #[.string ⟨#[]⟩, .string ⟨#[]⟩, .slice none 0 0]) 3 56 Try.underlying24 HIB.out HZ0.out HZ1.out HZ2.out rfl (by decide) (.slice (some ⟨b8, 0, none⟩) 0 0) (0) [] rfl HER.out ⟨gi, 0, none⟩ (is.length) _ (flatI is vs) rfl HP.out.wR.1 (fun j u hj => by rw [IvL.addr_add]; exact row_cell HP.out.wR j hj) HO1.out (by omega) (by unfold maxLen; omega) (by omega) (by omega) w8.heap.size rfl fun g1' cap1 w9 hown hgr hlie hlt9 => hK _ _ (fun _ => ((HP.out.app HER.out hgr (fun g h => by have h8 := IvL.own_ne h; omega))).cells) ?_)
        clear hK K
        have hG5 : (w1.heap.size + 1) < g1' ∧ gi < g1' := by
          rcases IvL.own_lie hlie with h | h <;> omega
        have HQ : Hid (IvL.PK w w9 w1.heap.size gc vc gi uc ta tc cs is vs ns xl yl) := (HP.out.app HER.out hgr (fun g h => by have h8 := IvL.own_ne h; omega))
        replace HNW : Hid (w9.heap[b6]? = some (.cells #[.slice none 0 0, .slice none 0 0] 26 (0, 0))) := PWo.keep_rowG hgr HER.out HNW.out (by decide)
        replace HB1 : Hid (w9.heap[b7]? = some (.cells #[.string ⟨xl.toArray⟩, .string ⟨yl.toArray⟩, .slice ta ns.length tc] 39 (0, 0))) := IvL.heap_own HB1.out hgr (by omega)
        replace HP := HQ
        clear HQ
        obtain ⟨g5, hg5⟩ : ∃ x, x = g1' := ⟨_, rfl⟩
        obtain ⟨cap5, hcap5⟩ : ∃ x, x = cap1 := ⟨_, rfl⟩
        rw [← hg5, ← hcap5] at hown ⊢
        rw [← hg5] at hG5
        clear hg5 hcap5 hlie hlt9
        replace HER : Hid (w9.ownsRow w.heap.size 39 3 (.slice (some ⟨g5, 0, none⟩) (is.length) cap5) (is.length) (flatI is vs)) := by show World.ownsRow _ _ _ _ _ _ _; simpa using hown
        clear hown hgr hq
        try rw [Nat.zero_add]
        refine wpAnyT_one 8 rfl (by kernel_rfl) (fun K hK => ?_)
        rw [if_pos (by kernel_rfl)]
        have hq := HP.out.nums
        refine (wp_append_lies w9 (Operand.tmp 31) (Operand.tmp 33) 24 rfl (w.heap.size) 39 ib (.agg #[.string ⟨#[]⟩, .string ⟨#[]⟩, .slice none 0 0]) 3 56 Try.underlying24 HIB.out HZ0.out HZ1.out HZ2.out rfl (by decide) (.slice (some ⟨g5, 0, none⟩) (is.length) cap5) ((is.length)) (flatI is vs) rfl HER.out ⟨b7, 0, none⟩ (1) _ [.string ⟨xl.toArray⟩, .string ⟨yl.toArray⟩, .slice ta ns.length tc] rfl (by simp) (fun j u hj => by rw [IvL.addr_add]; exact PWo.news_three (heap_cell HB1.out 0) (heap_cell HB1.out 1) (heap_cell HB1.out 2) j u hj) (by simp [Value.oneCell']) (by omega) (by unfold maxLen; omega) (by omega) (by omega) w9.heap.size rfl fun g1' cap1 w10 hown hgr hlie hlt9 => hK _ _ (fun _ => ((HP.out.app HER.out hgr (fun g h => by have h8 := IvL.own_ne h; omega))).cells) ?_)
        clear hK K
        have hG8 : (w1.heap.size + 1) < g1' ∧ gi < g1' := by
          rcases IvL.own_lie hlie with h | h <;> omega
        have HQ : Hid (IvL.PK w w10 w1.heap.size gc vc gi uc ta tc cs is vs ns xl yl) := (HP.out.app HER.out hgr (fun g h => by have h8 := IvL.own_ne h; omega))
        replace HNW : Hid (w10.heap[b6]? = some (.cells #[.slice none 0 0, .slice none 0 0] 26 (0, 0))) := PWo.keep_rowG hgr HER.out HNW.out (by decide)
        replace HP := HQ
        clear HQ
        obtain ⟨g8, hg8⟩ : ∃ x, x = g1' := ⟨_, rfl⟩
        obtain ⟨cap8, hcap8⟩ : ∃ x, x = cap1 := ⟨_, rfl⟩
        rw [← hg8, ← hcap8] at hown ⊢
        rw [← hg8] at hG8
        clear hg8 hcap8 hlie hlt9
        replace HER : Hid (w10.ownsRow w.heap.size 39 3 (.slice (some ⟨g8, 0, none⟩) (is.length + 1) cap8) (is.length + 1) (flatI is vs ++ [.string ⟨xl.toArray⟩, .string ⟨yl.toArray⟩, .slice ta ns.length tc])) := by show World.ownsRow _ _ _ _ _ _ _; simpa using hown
        clear hown hgr hq
        clear HB1
        refine wpAnyT_take (i := 9) (v := .agg #[.slice (some ⟨gc, 0, none⟩) cs.length vc, .slice (some ⟨g8, 0, none⟩) (is.length + 1) cap8]) rfl (by kernel_rfl) (by kernel_rfl) (by kernel_rfl) (by kernel_rfl) (fun _ _ _ h => h) (Or.inl ⟨by kernel_rfl, fun X hS => by obtain ⟨e0, e1, e2, e3, e4⟩ := hS; go_simp⟩) HP.out.cells ?_
        try go_simp
        refine wpAnyT_drop _ 11 _ _ _ (by decide) (by kernel_rfl) ?_
        change wpList _ _ _ [_] _ _
        obtain ⟨i0, i1, f0, f1⟩ := PWo.k2 HNW.out
        have hli := lt_of_heap HNW.out
        go_wp2
        go_meet
        case rel =>
          exact ⟨b6, g8, cap8, rfl, heap_set (heap_set HNW.out 0 _) 1 _, Draw.row_boxR HNW.out HER.out (by decide) (Draw.set2_boxR w10 b6 (.slice (some ⟨gc, 0, none⟩) cs.length vc) (.slice (some ⟨g8, 0, none⟩) (is.length + 1) cap8)), HP.out.box HNW.out hN1.1 hN1.2⟩
  case rest =>
    obtain ⟨bo, gx, cx, rfl, hbo, hrow, hp⟩ := hcut
    have HNW := hid hbo.out
    have HER := hid hrow.out
    have HB := hid hp.out.wB
    have HV := hid hp.out.wV
    have HIR := hid hp.out.wR
    have HRS := hid hp.out.wS
    have HT := hid hp.out.wT
    have HW := hid hp.out.wW
    have HI := hid hp.out.wI
    clear hbo hrow hp HP HO1 HIB HZ0 HZ1 HZ2
    obtain ⟨wv2, hwv2⟩ : ∃ v, v = WV.wvB cs (is ++ [((⟨xl.toArray⟩, ⟨yl.toArray⟩, ns) : II)]) := ⟨_, rfl⟩
    have HWV2 : Hid (WV.wvB cs (is ++ [((⟨xl.toArray⟩, ⟨yl.toArray⟩, ns) : II)]) = wv2) := hwv2.symm
    clear hwv2
    have HSX : Hid (SI wc (.slice (some ⟨gx, 0, none⟩) (is.length + 1) cx) (is ++ [((⟨xl.toArray⟩, ⟨yl.toArray⟩, ns) : II)])) := by
      refine IvL.si_weak (b2 := w.heap.size) (vs := vs ++ [.slice ta ns.length tc]) (base := w.heap.size) ?_ (by rw [List.length_append, List.length_append, HRS.out.1]; rfl) ?_ ?_
      · rw [List.length_append, flatI_snoc _ vs _ _ HRS.out.1]
        exact HER.out
      · intro i p u hp hu
        by_cases hi : i < is.length
        · rw [List.getElem?_append_left hi] at hp
          rw [List.getElem?_append_left (by rw [HRS.out.1]; exact hi)] at hu
          exact HRS.out.2.1 i p u hp hu
        · rw [List.getElem?_append_right (by omega)] at hp
          rw [List.getElem?_append_right (by rw [HRS.out.1]; omega), HRS.out.1] at hu
          have h9 : i - is.length = 0 := by
            have := (List.getElem?_eq_some_iff.1 hp).1
            simp at this
            omega
          rw [h9] at hp hu
          simp at hp hu
          subst hp hu
          exact HT.out
      · rw [Draw.itot_snoc]
        have : iw ((⟨xl.toArray⟩, ⟨yl.toArray⟩, ns) : II) = xl.length + yl.length + ns.length + tot ns := by simp [iw, ByteArray.size]
        omega
    have HIT : Hid (itot (is ++ [((⟨xl.toArray⟩, ⟨yl.toArray⟩, ns) : II)]) + (is ++ [((⟨xl.toArray⟩, ⟨yl.toArray⟩, ns) : II)]).length ≤ 1048576) := by
      show _ ≤ _
      rw [Draw.itot_snoc, List.length_append]
      have : iw ((⟨xl.toArray⟩, ⟨yl.toArray⟩, ns) : II) = xl.length + yl.length + ns.length + tot ns := by simp [iw, ByteArray.size]
      simp only [List.length_cons, List.length_nil]
      omega
    obtain ⟨i0, i1, f0, f1⟩ := PWo.k2 HNW.out
    have hli := lt_of_heap HNW.out
    go_wp2_with fail
    clear i0 i1 f0 f1 hli
    refine ((show Calls Try.prog _ #[.agg #[.slice (some ⟨gc, 0, none⟩) cs.length vc, .slice (some ⟨gx, 0, none⟩) (is.length + 1) cx]] wc (fun e w' => e = .returned (.bool (WV.wvB cs (is ++ [((⟨xl.toArray⟩, ⟨yl.toArray⟩, ns) : II)]))) ∧ Below wc.heap.size wc w') from by
      have h := WV.WorldValid_impl (some ⟨gc, 0, none⟩) (some ⟨gx, 0, none⟩) vc cx cs (is ++ [((⟨xl.toArray⟩, ⟨yl.toArray⟩, ns) : II)]) wc (by omega) HIT.out (PWo.row_cap HV.out) (PWo.sp_of HV.out (by omega))
      rw [List.length_append] at h
      exact h HSX.out)).mono ?_
    rintro e w5 ⟨rfl, hb⟩
    replace HB : Hid (Below w.heap.size w w5) := HB.out.trans (hb.mono HB.out.size)
    replace HV : Hid (w5.ownsRow w.heap.size 33 2 (.slice (some ⟨gc, 0, none⟩) cs.length vc) cs.length (flat cs)) := row_below hb HV.out
    replace HIR : Hid (w5.ownsRow w.heap.size 39 3 (.slice (some ⟨gi, 0, none⟩) is.length uc) is.length (flatI is vs)) := row_below hb HIR.out
    replace HRS : Hid (IRow.Rows w5 w.heap.size is vs) := HRS.out.below hb
    replace HT : Hid (w5.ownsRow w.heap.size 36 2 (.slice ta ns.length tc) ns.length (flat ns)) := row_below hb HT.out
    replace HW : Hid (w5.heap[w1.heap.size]? = some (.cells #[.slice (some ⟨gc, 0, none⟩) cs.length vc, .slice (some ⟨gi, 0, none⟩) is.length uc] 26 (0, 0))) := below_heap hb (lt_of_heap HW.out) HW.out
    replace HI : Hid (w5.heap[w1.heap.size + 1]? = some (.cells #[.string ⟨xl.toArray⟩, .string ⟨yl.toArray⟩, .slice ta ns.length tc] 39 (0, 0))) := below_heap hb (lt_of_heap HI.out) HI.out
    clear hb
    rw [HWV2.out]
    clear HSX HIT HNW HER
    by_cases hwt : wv = true
    · subst hwt
      by_cases h10 : is.length < 10
      · have hwi : wv2 = iv := by rw [← HWV2.out, ← HIV.out]; exact IvL.wide HWV.out h10
        subst hwi
        have hnn : (wv2 != wv2) = false := by simp
        obtain ⟨i0, i1, f0, f1⟩ := PWo.k2 HW.out
        obtain ⟨j0, j1, j2, y0, y1, y2⟩ := PIn.k3 HI.out
        have hli := lt_of_heap HW.out
        have hlk := lt_of_heap HI.out
        go_wp2_with fail
        clear i0 i1 f0 f1 j0 j1 j2 y0 y1 y2 hli hlk
        refine (WV.WorldValid_impl (some ⟨gc, 0, none⟩) (some ⟨gi, 0, none⟩) vc uc cs is w5 (by omega) (by omega) (PWo.row_cap HV.out) (PWo.sp_of HV.out (by omega)) (PWo.si_of ⟨vs, HIR.out, HRS.out⟩ (by omega))).mono ?_
        rintro e w6 ⟨rfl, hb⟩
        replace HB : Hid (Below w.heap.size w w6) := HB.out.trans (hb.mono HB.out.size)
        replace HV : Hid (w6.ownsRow w.heap.size 33 2 (.slice (some ⟨gc, 0, none⟩) cs.length vc) cs.length (flat cs)) := row_below hb HV.out
        replace HIR : Hid (w6.ownsRow w.heap.size 39 3 (.slice (some ⟨gi, 0, none⟩) is.length uc) is.length (flatI is vs)) := row_below hb HIR.out
        replace HRS : Hid (IRow.Rows w6 w.heap.size is vs) := HRS.out.below hb
        replace HT : Hid (w6.ownsRow w.heap.size 36 2 (.slice ta ns.length tc) ns.length (flat ns)) := row_below hb HT.out
        replace HW : Hid (w6.heap[w1.heap.size]? = some (.cells #[.slice (some ⟨gc, 0, none⟩) cs.length vc, .slice (some ⟨gi, 0, none⟩) is.length uc] 26 (0, 0))) := below_heap hb (lt_of_heap HW.out) HW.out
        replace HI : Hid (w6.heap[w1.heap.size + 1]? = some (.cells #[.string ⟨xl.toArray⟩, .string ⟨yl.toArray⟩, .slice ta ns.length tc] 39 (0, 0))) := below_heap hb (lt_of_heap HI.out) HI.out
        clear hb
        rw [HWV.out]
        obtain ⟨i0, i1, f0, f1⟩ := PWo.k2 HW.out
        have hli := lt_of_heap HW.out
        go_wp2_with fail
        clear i0 i1 f0 f1 hli
        clear hnn
        go_loopg [54] is.length (fun q i wr => ∃ k : Nat, k ≤ is.length ∧ is.length - k ≤ q ∧ i = .int .i64 k ∧ Hid (Below w.heap.size w wr) ∧ Hid (wr.ownsRow w.heap.size 33 2 (.slice (some ⟨gc, 0, none⟩) cs.length vc) cs.length (flat cs)) ∧ Hid (wr.ownsRow w.heap.size 39 3 (.slice (some ⟨gi, 0, none⟩) is.length uc) is.length (flatI is vs)) ∧ Hid (IRow.Rows wr w.heap.size is vs) ∧ Hid (wr.ownsRow w.heap.size 36 2 (.slice ta ns.length tc) ns.length (flat ns)) ∧ Hid (wr.heap[w1.heap.size]? = some (.cells #[.slice (some ⟨gc, 0, none⟩) cs.length vc, .slice (some ⟨gi, 0, none⟩) is.length uc] 26 (0, 0))) ∧ Hid (wr.heap[w1.heap.size + 1]? = some (.cells #[.string ⟨xl.toArray⟩, .string ⟨yl.toArray⟩, .slice ta ns.length tc] 39 (0, 0))))
        case atStart => exact ⟨0, Nat.zero_le _, by simp, rfl, HB.out, HV.out, HIR.out, HRS.out, HT.out, HW.out, HI.out⟩
        case round =>
          clear HB HV HIR HRS HT HW HI
          obtain ⟨k, hk, hq, rfl, hHB, hHV, hHIR, hHRS, hHT, hHW, hHI⟩ := hrel
          have HB := hid hHB.out
          have HV := hid hHV.out
          have HIR := hid hHIR.out
          have HRS := hid hHRS.out
          have HT := hid hHT.out
          have HW := hid hHW.out
          have HI := hid hHI.out
          clear hHB hHV hHIR hHRS hHT hHW hHI
          by_cases hlt : k < is.length
          · obtain ⟨⟨px, py, pn⟩, hp⟩ : ∃ p, is[k]? = some p := ⟨_, List.getElem?_eq_getElem hlt⟩
            obtain ⟨pu, hpu⟩ : ∃ u, vs[k]? = some u := ⟨_, List.getElem?_eq_getElem (by have := HRS.out.1; omega)⟩
            obtain ⟨q0, q1, q2⟩ := flatI_get is vs k _ _ HRS.out.1 hp hpu
            have HPR := hid (HRS.out.2.1 k _ _ hp hpu)
            obtain ⟨pa, pc, rfl⟩ := row_slice HPR.out
            obtain ⟨pxl, rfl, hpx⟩ := bytes px
            obtain ⟨pyl, rfl, hpy⟩ := bytes py
            have hiw : (ByteArray.mk pxl.toArray).size + (ByteArray.mk pyl.toArray).size + pn.length + tot pn ≤ itot is := PWo.itot_at is k _ hp
            have hpx2 : pxl.length ≤ 8000 := by omega
            have hpy2 : pyl.length ≤ 8000 := by omega
            have hpn2 : tot pn + pn.length ≤ 8000 := by omega
            have c0 := row_cell HIR.out _ q0
            have c1 := row_cell HIR.out _ q1
            have c2 := row_cell HIR.out _ q2
            have HP := hid hp
            clear hp hpu q0 q1 q2 hiw hpx hpy
            obtain ⟨i0, i1, f0, f1⟩ := PWo.k2 HW.out
            have hli := lt_of_heap HW.out
            have hzz := HB.out.size
            have hb : Below wr.heap.size wr (wr.alloc (.cells #[.string ⟨pxl.toArray⟩, .string ⟨pyl.toArray⟩, .slice pa pn.length pc] 39)) := (Below.refl _ _).alloc (Nat.le_refl _) _
            replace HB : Hid (Below w.heap.size w (wr.alloc (.cells #[.string ⟨pxl.toArray⟩, .string ⟨pyl.toArray⟩, .slice pa pn.length pc] 39))) := HB.out.trans (hb.mono HB.out.size)
            replace HV : Hid ((wr.alloc (.cells #[.string ⟨pxl.toArray⟩, .string ⟨pyl.toArray⟩, .slice pa pn.length pc] 39)).ownsRow w.heap.size 33 2 (.slice (some ⟨gc, 0, none⟩) cs.length vc) cs.length (flat cs)) := row_below hb HV.out
            replace HIR : Hid ((wr.alloc (.cells #[.string ⟨pxl.toArray⟩, .string ⟨pyl.toArray⟩, .slice pa pn.length pc] 39)).ownsRow w.heap.size 39 3 (.slice (some ⟨gi, 0, none⟩) is.length uc) is.length (flatI is vs)) := row_below hb HIR.out
            replace HRS : Hid (IRow.Rows (wr.alloc (.cells #[.string ⟨pxl.toArray⟩, .string ⟨pyl.toArray⟩, .slice pa pn.length pc] 39)) w.heap.size is vs) := HRS.out.below hb
            replace HT : Hid ((wr.alloc (.cells #[.string ⟨pxl.toArray⟩, .string ⟨pyl.toArray⟩, .slice pa pn.length pc] 39)).ownsRow w.heap.size 36 2 (.slice ta ns.length tc) ns.length (flat ns)) := row_below hb HT.out
            replace HW : Hid ((wr.alloc (.cells #[.string ⟨pxl.toArray⟩, .string ⟨pyl.toArray⟩, .slice pa pn.length pc] 39)).heap[w1.heap.size]? = some (.cells #[.slice (some ⟨gc, 0, none⟩) cs.length vc, .slice (some ⟨gi, 0, none⟩) is.length uc] 26 (0, 0))) := below_heap hb (lt_of_heap HW.out) HW.out
            replace HI : Hid ((wr.alloc (.cells #[.string ⟨pxl.toArray⟩, .string ⟨pyl.toArray⟩, .slice pa pn.length pc] 39)).heap[w1.heap.size + 1]? = some (.cells #[.string ⟨xl.toArray⟩, .string ⟨yl.toArray⟩, .slice ta ns.length tc] 39 (0, 0))) := below_heap hb (lt_of_heap HI.out) HI.out
            replace HPR : Hid ((wr.alloc (.cells #[.string ⟨pxl.toArray⟩, .string ⟨pyl.toArray⟩, .slice pa pn.length pc] 39)).ownsRow w.heap.size 36 2 (.slice pa pn.length pc) pn.length (flat pn)) := row_below hb HPR.out
            have HK : Hid ((wr.alloc (.cells #[.string ⟨pxl.toArray⟩, .string ⟨pyl.toArray⟩, .slice pa pn.length pc] 39)).heap[wr.heap.size]? = some (.cells #[.string ⟨pxl.toArray⟩, .string ⟨pyl.toArray⟩, .slice pa pn.length pc] 39 (0, 0))) := heap_alloc_new _ _
            clear hb
            go_wp2_with fail
            clear c0 c1 c2 i0 i1 f0 f1
            generalize (wr.alloc (.cells #[.string ⟨pxl.toArray⟩, .string ⟨pyl.toArray⟩, .slice pa pn.length pc] 39)) = wx at *
            refine (WV.WorldValid_impl (some ⟨gc, 0, none⟩) (some ⟨gi, 0, none⟩) vc uc cs is wx (by omega) (by omega) (PWo.row_cap HV.out) (PWo.sp_of HV.out (by omega)) (PWo.si_of ⟨vs, HIR.out, HRS.out⟩ (by omega))).mono ?_
            rintro e w7 ⟨rfl, hb⟩
            replace HB : Hid (Below w.heap.size w w7) := HB.out.trans (hb.mono HB.out.size)
            replace HV : Hid (w7.ownsRow w.heap.size 33 2 (.slice (some ⟨gc, 0, none⟩) cs.length vc) cs.length (flat cs)) := row_below hb HV.out
            replace HIR : Hid (w7.ownsRow w.heap.size 39 3 (.slice (some ⟨gi, 0, none⟩) is.length uc) is.length (flatI is vs)) := row_below hb HIR.out
            replace HRS : Hid (IRow.Rows w7 w.heap.size is vs) := HRS.out.below hb
            replace HT : Hid (w7.ownsRow w.heap.size 36 2 (.slice ta ns.length tc) ns.length (flat ns)) := row_below hb HT.out
            replace HW : Hid (w7.heap[w1.heap.size]? = some (.cells #[.slice (some ⟨gc, 0, none⟩) cs.length vc, .slice (some ⟨gi, 0, none⟩) is.length uc] 26 (0, 0))) := below_heap hb (lt_of_heap HW.out) HW.out
            replace HI : Hid (w7.heap[w1.heap.size + 1]? = some (.cells #[.string ⟨xl.toArray⟩, .string ⟨yl.toArray⟩, .slice ta ns.length tc] 39 (0, 0))) := below_heap hb (lt_of_heap HI.out) HI.out
            replace HPR : Hid (w7.ownsRow w.heap.size 36 2 (.slice pa pn.length pc) pn.length (flat pn)) := row_below hb HPR.out
            replace HK : Hid (w7.heap[wr.heap.size]? = some (.cells #[.string ⟨pxl.toArray⟩, .string ⟨pyl.toArray⟩, .slice pa pn.length pc] 39 (0, 0))) := below_heap hb (lt_of_heap HK.out) HK.out
            clear hb
            rw [HWV.out]
            obtain ⟨i0, i1, f0, f1⟩ := PWo.k2 HW.out
            obtain ⟨j0, j1, j2, y0, y1, y2⟩ := PIn.k3 HK.out
            have hli := lt_of_heap HW.out
            have hlk := lt_of_heap HK.out
            go_wp2_with fail
            clear i0 i1 f0 f1 j0 j1 j2 y0 y1 y2
            refine (IV.InstanceValid_impl (some ⟨gc, 0, none⟩) pa vc (some ⟨gi, 0, none⟩) is.length uc pc cs pxl pyl pn w7 (by omega) (PWo.row_cap HV.out) (by omega) (by omega) (by omega) (PWo.sp_of HV.out (by omega)) (PWo.sp_of HPR.out (by omega))).mono ?_
            rintro e w8 ⟨rfl, hb⟩
            replace HB : Hid (Below w.heap.size w w8) := HB.out.trans (hb.mono HB.out.size)
            replace HV : Hid (w8.ownsRow w.heap.size 33 2 (.slice (some ⟨gc, 0, none⟩) cs.length vc) cs.length (flat cs)) := row_below hb HV.out
            replace HIR : Hid (w8.ownsRow w.heap.size 39 3 (.slice (some ⟨gi, 0, none⟩) is.length uc) is.length (flatI is vs)) := row_below hb HIR.out
            replace HRS : Hid (IRow.Rows w8 w.heap.size is vs) := HRS.out.below hb
            replace HT : Hid (w8.ownsRow w.heap.size 36 2 (.slice ta ns.length tc) ns.length (flat ns)) := row_below hb HT.out
            replace HW : Hid (w8.heap[w1.heap.size]? = some (.cells #[.slice (some ⟨gc, 0, none⟩) cs.length vc, .slice (some ⟨gi, 0, none⟩) is.length uc] 26 (0, 0))) := below_heap hb (lt_of_heap HW.out) HW.out
            replace HI : Hid (w8.heap[w1.heap.size + 1]? = some (.cells #[.string ⟨xl.toArray⟩, .string ⟨yl.toArray⟩, .slice ta ns.length tc] 39 (0, 0))) := below_heap hb (lt_of_heap HI.out) HI.out
            replace HPR : Hid (w8.ownsRow w.heap.size 36 2 (.slice pa pn.length pc) pn.length (flat pn)) := row_below hb HPR.out
            replace HK : Hid (w8.heap[wr.heap.size]? = some (.cells #[.string ⟨pxl.toArray⟩, .string ⟨pyl.toArray⟩, .slice pa pn.length pc] 39 (0, 0))) := below_heap hb (lt_of_heap HK.out) HK.out
            clear hb
            rw [IvL.each HWV.out HP.out]
            go_wp2_with fail
            go_roundg (is.length - (k + 1))
            case measure => omega
            case rel => exact ⟨k + 1, by omega, by omega, by go_num, HB.out, HV.out, HIR.out, HRS.out, HT.out, HW.out, HI.out⟩
          · have hke : k = is.length := by omega
            subst hke
            clear hq hk hlt
            cases wv2 with
            | false =>
              go_wp2_with fail
              refine wp_region_any (by kernel_rfl) ?_
              change wpAny _ _ _ _ _ _ _ (World.drew _)
              have hb : Below wr.heap.size wr wr.drew := (Below.refl _ _).drew
              replace HB : Hid (Below w.heap.size w wr.drew) := HB.out.trans (hb.mono HB.out.size)
              replace HV : Hid (wr.drew.ownsRow w.heap.size 33 2 (.slice (some ⟨gc, 0, none⟩) cs.length vc) cs.length (flat cs)) := row_below hb HV.out
              replace HIR : Hid (wr.drew.ownsRow w.heap.size 39 3 (.slice (some ⟨gi, 0, none⟩) is.length uc) is.length (flatI is vs)) := row_below hb HIR.out
              replace HRS : Hid (IRow.Rows wr.drew w.heap.size is vs) := HRS.out.below hb
              replace HT : Hid (wr.drew.ownsRow w.heap.size 36 2 (.slice ta ns.length tc) ns.length (flat ns)) := row_below hb HT.out
              replace HW : Hid (wr.drew.heap[w1.heap.size]? = some (.cells #[.slice (some ⟨gc, 0, none⟩) cs.length vc, .slice (some ⟨gi, 0, none⟩) is.length uc] 26 (0, 0))) := below_heap hb (lt_of_heap HW.out) HW.out
              replace HI : Hid (wr.drew.heap[w1.heap.size + 1]? = some (.cells #[.string ⟨xl.toArray⟩, .string ⟨yl.toArray⟩, .slice ta ns.length tc] 39 (0, 0))) := below_heap hb (lt_of_heap HI.out) HI.out
              clear hb
              generalize wr.drew = w7 at *
              refine wpAny_of_T (S := fun X => X.cell? ⟨w1.heap.size + 1, 0, none⟩ = some (.string ⟨xl.toArray⟩) ∧ X.cell? ⟨w1.heap.size + 1, 1, none⟩ = some (.string ⟨yl.toArray⟩) ∧ X.cell? ⟨w1.heap.size + 1, 2, none⟩ = some (.slice ta ns.length tc)) (m := 28) _ _ _ _ ?_
              refine wpAnyT_take (i := 0) (v := .bool false) rfl (by kernel_rfl) (by kernel_rfl) (by kernel_rfl) (by kernel_rfl) (fun _ _ _ h => h) (Or.inl ⟨by kernel_rfl, fun X hS => by obtain ⟨e0, e1, e2⟩ := hS; go_simp⟩) ⟨heap_cell HI.out 0, heap_cell HI.out 1, heap_cell HI.out 2⟩ ?_
              try go_simp
              refine wpAnyT_take (i := 1) (v := .bool true) rfl (by kernel_rfl) (by kernel_rfl) (by kernel_rfl) (by kernel_rfl) (fun _ _ _ h => h) (Or.inl ⟨by kernel_rfl, fun X hS => by obtain ⟨e0, e1, e2⟩ := hS; go_simp⟩) ⟨heap_cell HI.out 0, heap_cell HI.out 1, heap_cell HI.out 2⟩ ?_
              try go_simp
              refine wpAnyT_take (i := 2) (v := .bool true) rfl (by kernel_rfl) (by kernel_rfl) (by kernel_rfl) (by kernel_rfl) (fun _ _ _ h => h) (Or.inl ⟨by kernel_rfl, fun X hS => by obtain ⟨e0, e1, e2⟩ := hS; go_simp⟩) ⟨heap_cell HI.out 0, heap_cell HI.out 1, heap_cell HI.out 2⟩ ?_
              try go_simp
              refine wpAnyT_take (i := 3) (v := undef) rfl (by kernel_rfl) (by kernel_rfl) (by kernel_rfl) (by kernel_rfl) (fun _ _ _ h => h) (Or.inr ⟨by kernel_rfl, rfl⟩) ⟨heap_cell HI.out 0, heap_cell HI.out 1, heap_cell HI.out 2⟩ ?_
              try go_simp
              refine wpAnyT_take (i := 4) (v := undef) rfl (by kernel_rfl) (by kernel_rfl) (by kernel_rfl) (by kernel_rfl) (fun _ _ _ h => h) (Or.inr ⟨by kernel_rfl, rfl⟩) ⟨heap_cell HI.out 0, heap_cell HI.out 1, heap_cell HI.out 2⟩ ?_
              try go_simp
              refine wpAnyT_take (i := 5) (v := undef) rfl (by kernel_rfl) (by kernel_rfl) (by kernel_rfl) (by kernel_rfl) (fun _ _ _ h => h) (Or.inr ⟨by kernel_rfl, rfl⟩) ⟨heap_cell HI.out 0, heap_cell HI.out 1, heap_cell HI.out 2⟩ ?_
              try go_simp
              refine wpAnyT_take (i := 6) (v := undef) rfl (by kernel_rfl) (by kernel_rfl) (by kernel_rfl) (by kernel_rfl) (fun _ _ _ h => h) (Or.inr ⟨by kernel_rfl, rfl⟩) ⟨heap_cell HI.out 0, heap_cell HI.out 1, heap_cell HI.out 2⟩ ?_
              try go_simp
              refine wpAnyT_take (i := 7) (v := undef) rfl (by kernel_rfl) (by kernel_rfl) (by kernel_rfl) (by kernel_rfl) (fun _ _ _ h => h) (Or.inr ⟨by kernel_rfl, rfl⟩) ⟨heap_cell HI.out 0, heap_cell HI.out 1, heap_cell HI.out 2⟩ ?_
              try go_simp
              refine wpAnyT_take (i := 8) (v := undef) rfl (by kernel_rfl) (by kernel_rfl) (by kernel_rfl) (by kernel_rfl) (fun _ _ _ h => h) (Or.inr ⟨by kernel_rfl, rfl⟩) ⟨heap_cell HI.out 0, heap_cell HI.out 1, heap_cell HI.out 2⟩ ?_
              try go_simp
              refine wpAnyT_take (i := 9) (v := undef) rfl (by kernel_rfl) (by kernel_rfl) (by kernel_rfl) (by kernel_rfl) (fun _ _ _ h => h) (Or.inr ⟨by kernel_rfl, rfl⟩) ⟨heap_cell HI.out 0, heap_cell HI.out 1, heap_cell HI.out 2⟩ ?_
              try go_simp
              refine wpAnyT_take (i := 10) (v := undef) rfl (by kernel_rfl) (by kernel_rfl) (by kernel_rfl) (by kernel_rfl) (fun _ _ _ h => h) (Or.inr ⟨by kernel_rfl, rfl⟩) ⟨heap_cell HI.out 0, heap_cell HI.out 1, heap_cell HI.out 2⟩ ?_
              try go_simp
              refine wpAnyT_take (i := 11) (v := undef) rfl (by kernel_rfl) (by kernel_rfl) (by kernel_rfl) (by kernel_rfl) (fun _ _ _ h => h) (Or.inr ⟨by kernel_rfl, rfl⟩) ⟨heap_cell HI.out 0, heap_cell HI.out 1, heap_cell HI.out 2⟩ ?_
              try go_simp
              refine wpAnyT_take (i := 12) (v := undef) rfl (by kernel_rfl) (by kernel_rfl) (by kernel_rfl) (by kernel_rfl) (fun _ _ _ h => h) (Or.inr ⟨by kernel_rfl, rfl⟩) ⟨heap_cell HI.out 0, heap_cell HI.out 1, heap_cell HI.out 2⟩ ?_
              try go_simp
              refine wpAnyT_take (i := 13) (v := undef) rfl (by kernel_rfl) (by kernel_rfl) (by kernel_rfl) (by kernel_rfl) (fun _ _ _ h => h) (Or.inr ⟨by kernel_rfl, rfl⟩) ⟨heap_cell HI.out 0, heap_cell HI.out 1, heap_cell HI.out 2⟩ ?_
              try go_simp
              refine wpAnyT_take (i := 14) (v := undef) rfl (by kernel_rfl) (by kernel_rfl) (by kernel_rfl) (by kernel_rfl) (fun _ _ _ h => h) (Or.inr ⟨by kernel_rfl, rfl⟩) ⟨heap_cell HI.out 0, heap_cell HI.out 1, heap_cell HI.out 2⟩ ?_
              try go_simp
              refine wpAnyT_take (i := 15) (v := undef) rfl (by kernel_rfl) (by kernel_rfl) (by kernel_rfl) (by kernel_rfl) (fun _ _ _ h => h) (Or.inr ⟨by kernel_rfl, rfl⟩) ⟨heap_cell HI.out 0, heap_cell HI.out 1, heap_cell HI.out 2⟩ ?_
              try go_simp
              refine wpAnyT_take (i := 16) (v := undef) rfl (by kernel_rfl) (by kernel_rfl) (by kernel_rfl) (by kernel_rfl) (fun _ _ _ h => h) (Or.inr ⟨by kernel_rfl, rfl⟩) ⟨heap_cell HI.out 0, heap_cell HI.out 1, heap_cell HI.out 2⟩ ?_
              try go_simp
              refine wpAnyT_take (i := 17) (v := undef) rfl (by kernel_rfl) (by kernel_rfl) (by kernel_rfl) (by kernel_rfl) (fun _ _ _ h => h) (Or.inr ⟨by kernel_rfl, rfl⟩) ⟨heap_cell HI.out 0, heap_cell HI.out 1, heap_cell HI.out 2⟩ ?_
              try go_simp
              refine wpAnyT_take (i := 18) (v := undef) rfl (by kernel_rfl) (by kernel_rfl) (by kernel_rfl) (by kernel_rfl) (fun _ _ _ h => h) (Or.inr ⟨by kernel_rfl, rfl⟩) ⟨heap_cell HI.out 0, heap_cell HI.out 1, heap_cell HI.out 2⟩ ?_
              try go_simp
              refine wpAnyT_take (i := 19) (v := undef) rfl (by kernel_rfl) (by kernel_rfl) (by kernel_rfl) (by kernel_rfl) (fun _ _ _ h => h) (Or.inr ⟨by kernel_rfl, rfl⟩) ⟨heap_cell HI.out 0, heap_cell HI.out 1, heap_cell HI.out 2⟩ ?_
              try go_simp
              refine wpAnyT_take (i := 20) (v := undef) rfl (by kernel_rfl) (by kernel_rfl) (by kernel_rfl) (by kernel_rfl) (fun _ _ _ h => h) (Or.inr ⟨by kernel_rfl, rfl⟩) ⟨heap_cell HI.out 0, heap_cell HI.out 1, heap_cell HI.out 2⟩ ?_
              try go_simp
              refine wpAnyT_take (i := 21) (v := undef) rfl (by kernel_rfl) (by kernel_rfl) (by kernel_rfl) (by kernel_rfl) (fun _ _ _ h => h) (Or.inr ⟨by kernel_rfl, rfl⟩) ⟨heap_cell HI.out 0, heap_cell HI.out 1, heap_cell HI.out 2⟩ ?_
              try go_simp
              refine wpAnyT_take (i := 22) (v := undef) rfl (by kernel_rfl) (by kernel_rfl) (by kernel_rfl) (by kernel_rfl) (fun _ _ _ h => h) (Or.inr ⟨by kernel_rfl, rfl⟩) ⟨heap_cell HI.out 0, heap_cell HI.out 1, heap_cell HI.out 2⟩ ?_
              try go_simp
              refine wpAnyT_take (i := 23) (v := undef) rfl (by kernel_rfl) (by kernel_rfl) (by kernel_rfl) (by kernel_rfl) (fun _ _ _ h => h) (Or.inr ⟨by kernel_rfl, rfl⟩) ⟨heap_cell HI.out 0, heap_cell HI.out 1, heap_cell HI.out 2⟩ ?_
              try go_simp
              refine wpAnyT_take (i := 24) (v := undef) rfl (by kernel_rfl) (by kernel_rfl) (by kernel_rfl) (by kernel_rfl) (fun _ _ _ h => h) (Or.inr ⟨by kernel_rfl, rfl⟩) ⟨heap_cell HI.out 0, heap_cell HI.out 1, heap_cell HI.out 2⟩ ?_
              try go_simp
              refine wpAnyT_take (i := 25) (v := undef) rfl (by kernel_rfl) (by kernel_rfl) (by kernel_rfl) (by kernel_rfl) (fun _ _ _ h => h) (Or.inr ⟨by kernel_rfl, rfl⟩) ⟨heap_cell HI.out 0, heap_cell HI.out 1, heap_cell HI.out 2⟩ ?_
              try go_simp
              refine wpAnyT_take (i := 26) (v := .bool true) rfl (by kernel_rfl) (by kernel_rfl) (by kernel_rfl) (by kernel_rfl) (fun _ _ _ h => h) (Or.inl ⟨by kernel_rfl, fun X hS => by obtain ⟨e0, e1, e2⟩ := hS; go_simp⟩) ⟨heap_cell HI.out 0, heap_cell HI.out 1, heap_cell HI.out 2⟩ ?_
              try go_simp
              refine wpAnyT_take (i := 27) (v := .bool true) rfl (by kernel_rfl) (by kernel_rfl) (by kernel_rfl) (by kernel_rfl) (fun _ _ _ h => h) (Or.inl ⟨by kernel_rfl, fun X hS => by obtain ⟨e0, e1, e2⟩ := hS; go_simp⟩) ⟨heap_cell HI.out 0, heap_cell HI.out 1, heap_cell HI.out 2⟩ ?_
              try go_simp
              refine wpAnyT_drop _ 28 _ _ _ (by decide) (by kernel_rfl) ?_
              change wpList _ _ _ [] _ _
              go_wp2
              go_ret
              exact ⟨rfl, HB.out⟩
            | true =>
              go_wp2_with fail
              obtain ⟨hty, hnl, hvs⟩ := IvL.inst HIV.out
              have HTV := hid (fun W => TypeValid_impl yl W (by unfold maxLen; omega))
              rw [hty] at HTV
              have HVS := hid hvs
              obtain ⟨hs1, hs2⟩ := IvL.size_small yl (by omega)
              have HS1 := hid hs1
              have HS2 := hid hs2
              obtain ⟨sz, hsz⟩ : ∃ s, s = sizeI yl := ⟨_, rfl⟩
              have HSO := hid (fun W => SizeOf_impl yl W (by omega))
              rw [← hsz] at HVS HS1 HS2 HSO
              obtain ⟨vl, hvl⟩ : ∃ s, s = varsL yl := ⟨_, rfl⟩
              have HVO := hid (fun W => VarsOf_impl yl W (by omega))
              rw [← hvl] at HVS HVO
              have hvl6 : vl.length ≤ 6 := by rw [hvl]; exact varsL_len yl
              clear hty hvs hs1 hs2 hsz hvl
              refine wp_region_any (by kernel_rfl) ?_
              change wpAny _ _ _ _ _ _ _ (World.drew _)
              have hb : Below wr.heap.size wr wr.drew := (Below.refl _ _).drew
              replace HB : Hid (Below w.heap.size w wr.drew) := HB.out.trans (hb.mono HB.out.size)
              replace HV : Hid (wr.drew.ownsRow w.heap.size 33 2 (.slice (some ⟨gc, 0, none⟩) cs.length vc) cs.length (flat cs)) := row_below hb HV.out
              replace HIR : Hid (wr.drew.ownsRow w.heap.size 39 3 (.slice (some ⟨gi, 0, none⟩) is.length uc) is.length (flatI is vs)) := row_below hb HIR.out
              replace HRS : Hid (IRow.Rows wr.drew w.heap.size is vs) := HRS.out.below hb
              replace HT : Hid (wr.drew.ownsRow w.heap.size 36 2 (.slice ta ns.length tc) ns.length (flat ns)) := row_below hb HT.out
              replace HW : Hid (wr.drew.heap[w1.heap.size]? = some (.cells #[.slice (some ⟨gc, 0, none⟩) cs.length vc, .slice (some ⟨gi, 0, none⟩) is.length uc] 26 (0, 0))) := below_heap hb (lt_of_heap HW.out) HW.out
              replace HI : Hid (wr.drew.heap[w1.heap.size + 1]? = some (.cells #[.string ⟨xl.toArray⟩, .string ⟨yl.toArray⟩, .slice ta ns.length tc] 39 (0, 0))) := below_heap hb (lt_of_heap HI.out) HI.out
              clear hb
              generalize wr.drew = w7 at *
              refine wpAny_of_T (S := fun X => X.cell? ⟨w1.heap.size + 1, 0, none⟩ = some (.string ⟨xl.toArray⟩) ∧ X.cell? ⟨w1.heap.size + 1, 1, none⟩ = some (.string ⟨yl.toArray⟩) ∧ X.cell? ⟨w1.heap.size + 1, 2, none⟩ = some (.slice ta ns.length tc)) (m := 28) _ _ _ _ ?_
              refine wpAnyT_take (i := 0) (v := .bool true) rfl (by kernel_rfl) (by kernel_rfl) (by kernel_rfl) (by kernel_rfl) (fun _ _ _ h => h) (Or.inl ⟨by kernel_rfl, fun X hS => by obtain ⟨e0, e1, e2⟩ := hS; go_simp⟩) ⟨heap_cell HI.out 0, heap_cell HI.out 1, heap_cell HI.out 2⟩ ?_
              try go_simp
              refine wpAnyT_take (i := 1) (v := .bool false) rfl (by kernel_rfl) (by kernel_rfl) (by kernel_rfl) (by kernel_rfl) (fun _ _ _ h => h) (Or.inl ⟨by kernel_rfl, fun X hS => by obtain ⟨e0, e1, e2⟩ := hS; go_simp⟩) ⟨heap_cell HI.out 0, heap_cell HI.out 1, heap_cell HI.out 2⟩ ?_
              try go_simp
              refine wpAnyT_take (i := 2) (v := .bool false) rfl (by kernel_rfl) (by kernel_rfl) (by kernel_rfl) (by kernel_rfl) (fun _ _ _ h => h) (Or.inl ⟨by kernel_rfl, fun X hS => by obtain ⟨e0, e1, e2⟩ := hS; go_simp⟩) ⟨heap_cell HI.out 0, heap_cell HI.out 1, heap_cell HI.out 2⟩ ?_
              try go_simp
              refine wpAnyT_take (i := 3) (v := .pointer (some ⟨w1.heap.size + 1, 0, none⟩)) rfl (by kernel_rfl) (by kernel_rfl) (by kernel_rfl) (by kernel_rfl) (fun _ _ _ h => h) (Or.inl ⟨by kernel_rfl, fun X hS => by obtain ⟨e0, e1, e2⟩ := hS; go_simp⟩) ⟨heap_cell HI.out 0, heap_cell HI.out 1, heap_cell HI.out 2⟩ ?_
              try go_simp
              refine wpAnyT_take (i := 4) (v := .pointer (some ⟨w1.heap.size + 1, 1, none⟩)) rfl (by kernel_rfl) (by kernel_rfl) (by kernel_rfl) (by kernel_rfl) (fun _ _ _ h => h) (Or.inl ⟨by kernel_rfl, fun X hS => by obtain ⟨e0, e1, e2⟩ := hS; go_simp⟩) ⟨heap_cell HI.out 0, heap_cell HI.out 1, heap_cell HI.out 2⟩ ?_
              try go_simp
              refine wpAnyT_take (i := 5) (v := .string ⟨yl.toArray⟩) rfl (by kernel_rfl) (by kernel_rfl) (by kernel_rfl) (by kernel_rfl) (fun _ _ _ h => h) (Or.inl ⟨by kernel_rfl, fun X hS => by obtain ⟨e0, e1, e2⟩ := hS; go_simp⟩) ⟨heap_cell HI.out 0, heap_cell HI.out 1, heap_cell HI.out 2⟩ ?_
              try go_simp
              refine wpAnyT_one 6 rfl (by kernel_rfl) (fun K hK => ?_)
              go_simp
              refine (HTV.out w7).mono ?_
              rintro e w8 ⟨rfl, hb⟩
              replace HB : Hid (Below w.heap.size w w8) := HB.out.trans (hb.mono HB.out.size)
              replace HV : Hid (w8.ownsRow w.heap.size 33 2 (.slice (some ⟨gc, 0, none⟩) cs.length vc) cs.length (flat cs)) := row_below hb HV.out
              replace HIR : Hid (w8.ownsRow w.heap.size 39 3 (.slice (some ⟨gi, 0, none⟩) is.length uc) is.length (flatI is vs)) := row_below hb HIR.out
              replace HRS : Hid (IRow.Rows w8 w.heap.size is vs) := HRS.out.below hb
              replace HT : Hid (w8.ownsRow w.heap.size 36 2 (.slice ta ns.length tc) ns.length (flat ns)) := row_below hb HT.out
              replace HW : Hid (w8.heap[w1.heap.size]? = some (.cells #[.slice (some ⟨gc, 0, none⟩) cs.length vc, .slice (some ⟨gi, 0, none⟩) is.length uc] 26 (0, 0))) := below_heap hb (lt_of_heap HW.out) HW.out
              replace HI : Hid (w8.heap[w1.heap.size + 1]? = some (.cells #[.string ⟨xl.toArray⟩, .string ⟨yl.toArray⟩, .slice ta ns.length tc] 39 (0, 0))) := below_heap hb (lt_of_heap HI.out) HI.out
              clear hb
              refine hK _ _ (fun _ => ⟨heap_cell HI.out 0, heap_cell HI.out 1, heap_cell HI.out 2⟩) ?_
              clear hK K
              refine wpAnyT_take (i := 7) (v := .bool true) rfl (by kernel_rfl) (by kernel_rfl) (by kernel_rfl) (by kernel_rfl) (fun _ _ _ h => h) (Or.inl ⟨by kernel_rfl, fun X hS => by obtain ⟨e0, e1, e2⟩ := hS; go_simp⟩) ⟨heap_cell HI.out 0, heap_cell HI.out 1, heap_cell HI.out 2⟩ ?_
              try go_simp
              refine wpAnyT_take (i := 8) (v := .pointer (some ⟨w1.heap.size + 1, 0, none⟩)) rfl (by kernel_rfl) (by kernel_rfl) (by kernel_rfl) (by kernel_rfl) (fun _ _ _ h => h) (Or.inl ⟨by kernel_rfl, fun X hS => by obtain ⟨e0, e1, e2⟩ := hS; go_simp⟩) ⟨heap_cell HI.out 0, heap_cell HI.out 1, heap_cell HI.out 2⟩ ?_
              try go_simp
              refine wpAnyT_take (i := 9) (v := .pointer (some ⟨w1.heap.size + 1, 1, none⟩)) rfl (by kernel_rfl) (by kernel_rfl) (by kernel_rfl) (by kernel_rfl) (fun _ _ _ h => h) (Or.inl ⟨by kernel_rfl, fun X hS => by obtain ⟨e0, e1, e2⟩ := hS; go_simp⟩) ⟨heap_cell HI.out 0, heap_cell HI.out 1, heap_cell HI.out 2⟩ ?_
              try go_simp
              refine wpAnyT_take (i := 10) (v := .string ⟨yl.toArray⟩) rfl (by kernel_rfl) (by kernel_rfl) (by kernel_rfl) (by kernel_rfl) (fun _ _ _ h => h) (Or.inl ⟨by kernel_rfl, fun X hS => by obtain ⟨e0, e1, e2⟩ := hS; go_simp⟩) ⟨heap_cell HI.out 0, heap_cell HI.out 1, heap_cell HI.out 2⟩ ?_
              try go_simp
              refine wpAnyT_take (i := 13) (v := .pointer (some ⟨w1.heap.size + 1, 0, none⟩)) rfl (by kernel_rfl) (by kernel_rfl) (by kernel_rfl) (by kernel_rfl) (fun _ _ _ h => h) (Or.inl ⟨by kernel_rfl, fun X hS => by obtain ⟨e0, e1, e2⟩ := hS; go_simp⟩) ⟨heap_cell HI.out 0, heap_cell HI.out 1, heap_cell HI.out 2⟩ ?_
              try go_simp
              refine wpAnyT_take (i := 14) (v := .pointer (some ⟨w1.heap.size + 1, 1, none⟩)) rfl (by kernel_rfl) (by kernel_rfl) (by kernel_rfl) (by kernel_rfl) (fun _ _ _ h => h) (Or.inl ⟨by kernel_rfl, fun X hS => by obtain ⟨e0, e1, e2⟩ := hS; go_simp⟩) ⟨heap_cell HI.out 0, heap_cell HI.out 1, heap_cell HI.out 2⟩ ?_
              try go_simp
              refine wpAnyT_take (i := 15) (v := .string ⟨yl.toArray⟩) rfl (by kernel_rfl) (by kernel_rfl) (by kernel_rfl) (by kernel_rfl) (fun _ _ _ h => h) (Or.inl ⟨by kernel_rfl, fun X hS => by obtain ⟨e0, e1, e2⟩ := hS; go_simp⟩) ⟨heap_cell HI.out 0, heap_cell HI.out 1, heap_cell HI.out 2⟩ ?_
              try go_simp
              refine wpAnyT_one 11 rfl (by kernel_rfl) (fun K hK => ?_)
              go_simp
              refine (HVO.out w8).mono ?_
              rintro e w9 ⟨rfl, hb⟩
              replace HB : Hid (Below w.heap.size w w9) := HB.out.trans (hb.mono HB.out.size)
              replace HV : Hid (w9.ownsRow w.heap.size 33 2 (.slice (some ⟨gc, 0, none⟩) cs.length vc) cs.length (flat cs)) := row_below hb HV.out
              replace HIR : Hid (w9.ownsRow w.heap.size 39 3 (.slice (some ⟨gi, 0, none⟩) is.length uc) is.length (flatI is vs)) := row_below hb HIR.out
              replace HRS : Hid (IRow.Rows w9 w.heap.size is vs) := HRS.out.below hb
              replace HT : Hid (w9.ownsRow w.heap.size 36 2 (.slice ta ns.length tc) ns.length (flat ns)) := row_below hb HT.out
              replace HW : Hid (w9.heap[w1.heap.size]? = some (.cells #[.slice (some ⟨gc, 0, none⟩) cs.length vc, .slice (some ⟨gi, 0, none⟩) is.length uc] 26 (0, 0))) := below_heap hb (lt_of_heap HW.out) HW.out
              replace HI : Hid (w9.heap[w1.heap.size + 1]? = some (.cells #[.string ⟨xl.toArray⟩, .string ⟨yl.toArray⟩, .slice ta ns.length tc] 39 (0, 0))) := below_heap hb (lt_of_heap HI.out) HI.out
              clear hb
              refine hK _ _ (fun _ => ⟨heap_cell HI.out 0, heap_cell HI.out 1, heap_cell HI.out 2⟩) ?_
              clear hK K
              refine wpAnyT_take (i := 12) (v := .int .i64 vl.length) rfl (by kernel_rfl) (by kernel_rfl) (by kernel_rfl) (by kernel_rfl) (fun _ _ _ h => h) (Or.inl ⟨by kernel_rfl, fun X hS => by obtain ⟨e0, e1, e2⟩ := hS; go_simp⟩) ⟨heap_cell HI.out 0, heap_cell HI.out 1, heap_cell HI.out 2⟩ ?_
              try go_simp
              refine wpAnyT_one 16 rfl (by kernel_rfl) (fun K hK => ?_)
              go_simp
              refine (HSO.out w9).mono ?_
              rintro e w10 ⟨rfl, hb⟩
              replace HB : Hid (Below w.heap.size w w10) := HB.out.trans (hb.mono HB.out.size)
              replace HV : Hid (w10.ownsRow w.heap.size 33 2 (.slice (some ⟨gc, 0, none⟩) cs.length vc) cs.length (flat cs)) := row_below hb HV.out
              replace HIR : Hid (w10.ownsRow w.heap.size 39 3 (.slice (some ⟨gi, 0, none⟩) is.length uc) is.length (flatI is vs)) := row_below hb HIR.out
              replace HRS : Hid (IRow.Rows w10 w.heap.size is vs) := HRS.out.below hb
              replace HT : Hid (w10.ownsRow w.heap.size 36 2 (.slice ta ns.length tc) ns.length (flat ns)) := row_below hb HT.out
              replace HW : Hid (w10.heap[w1.heap.size]? = some (.cells #[.slice (some ⟨gc, 0, none⟩) cs.length vc, .slice (some ⟨gi, 0, none⟩) is.length uc] 26 (0, 0))) := below_heap hb (lt_of_heap HW.out) HW.out
              replace HI : Hid (w10.heap[w1.heap.size + 1]? = some (.cells #[.string ⟨xl.toArray⟩, .string ⟨yl.toArray⟩, .slice ta ns.length tc] 39 (0, 0))) := below_heap hb (lt_of_heap HI.out) HI.out
              clear hb
              refine hK _ _ (fun _ => ⟨heap_cell HI.out 0, heap_cell HI.out 1, heap_cell HI.out 2⟩) ?_
              clear hK K
              refine wpAnyT_take (i := 17) (v := .int .i64 (sz + 1)) rfl (by kernel_rfl) (by kernel_rfl) (by kernel_rfl) (by kernel_rfl) (fun _ _ _ h => h) (Or.inl ⟨by kernel_rfl, fun X hS => by obtain ⟨e0, e1, e2⟩ := hS; go_simp; rw [IntKind.wrap_i64]; have := HS1.out; have := HS2.out; omega⟩) ⟨heap_cell HI.out 0, heap_cell HI.out 1, heap_cell HI.out 2⟩ ?_
              try go_simp
              refine wpAnyT_take (i := 18) (v := .bool true) rfl (by kernel_rfl) (by kernel_rfl) (by kernel_rfl) (by kernel_rfl) (fun _ _ _ h => h) (Or.inl ⟨by kernel_rfl, fun X hS => by obtain ⟨e0, e1, e2⟩ := hS; go_simp; first | exact HVS.out | (have := HVS.out; omega)⟩) ⟨heap_cell HI.out 0, heap_cell HI.out 1, heap_cell HI.out 2⟩ ?_
              try go_simp
              refine wpAnyT_take (i := 19) (v := .bool true) rfl (by kernel_rfl) (by kernel_rfl) (by kernel_rfl) (by kernel_rfl) (fun _ _ _ h => h) (Or.inl ⟨by kernel_rfl, fun X hS => by obtain ⟨e0, e1, e2⟩ := hS; go_simp⟩) ⟨heap_cell HI.out 0, heap_cell HI.out 1, heap_cell HI.out 2⟩ ?_
              try go_simp
              refine wpAnyT_take (i := 20) (v := .bool true) rfl (by kernel_rfl) (by kernel_rfl) (by kernel_rfl) (by kernel_rfl) (fun _ _ _ h => h) (Or.inl ⟨by kernel_rfl, fun X hS => by obtain ⟨e0, e1, e2⟩ := hS; go_simp⟩) ⟨heap_cell HI.out 0, heap_cell HI.out 1, heap_cell HI.out 2⟩ ?_
              try go_simp
              refine wpAnyT_take (i := 21) (v := .pointer (some ⟨w1.heap.size + 1, 2, none⟩)) rfl (by kernel_rfl) (by kernel_rfl) (by kernel_rfl) (by kernel_rfl) (fun _ _ _ h => h) (Or.inl ⟨by kernel_rfl, fun X hS => by obtain ⟨e0, e1, e2⟩ := hS; go_simp⟩) ⟨heap_cell HI.out 0, heap_cell HI.out 1, heap_cell HI.out 2⟩ ?_
              try go_simp
              refine wpAnyT_take (i := 22) (v := .slice ta ns.length tc) rfl (by kernel_rfl) (by kernel_rfl) (by kernel_rfl) (by kernel_rfl) (fun _ _ _ h => h) (Or.inl ⟨by kernel_rfl, fun X hS => by obtain ⟨e0, e1, e2⟩ := hS; go_simp⟩) ⟨heap_cell HI.out 0, heap_cell HI.out 1, heap_cell HI.out 2⟩ ?_
              try go_simp
              refine wpAnyT_take (i := 23) (v := .int .i64 ns.length) rfl (by kernel_rfl) (by kernel_rfl) (by kernel_rfl) (by kernel_rfl) (fun _ _ _ h => h) (Or.inl ⟨by kernel_rfl, fun X hS => by obtain ⟨e0, e1, e2⟩ := hS; go_simp⟩) ⟨heap_cell HI.out 0, heap_cell HI.out 1, heap_cell HI.out 2⟩ ?_
              try go_simp
              refine wpAnyT_take (i := 24) (v := .bool true) rfl (by kernel_rfl) (by kernel_rfl) (by kernel_rfl) (by kernel_rfl) (fun _ _ _ h => h) (Or.inl ⟨by kernel_rfl, fun X hS => by obtain ⟨e0, e1, e2⟩ := hS; go_simp; omega⟩) ⟨heap_cell HI.out 0, heap_cell HI.out 1, heap_cell HI.out 2⟩ ?_
              try go_simp
              refine wpAnyT_take (i := 25) (v := .bool true) rfl (by kernel_rfl) (by kernel_rfl) (by kernel_rfl) (by kernel_rfl) (fun _ _ _ h => h) (Or.inl ⟨by kernel_rfl, fun X hS => by obtain ⟨e0, e1, e2⟩ := hS; go_simp⟩) ⟨heap_cell HI.out 0, heap_cell HI.out 1, heap_cell HI.out 2⟩ ?_
              try go_simp
              refine wpAnyT_take (i := 26) (v := .bool true) rfl (by kernel_rfl) (by kernel_rfl) (by kernel_rfl) (by kernel_rfl) (fun _ _ _ h => h) (Or.inl ⟨by kernel_rfl, fun X hS => by obtain ⟨e0, e1, e2⟩ := hS; go_simp⟩) ⟨heap_cell HI.out 0, heap_cell HI.out 1, heap_cell HI.out 2⟩ ?_
              try go_simp
              refine wpAnyT_take (i := 27) (v := .bool true) rfl (by kernel_rfl) (by kernel_rfl) (by kernel_rfl) (by kernel_rfl) (fun _ _ _ h => h) (Or.inl ⟨by kernel_rfl, fun X hS => by obtain ⟨e0, e1, e2⟩ := hS; go_simp⟩) ⟨heap_cell HI.out 0, heap_cell HI.out 1, heap_cell HI.out 2⟩ ?_
              try go_simp
              refine wpAnyT_drop _ 28 _ _ _ (by decide) (by kernel_rfl) ?_
              change wpList _ _ _ [] _ _
              go_wp2
              go_ret
              exact ⟨rfl, HB.out⟩
      · obtain ⟨i0, i1, f0, f1⟩ := PWo.k2 HW.out
        obtain ⟨j0, j1, j2, y0, y1, y2⟩ := PIn.k3 HI.out
        have hli := lt_of_heap HW.out
        have hlk := lt_of_heap HI.out
        go_wp2_with fail
        clear i0 i1 f0 f1 j0 j1 j2 y0 y1 y2 hli hlk
        refine (WV.WorldValid_impl (some ⟨gc, 0, none⟩) (some ⟨gi, 0, none⟩) vc uc cs is w5 (by omega) (by omega) (PWo.row_cap HV.out) (PWo.sp_of HV.out (by omega)) (PWo.si_of ⟨vs, HIR.out, HRS.out⟩ (by omega))).mono ?_
        rintro e w6 ⟨rfl, hb⟩
        replace HB : Hid (Below w.heap.size w w6) := HB.out.trans (hb.mono HB.out.size)
        replace HV : Hid (w6.ownsRow w.heap.size 33 2 (.slice (some ⟨gc, 0, none⟩) cs.length vc) cs.length (flat cs)) := row_below hb HV.out
        replace HIR : Hid (w6.ownsRow w.heap.size 39 3 (.slice (some ⟨gi, 0, none⟩) is.length uc) is.length (flatI is vs)) := row_below hb HIR.out
        replace HRS : Hid (IRow.Rows w6 w.heap.size is vs) := HRS.out.below hb
        replace HT : Hid (w6.ownsRow w.heap.size 36 2 (.slice ta ns.length tc) ns.length (flat ns)) := row_below hb HT.out
        replace HW : Hid (w6.heap[w1.heap.size]? = some (.cells #[.slice (some ⟨gc, 0, none⟩) cs.length vc, .slice (some ⟨gi, 0, none⟩) is.length uc] 26 (0, 0))) := below_heap hb (lt_of_heap HW.out) HW.out
        replace HI : Hid (w6.heap[w1.heap.size + 1]? = some (.cells #[.string ⟨xl.toArray⟩, .string ⟨yl.toArray⟩, .slice ta ns.length tc] 39 (0, 0))) := below_heap hb (lt_of_heap HI.out) HI.out
        clear hb
        rw [HWV.out]
        obtain ⟨i0, i1, f0, f1⟩ := PWo.k2 HW.out
        have hli := lt_of_heap HW.out
        go_wp2_with fail
        clear i0 i1 f0 f1 hli
        go_loopg [54] is.length (fun q i wr => ∃ k : Nat, k ≤ is.length ∧ is.length - k ≤ q ∧ i = .int .i64 k ∧ Hid (Below w.heap.size w wr) ∧ Hid (wr.ownsRow w.heap.size 33 2 (.slice (some ⟨gc, 0, none⟩) cs.length vc) cs.length (flat cs)) ∧ Hid (wr.ownsRow w.heap.size 39 3 (.slice (some ⟨gi, 0, none⟩) is.length uc) is.length (flatI is vs)) ∧ Hid (IRow.Rows wr w.heap.size is vs) ∧ Hid (wr.ownsRow w.heap.size 36 2 (.slice ta ns.length tc) ns.length (flat ns)) ∧ Hid (wr.heap[w1.heap.size]? = some (.cells #[.slice (some ⟨gc, 0, none⟩) cs.length vc, .slice (some ⟨gi, 0, none⟩) is.length uc] 26 (0, 0))) ∧ Hid (wr.heap[w1.heap.size + 1]? = some (.cells #[.string ⟨xl.toArray⟩, .string ⟨yl.toArray⟩, .slice ta ns.length tc] 39 (0, 0))))
        case atStart => exact ⟨0, Nat.zero_le _, by simp, rfl, HB.out, HV.out, HIR.out, HRS.out, HT.out, HW.out, HI.out⟩
        case round =>
          clear HB HV HIR HRS HT HW HI
          obtain ⟨k, hk, hq, rfl, hHB, hHV, hHIR, hHRS, hHT, hHW, hHI⟩ := hrel
          have HB := hid hHB.out
          have HV := hid hHV.out
          have HIR := hid hHIR.out
          have HRS := hid hHRS.out
          have HT := hid hHT.out
          have HW := hid hHW.out
          have HI := hid hHI.out
          clear hHB hHV hHIR hHRS hHT hHW hHI
          by_cases hlt : k < is.length
          · obtain ⟨⟨px, py, pn⟩, hp⟩ : ∃ p, is[k]? = some p := ⟨_, List.getElem?_eq_getElem hlt⟩
            obtain ⟨pu, hpu⟩ : ∃ u, vs[k]? = some u := ⟨_, List.getElem?_eq_getElem (by have := HRS.out.1; omega)⟩
            obtain ⟨q0, q1, q2⟩ := flatI_get is vs k _ _ HRS.out.1 hp hpu
            have HPR := hid (HRS.out.2.1 k _ _ hp hpu)
            obtain ⟨pa, pc, rfl⟩ := row_slice HPR.out
            obtain ⟨pxl, rfl, hpx⟩ := bytes px
            obtain ⟨pyl, rfl, hpy⟩ := bytes py
            have hiw : (ByteArray.mk pxl.toArray).size + (ByteArray.mk pyl.toArray).size + pn.length + tot pn ≤ itot is := PWo.itot_at is k _ hp
            have hpx2 : pxl.length ≤ 8000 := by omega
            have hpy2 : pyl.length ≤ 8000 := by omega
            have hpn2 : tot pn + pn.length ≤ 8000 := by omega
            have c0 := row_cell HIR.out _ q0
            have c1 := row_cell HIR.out _ q1
            have c2 := row_cell HIR.out _ q2
            have HP := hid hp
            clear hp hpu q0 q1 q2 hiw hpx hpy
            obtain ⟨i0, i1, f0, f1⟩ := PWo.k2 HW.out
            have hli := lt_of_heap HW.out
            have hzz := HB.out.size
            have hb : Below wr.heap.size wr (wr.alloc (.cells #[.string ⟨pxl.toArray⟩, .string ⟨pyl.toArray⟩, .slice pa pn.length pc] 39)) := (Below.refl _ _).alloc (Nat.le_refl _) _
            replace HB : Hid (Below w.heap.size w (wr.alloc (.cells #[.string ⟨pxl.toArray⟩, .string ⟨pyl.toArray⟩, .slice pa pn.length pc] 39))) := HB.out.trans (hb.mono HB.out.size)
            replace HV : Hid ((wr.alloc (.cells #[.string ⟨pxl.toArray⟩, .string ⟨pyl.toArray⟩, .slice pa pn.length pc] 39)).ownsRow w.heap.size 33 2 (.slice (some ⟨gc, 0, none⟩) cs.length vc) cs.length (flat cs)) := row_below hb HV.out
            replace HIR : Hid ((wr.alloc (.cells #[.string ⟨pxl.toArray⟩, .string ⟨pyl.toArray⟩, .slice pa pn.length pc] 39)).ownsRow w.heap.size 39 3 (.slice (some ⟨gi, 0, none⟩) is.length uc) is.length (flatI is vs)) := row_below hb HIR.out
            replace HRS : Hid (IRow.Rows (wr.alloc (.cells #[.string ⟨pxl.toArray⟩, .string ⟨pyl.toArray⟩, .slice pa pn.length pc] 39)) w.heap.size is vs) := HRS.out.below hb
            replace HT : Hid ((wr.alloc (.cells #[.string ⟨pxl.toArray⟩, .string ⟨pyl.toArray⟩, .slice pa pn.length pc] 39)).ownsRow w.heap.size 36 2 (.slice ta ns.length tc) ns.length (flat ns)) := row_below hb HT.out
            replace HW : Hid ((wr.alloc (.cells #[.string ⟨pxl.toArray⟩, .string ⟨pyl.toArray⟩, .slice pa pn.length pc] 39)).heap[w1.heap.size]? = some (.cells #[.slice (some ⟨gc, 0, none⟩) cs.length vc, .slice (some ⟨gi, 0, none⟩) is.length uc] 26 (0, 0))) := below_heap hb (lt_of_heap HW.out) HW.out
            replace HI : Hid ((wr.alloc (.cells #[.string ⟨pxl.toArray⟩, .string ⟨pyl.toArray⟩, .slice pa pn.length pc] 39)).heap[w1.heap.size + 1]? = some (.cells #[.string ⟨xl.toArray⟩, .string ⟨yl.toArray⟩, .slice ta ns.length tc] 39 (0, 0))) := below_heap hb (lt_of_heap HI.out) HI.out
            replace HPR : Hid ((wr.alloc (.cells #[.string ⟨pxl.toArray⟩, .string ⟨pyl.toArray⟩, .slice pa pn.length pc] 39)).ownsRow w.heap.size 36 2 (.slice pa pn.length pc) pn.length (flat pn)) := row_below hb HPR.out
            have HK : Hid ((wr.alloc (.cells #[.string ⟨pxl.toArray⟩, .string ⟨pyl.toArray⟩, .slice pa pn.length pc] 39)).heap[wr.heap.size]? = some (.cells #[.string ⟨pxl.toArray⟩, .string ⟨pyl.toArray⟩, .slice pa pn.length pc] 39 (0, 0))) := heap_alloc_new _ _
            clear hb
            go_wp2_with fail
            clear c0 c1 c2 i0 i1 f0 f1
            generalize (wr.alloc (.cells #[.string ⟨pxl.toArray⟩, .string ⟨pyl.toArray⟩, .slice pa pn.length pc] 39)) = wx at *
            refine (WV.WorldValid_impl (some ⟨gc, 0, none⟩) (some ⟨gi, 0, none⟩) vc uc cs is wx (by omega) (by omega) (PWo.row_cap HV.out) (PWo.sp_of HV.out (by omega)) (PWo.si_of ⟨vs, HIR.out, HRS.out⟩ (by omega))).mono ?_
            rintro e w7 ⟨rfl, hb⟩
            replace HB : Hid (Below w.heap.size w w7) := HB.out.trans (hb.mono HB.out.size)
            replace HV : Hid (w7.ownsRow w.heap.size 33 2 (.slice (some ⟨gc, 0, none⟩) cs.length vc) cs.length (flat cs)) := row_below hb HV.out
            replace HIR : Hid (w7.ownsRow w.heap.size 39 3 (.slice (some ⟨gi, 0, none⟩) is.length uc) is.length (flatI is vs)) := row_below hb HIR.out
            replace HRS : Hid (IRow.Rows w7 w.heap.size is vs) := HRS.out.below hb
            replace HT : Hid (w7.ownsRow w.heap.size 36 2 (.slice ta ns.length tc) ns.length (flat ns)) := row_below hb HT.out
            replace HW : Hid (w7.heap[w1.heap.size]? = some (.cells #[.slice (some ⟨gc, 0, none⟩) cs.length vc, .slice (some ⟨gi, 0, none⟩) is.length uc] 26 (0, 0))) := below_heap hb (lt_of_heap HW.out) HW.out
            replace HI : Hid (w7.heap[w1.heap.size + 1]? = some (.cells #[.string ⟨xl.toArray⟩, .string ⟨yl.toArray⟩, .slice ta ns.length tc] 39 (0, 0))) := below_heap hb (lt_of_heap HI.out) HI.out
            replace HPR : Hid (w7.ownsRow w.heap.size 36 2 (.slice pa pn.length pc) pn.length (flat pn)) := row_below hb HPR.out
            replace HK : Hid (w7.heap[wr.heap.size]? = some (.cells #[.string ⟨pxl.toArray⟩, .string ⟨pyl.toArray⟩, .slice pa pn.length pc] 39 (0, 0))) := below_heap hb (lt_of_heap HK.out) HK.out
            clear hb
            rw [HWV.out]
            obtain ⟨i0, i1, f0, f1⟩ := PWo.k2 HW.out
            obtain ⟨j0, j1, j2, y0, y1, y2⟩ := PIn.k3 HK.out
            have hli := lt_of_heap HW.out
            have hlk := lt_of_heap HK.out
            go_wp2_with fail
            clear i0 i1 f0 f1 j0 j1 j2 y0 y1 y2
            refine (IV.InstanceValid_impl (some ⟨gc, 0, none⟩) pa vc (some ⟨gi, 0, none⟩) is.length uc pc cs pxl pyl pn w7 (by omega) (PWo.row_cap HV.out) (by omega) (by omega) (by omega) (PWo.sp_of HV.out (by omega)) (PWo.sp_of HPR.out (by omega))).mono ?_
            rintro e w8 ⟨rfl, hb⟩
            replace HB : Hid (Below w.heap.size w w8) := HB.out.trans (hb.mono HB.out.size)
            replace HV : Hid (w8.ownsRow w.heap.size 33 2 (.slice (some ⟨gc, 0, none⟩) cs.length vc) cs.length (flat cs)) := row_below hb HV.out
            replace HIR : Hid (w8.ownsRow w.heap.size 39 3 (.slice (some ⟨gi, 0, none⟩) is.length uc) is.length (flatI is vs)) := row_below hb HIR.out
            replace HRS : Hid (IRow.Rows w8 w.heap.size is vs) := HRS.out.below hb
            replace HT : Hid (w8.ownsRow w.heap.size 36 2 (.slice ta ns.length tc) ns.length (flat ns)) := row_below hb HT.out
            replace HW : Hid (w8.heap[w1.heap.size]? = some (.cells #[.slice (some ⟨gc, 0, none⟩) cs.length vc, .slice (some ⟨gi, 0, none⟩) is.length uc] 26 (0, 0))) := below_heap hb (lt_of_heap HW.out) HW.out
            replace HI : Hid (w8.heap[w1.heap.size + 1]? = some (.cells #[.string ⟨xl.toArray⟩, .string ⟨yl.toArray⟩, .slice ta ns.length tc] 39 (0, 0))) := below_heap hb (lt_of_heap HI.out) HI.out
            replace HPR : Hid (w8.ownsRow w.heap.size 36 2 (.slice pa pn.length pc) pn.length (flat pn)) := row_below hb HPR.out
            replace HK : Hid (w8.heap[wr.heap.size]? = some (.cells #[.string ⟨pxl.toArray⟩, .string ⟨pyl.toArray⟩, .slice pa pn.length pc] 39 (0, 0))) := below_heap hb (lt_of_heap HK.out) HK.out
            clear hb
            rw [IvL.each HWV.out HP.out]
            go_wp2_with fail
            go_roundg (is.length - (k + 1))
            case measure => omega
            case rel => exact ⟨k + 1, by omega, by omega, by go_num, HB.out, HV.out, HIR.out, HRS.out, HT.out, HW.out, HI.out⟩
          · have hke : k = is.length := by omega
            subst hke
            clear hq hk hlt
            cases iv with
            | false =>
              go_wp2_with fail
              refine wp_region_any (by kernel_rfl) ?_
              change wpAny _ _ _ _ _ _ _ (World.drew _)
              have hb : Below wr.heap.size wr wr.drew := (Below.refl _ _).drew
              replace HB : Hid (Below w.heap.size w wr.drew) := HB.out.trans (hb.mono HB.out.size)
              replace HV : Hid (wr.drew.ownsRow w.heap.size 33 2 (.slice (some ⟨gc, 0, none⟩) cs.length vc) cs.length (flat cs)) := row_below hb HV.out
              replace HIR : Hid (wr.drew.ownsRow w.heap.size 39 3 (.slice (some ⟨gi, 0, none⟩) is.length uc) is.length (flatI is vs)) := row_below hb HIR.out
              replace HRS : Hid (IRow.Rows wr.drew w.heap.size is vs) := HRS.out.below hb
              replace HT : Hid (wr.drew.ownsRow w.heap.size 36 2 (.slice ta ns.length tc) ns.length (flat ns)) := row_below hb HT.out
              replace HW : Hid (wr.drew.heap[w1.heap.size]? = some (.cells #[.slice (some ⟨gc, 0, none⟩) cs.length vc, .slice (some ⟨gi, 0, none⟩) is.length uc] 26 (0, 0))) := below_heap hb (lt_of_heap HW.out) HW.out
              replace HI : Hid (wr.drew.heap[w1.heap.size + 1]? = some (.cells #[.string ⟨xl.toArray⟩, .string ⟨yl.toArray⟩, .slice ta ns.length tc] 39 (0, 0))) := below_heap hb (lt_of_heap HI.out) HI.out
              clear hb
              generalize wr.drew = w7 at *
              refine wpAny_of_T (S := fun X => X.cell? ⟨w1.heap.size + 1, 0, none⟩ = some (.string ⟨xl.toArray⟩) ∧ X.cell? ⟨w1.heap.size + 1, 1, none⟩ = some (.string ⟨yl.toArray⟩) ∧ X.cell? ⟨w1.heap.size + 1, 2, none⟩ = some (.slice ta ns.length tc)) (m := 28) _ _ _ _ ?_
              refine wpAnyT_take (i := 0) (v := .bool false) rfl (by kernel_rfl) (by kernel_rfl) (by kernel_rfl) (by kernel_rfl) (fun _ _ _ h => h) (Or.inl ⟨by kernel_rfl, fun X hS => by obtain ⟨e0, e1, e2⟩ := hS; go_simp⟩) ⟨heap_cell HI.out 0, heap_cell HI.out 1, heap_cell HI.out 2⟩ ?_
              try go_simp
              refine wpAnyT_take (i := 1) (v := .bool true) rfl (by kernel_rfl) (by kernel_rfl) (by kernel_rfl) (by kernel_rfl) (fun _ _ _ h => h) (Or.inl ⟨by kernel_rfl, fun X hS => by obtain ⟨e0, e1, e2⟩ := hS; go_simp⟩) ⟨heap_cell HI.out 0, heap_cell HI.out 1, heap_cell HI.out 2⟩ ?_
              try go_simp
              refine wpAnyT_take (i := 2) (v := .bool true) rfl (by kernel_rfl) (by kernel_rfl) (by kernel_rfl) (by kernel_rfl) (fun _ _ _ h => h) (Or.inl ⟨by kernel_rfl, fun X hS => by obtain ⟨e0, e1, e2⟩ := hS; go_simp⟩) ⟨heap_cell HI.out 0, heap_cell HI.out 1, heap_cell HI.out 2⟩ ?_
              try go_simp
              refine wpAnyT_take (i := 3) (v := undef) rfl (by kernel_rfl) (by kernel_rfl) (by kernel_rfl) (by kernel_rfl) (fun _ _ _ h => h) (Or.inr ⟨by kernel_rfl, rfl⟩) ⟨heap_cell HI.out 0, heap_cell HI.out 1, heap_cell HI.out 2⟩ ?_
              try go_simp
              refine wpAnyT_take (i := 4) (v := undef) rfl (by kernel_rfl) (by kernel_rfl) (by kernel_rfl) (by kernel_rfl) (fun _ _ _ h => h) (Or.inr ⟨by kernel_rfl, rfl⟩) ⟨heap_cell HI.out 0, heap_cell HI.out 1, heap_cell HI.out 2⟩ ?_
              try go_simp
              refine wpAnyT_take (i := 5) (v := undef) rfl (by kernel_rfl) (by kernel_rfl) (by kernel_rfl) (by kernel_rfl) (fun _ _ _ h => h) (Or.inr ⟨by kernel_rfl, rfl⟩) ⟨heap_cell HI.out 0, heap_cell HI.out 1, heap_cell HI.out 2⟩ ?_
              try go_simp
              refine wpAnyT_take (i := 6) (v := undef) rfl (by kernel_rfl) (by kernel_rfl) (by kernel_rfl) (by kernel_rfl) (fun _ _ _ h => h) (Or.inr ⟨by kernel_rfl, rfl⟩) ⟨heap_cell HI.out 0, heap_cell HI.out 1, heap_cell HI.out 2⟩ ?_
              try go_simp
              refine wpAnyT_take (i := 7) (v := undef) rfl (by kernel_rfl) (by kernel_rfl) (by kernel_rfl) (by kernel_rfl) (fun _ _ _ h => h) (Or.inr ⟨by kernel_rfl, rfl⟩) ⟨heap_cell HI.out 0, heap_cell HI.out 1, heap_cell HI.out 2⟩ ?_
              try go_simp
              refine wpAnyT_take (i := 8) (v := undef) rfl (by kernel_rfl) (by kernel_rfl) (by kernel_rfl) (by kernel_rfl) (fun _ _ _ h => h) (Or.inr ⟨by kernel_rfl, rfl⟩) ⟨heap_cell HI.out 0, heap_cell HI.out 1, heap_cell HI.out 2⟩ ?_
              try go_simp
              refine wpAnyT_take (i := 9) (v := undef) rfl (by kernel_rfl) (by kernel_rfl) (by kernel_rfl) (by kernel_rfl) (fun _ _ _ h => h) (Or.inr ⟨by kernel_rfl, rfl⟩) ⟨heap_cell HI.out 0, heap_cell HI.out 1, heap_cell HI.out 2⟩ ?_
              try go_simp
              refine wpAnyT_take (i := 10) (v := undef) rfl (by kernel_rfl) (by kernel_rfl) (by kernel_rfl) (by kernel_rfl) (fun _ _ _ h => h) (Or.inr ⟨by kernel_rfl, rfl⟩) ⟨heap_cell HI.out 0, heap_cell HI.out 1, heap_cell HI.out 2⟩ ?_
              try go_simp
              refine wpAnyT_take (i := 11) (v := undef) rfl (by kernel_rfl) (by kernel_rfl) (by kernel_rfl) (by kernel_rfl) (fun _ _ _ h => h) (Or.inr ⟨by kernel_rfl, rfl⟩) ⟨heap_cell HI.out 0, heap_cell HI.out 1, heap_cell HI.out 2⟩ ?_
              try go_simp
              refine wpAnyT_take (i := 12) (v := undef) rfl (by kernel_rfl) (by kernel_rfl) (by kernel_rfl) (by kernel_rfl) (fun _ _ _ h => h) (Or.inr ⟨by kernel_rfl, rfl⟩) ⟨heap_cell HI.out 0, heap_cell HI.out 1, heap_cell HI.out 2⟩ ?_
              try go_simp
              refine wpAnyT_take (i := 13) (v := undef) rfl (by kernel_rfl) (by kernel_rfl) (by kernel_rfl) (by kernel_rfl) (fun _ _ _ h => h) (Or.inr ⟨by kernel_rfl, rfl⟩) ⟨heap_cell HI.out 0, heap_cell HI.out 1, heap_cell HI.out 2⟩ ?_
              try go_simp
              refine wpAnyT_take (i := 14) (v := undef) rfl (by kernel_rfl) (by kernel_rfl) (by kernel_rfl) (by kernel_rfl) (fun _ _ _ h => h) (Or.inr ⟨by kernel_rfl, rfl⟩) ⟨heap_cell HI.out 0, heap_cell HI.out 1, heap_cell HI.out 2⟩ ?_
              try go_simp
              refine wpAnyT_take (i := 15) (v := undef) rfl (by kernel_rfl) (by kernel_rfl) (by kernel_rfl) (by kernel_rfl) (fun _ _ _ h => h) (Or.inr ⟨by kernel_rfl, rfl⟩) ⟨heap_cell HI.out 0, heap_cell HI.out 1, heap_cell HI.out 2⟩ ?_
              try go_simp
              refine wpAnyT_take (i := 16) (v := undef) rfl (by kernel_rfl) (by kernel_rfl) (by kernel_rfl) (by kernel_rfl) (fun _ _ _ h => h) (Or.inr ⟨by kernel_rfl, rfl⟩) ⟨heap_cell HI.out 0, heap_cell HI.out 1, heap_cell HI.out 2⟩ ?_
              try go_simp
              refine wpAnyT_take (i := 17) (v := undef) rfl (by kernel_rfl) (by kernel_rfl) (by kernel_rfl) (by kernel_rfl) (fun _ _ _ h => h) (Or.inr ⟨by kernel_rfl, rfl⟩) ⟨heap_cell HI.out 0, heap_cell HI.out 1, heap_cell HI.out 2⟩ ?_
              try go_simp
              refine wpAnyT_take (i := 18) (v := undef) rfl (by kernel_rfl) (by kernel_rfl) (by kernel_rfl) (by kernel_rfl) (fun _ _ _ h => h) (Or.inr ⟨by kernel_rfl, rfl⟩) ⟨heap_cell HI.out 0, heap_cell HI.out 1, heap_cell HI.out 2⟩ ?_
              try go_simp
              refine wpAnyT_take (i := 19) (v := undef) rfl (by kernel_rfl) (by kernel_rfl) (by kernel_rfl) (by kernel_rfl) (fun _ _ _ h => h) (Or.inr ⟨by kernel_rfl, rfl⟩) ⟨heap_cell HI.out 0, heap_cell HI.out 1, heap_cell HI.out 2⟩ ?_
              try go_simp
              refine wpAnyT_take (i := 20) (v := undef) rfl (by kernel_rfl) (by kernel_rfl) (by kernel_rfl) (by kernel_rfl) (fun _ _ _ h => h) (Or.inr ⟨by kernel_rfl, rfl⟩) ⟨heap_cell HI.out 0, heap_cell HI.out 1, heap_cell HI.out 2⟩ ?_
              try go_simp
              refine wpAnyT_take (i := 21) (v := undef) rfl (by kernel_rfl) (by kernel_rfl) (by kernel_rfl) (by kernel_rfl) (fun _ _ _ h => h) (Or.inr ⟨by kernel_rfl, rfl⟩) ⟨heap_cell HI.out 0, heap_cell HI.out 1, heap_cell HI.out 2⟩ ?_
              try go_simp
              refine wpAnyT_take (i := 22) (v := undef) rfl (by kernel_rfl) (by kernel_rfl) (by kernel_rfl) (by kernel_rfl) (fun _ _ _ h => h) (Or.inr ⟨by kernel_rfl, rfl⟩) ⟨heap_cell HI.out 0, heap_cell HI.out 1, heap_cell HI.out 2⟩ ?_
              try go_simp
              refine wpAnyT_take (i := 23) (v := undef) rfl (by kernel_rfl) (by kernel_rfl) (by kernel_rfl) (by kernel_rfl) (fun _ _ _ h => h) (Or.inr ⟨by kernel_rfl, rfl⟩) ⟨heap_cell HI.out 0, heap_cell HI.out 1, heap_cell HI.out 2⟩ ?_
              try go_simp
              refine wpAnyT_take (i := 24) (v := undef) rfl (by kernel_rfl) (by kernel_rfl) (by kernel_rfl) (by kernel_rfl) (fun _ _ _ h => h) (Or.inr ⟨by kernel_rfl, rfl⟩) ⟨heap_cell HI.out 0, heap_cell HI.out 1, heap_cell HI.out 2⟩ ?_
              try go_simp
              refine wpAnyT_take (i := 25) (v := undef) rfl (by kernel_rfl) (by kernel_rfl) (by kernel_rfl) (by kernel_rfl) (fun _ _ _ h => h) (Or.inr ⟨by kernel_rfl, rfl⟩) ⟨heap_cell HI.out 0, heap_cell HI.out 1, heap_cell HI.out 2⟩ ?_
              try go_simp
              refine wpAnyT_take (i := 26) (v := .bool true) rfl (by kernel_rfl) (by kernel_rfl) (by kernel_rfl) (by kernel_rfl) (fun _ _ _ h => h) (Or.inl ⟨by kernel_rfl, fun X hS => by obtain ⟨e0, e1, e2⟩ := hS; go_simp⟩) ⟨heap_cell HI.out 0, heap_cell HI.out 1, heap_cell HI.out 2⟩ ?_
              try go_simp
              refine wpAnyT_take (i := 27) (v := .bool true) rfl (by kernel_rfl) (by kernel_rfl) (by kernel_rfl) (by kernel_rfl) (fun _ _ _ h => h) (Or.inl ⟨by kernel_rfl, fun X hS => by obtain ⟨e0, e1, e2⟩ := hS; go_simp⟩) ⟨heap_cell HI.out 0, heap_cell HI.out 1, heap_cell HI.out 2⟩ ?_
              try go_simp
              refine wpAnyT_drop _ 28 _ _ _ (by decide) (by kernel_rfl) ?_
              change wpList _ _ _ [] _ _
              go_wp2
              go_ret
              exact ⟨rfl, HB.out⟩
            | true =>
              go_wp2_with fail
              obtain ⟨hty, hnl, hvs⟩ := IvL.inst HIV.out
              have HTV := hid (fun W => TypeValid_impl yl W (by unfold maxLen; omega))
              rw [hty] at HTV
              have HVS := hid hvs
              obtain ⟨hs1, hs2⟩ := IvL.size_small yl (by omega)
              have HS1 := hid hs1
              have HS2 := hid hs2
              obtain ⟨sz, hsz⟩ : ∃ s, s = sizeI yl := ⟨_, rfl⟩
              have HSO := hid (fun W => SizeOf_impl yl W (by omega))
              rw [← hsz] at HVS HS1 HS2 HSO
              obtain ⟨vl, hvl⟩ : ∃ s, s = varsL yl := ⟨_, rfl⟩
              have HVO := hid (fun W => VarsOf_impl yl W (by omega))
              rw [← hvl] at HVS HVO
              have hvl6 : vl.length ≤ 6 := by rw [hvl]; exact varsL_len yl
              clear hty hvs hs1 hs2 hsz hvl
              refine wp_region_any (by kernel_rfl) ?_
              change wpAny _ _ _ _ _ _ _ (World.drew _)
              have hb : Below wr.heap.size wr wr.drew := (Below.refl _ _).drew
              replace HB : Hid (Below w.heap.size w wr.drew) := HB.out.trans (hb.mono HB.out.size)
              replace HV : Hid (wr.drew.ownsRow w.heap.size 33 2 (.slice (some ⟨gc, 0, none⟩) cs.length vc) cs.length (flat cs)) := row_below hb HV.out
              replace HIR : Hid (wr.drew.ownsRow w.heap.size 39 3 (.slice (some ⟨gi, 0, none⟩) is.length uc) is.length (flatI is vs)) := row_below hb HIR.out
              replace HRS : Hid (IRow.Rows wr.drew w.heap.size is vs) := HRS.out.below hb
              replace HT : Hid (wr.drew.ownsRow w.heap.size 36 2 (.slice ta ns.length tc) ns.length (flat ns)) := row_below hb HT.out
              replace HW : Hid (wr.drew.heap[w1.heap.size]? = some (.cells #[.slice (some ⟨gc, 0, none⟩) cs.length vc, .slice (some ⟨gi, 0, none⟩) is.length uc] 26 (0, 0))) := below_heap hb (lt_of_heap HW.out) HW.out
              replace HI : Hid (wr.drew.heap[w1.heap.size + 1]? = some (.cells #[.string ⟨xl.toArray⟩, .string ⟨yl.toArray⟩, .slice ta ns.length tc] 39 (0, 0))) := below_heap hb (lt_of_heap HI.out) HI.out
              clear hb
              generalize wr.drew = w7 at *
              refine wpAny_of_T (S := fun X => X.cell? ⟨w1.heap.size + 1, 0, none⟩ = some (.string ⟨xl.toArray⟩) ∧ X.cell? ⟨w1.heap.size + 1, 1, none⟩ = some (.string ⟨yl.toArray⟩) ∧ X.cell? ⟨w1.heap.size + 1, 2, none⟩ = some (.slice ta ns.length tc)) (m := 28) _ _ _ _ ?_
              refine wpAnyT_take (i := 0) (v := .bool true) rfl (by kernel_rfl) (by kernel_rfl) (by kernel_rfl) (by kernel_rfl) (fun _ _ _ h => h) (Or.inl ⟨by kernel_rfl, fun X hS => by obtain ⟨e0, e1, e2⟩ := hS; go_simp⟩) ⟨heap_cell HI.out 0, heap_cell HI.out 1, heap_cell HI.out 2⟩ ?_
              try go_simp
              refine wpAnyT_take (i := 1) (v := .bool false) rfl (by kernel_rfl) (by kernel_rfl) (by kernel_rfl) (by kernel_rfl) (fun _ _ _ h => h) (Or.inl ⟨by kernel_rfl, fun X hS => by obtain ⟨e0, e1, e2⟩ := hS; go_simp⟩) ⟨heap_cell HI.out 0, heap_cell HI.out 1, heap_cell HI.out 2⟩ ?_
              try go_simp
              refine wpAnyT_take (i := 2) (v := .bool false) rfl (by kernel_rfl) (by kernel_rfl) (by kernel_rfl) (by kernel_rfl) (fun _ _ _ h => h) (Or.inl ⟨by kernel_rfl, fun X hS => by obtain ⟨e0, e1, e2⟩ := hS; go_simp⟩) ⟨heap_cell HI.out 0, heap_cell HI.out 1, heap_cell HI.out 2⟩ ?_
              try go_simp
              refine wpAnyT_take (i := 3) (v := .pointer (some ⟨w1.heap.size + 1, 0, none⟩)) rfl (by kernel_rfl) (by kernel_rfl) (by kernel_rfl) (by kernel_rfl) (fun _ _ _ h => h) (Or.inl ⟨by kernel_rfl, fun X hS => by obtain ⟨e0, e1, e2⟩ := hS; go_simp⟩) ⟨heap_cell HI.out 0, heap_cell HI.out 1, heap_cell HI.out 2⟩ ?_
              try go_simp
              refine wpAnyT_take (i := 4) (v := .pointer (some ⟨w1.heap.size + 1, 1, none⟩)) rfl (by kernel_rfl) (by kernel_rfl) (by kernel_rfl) (by kernel_rfl) (fun _ _ _ h => h) (Or.inl ⟨by kernel_rfl, fun X hS => by obtain ⟨e0, e1, e2⟩ := hS; go_simp⟩) ⟨heap_cell HI.out 0, heap_cell HI.out 1, heap_cell HI.out 2⟩ ?_
              try go_simp
              refine wpAnyT_take (i := 5) (v := .string ⟨yl.toArray⟩) rfl (by kernel_rfl) (by kernel_rfl) (by kernel_rfl) (by kernel_rfl) (fun _ _ _ h => h) (Or.inl ⟨by kernel_rfl, fun X hS => by obtain ⟨e0, e1, e2⟩ := hS; go_simp⟩) ⟨heap_cell HI.out 0, heap_cell HI.out 1, heap_cell HI.out 2⟩ ?_
              try go_simp
              refine wpAnyT_one 6 rfl (by kernel_rfl) (fun K hK => ?_)
              go_simp
              refine (HTV.out w7).mono ?_
              rintro e w8 ⟨rfl, hb⟩
              replace HB : Hid (Below w.heap.size w w8) := HB.out.trans (hb.mono HB.out.size)
              replace HV : Hid (w8.ownsRow w.heap.size 33 2 (.slice (some ⟨gc, 0, none⟩) cs.length vc) cs.length (flat cs)) := row_below hb HV.out
              replace HIR : Hid (w8.ownsRow w.heap.size 39 3 (.slice (some ⟨gi, 0, none⟩) is.length uc) is.length (flatI is vs)) := row_below hb HIR.out
              replace HRS : Hid (IRow.Rows w8 w.heap.size is vs) := HRS.out.below hb
              replace HT : Hid (w8.ownsRow w.heap.size 36 2 (.slice ta ns.length tc) ns.length (flat ns)) := row_below hb HT.out
              replace HW : Hid (w8.heap[w1.heap.size]? = some (.cells #[.slice (some ⟨gc, 0, none⟩) cs.length vc, .slice (some ⟨gi, 0, none⟩) is.length uc] 26 (0, 0))) := below_heap hb (lt_of_heap HW.out) HW.out
              replace HI : Hid (w8.heap[w1.heap.size + 1]? = some (.cells #[.string ⟨xl.toArray⟩, .string ⟨yl.toArray⟩, .slice ta ns.length tc] 39 (0, 0))) := below_heap hb (lt_of_heap HI.out) HI.out
              clear hb
              refine hK _ _ (fun _ => ⟨heap_cell HI.out 0, heap_cell HI.out 1, heap_cell HI.out 2⟩) ?_
              clear hK K
              refine wpAnyT_take (i := 7) (v := .bool true) rfl (by kernel_rfl) (by kernel_rfl) (by kernel_rfl) (by kernel_rfl) (fun _ _ _ h => h) (Or.inl ⟨by kernel_rfl, fun X hS => by obtain ⟨e0, e1, e2⟩ := hS; go_simp⟩) ⟨heap_cell HI.out 0, heap_cell HI.out 1, heap_cell HI.out 2⟩ ?_
              try go_simp
              refine wpAnyT_take (i := 8) (v := .pointer (some ⟨w1.heap.size + 1, 0, none⟩)) rfl (by kernel_rfl) (by kernel_rfl) (by kernel_rfl) (by kernel_rfl) (fun _ _ _ h => h) (Or.inl ⟨by kernel_rfl, fun X hS => by obtain ⟨e0, e1, e2⟩ := hS; go_simp⟩) ⟨heap_cell HI.out 0, heap_cell HI.out 1, heap_cell HI.out 2⟩ ?_
              try go_simp
              refine wpAnyT_take (i := 9) (v := .pointer (some ⟨w1.heap.size + 1, 1, none⟩)) rfl (by kernel_rfl) (by kernel_rfl) (by kernel_rfl) (by kernel_rfl) (fun _ _ _ h => h) (Or.inl ⟨by kernel_rfl, fun X hS => by obtain ⟨e0, e1, e2⟩ := hS; go_simp⟩) ⟨heap_cell HI.out 0, heap_cell HI.out 1, heap_cell HI.out 2⟩ ?_
              try go_simp
              refine wpAnyT_take (i := 10) (v := .string ⟨yl.toArray⟩) rfl (by kernel_rfl) (by kernel_rfl) (by kernel_rfl) (by kernel_rfl) (fun _ _ _ h => h) (Or.inl ⟨by kernel_rfl, fun X hS => by obtain ⟨e0, e1, e2⟩ := hS; go_simp⟩) ⟨heap_cell HI.out 0, heap_cell HI.out 1, heap_cell HI.out 2⟩ ?_
              try go_simp
              refine wpAnyT_take (i := 13) (v := .pointer (some ⟨w1.heap.size + 1, 0, none⟩)) rfl (by kernel_rfl) (by kernel_rfl) (by kernel_rfl) (by kernel_rfl) (fun _ _ _ h => h) (Or.inl ⟨by kernel_rfl, fun X hS => by obtain ⟨e0, e1, e2⟩ := hS; go_simp⟩) ⟨heap_cell HI.out 0, heap_cell HI.out 1, heap_cell HI.out 2⟩ ?_
              try go_simp
              refine wpAnyT_take (i := 14) (v := .pointer (some ⟨w1.heap.size + 1, 1, none⟩)) rfl (by kernel_rfl) (by kernel_rfl) (by kernel_rfl) (by kernel_rfl) (fun _ _ _ h => h) (Or.inl ⟨by kernel_rfl, fun X hS => by obtain ⟨e0, e1, e2⟩ := hS; go_simp⟩) ⟨heap_cell HI.out 0, heap_cell HI.out 1, heap_cell HI.out 2⟩ ?_
              try go_simp
              refine wpAnyT_take (i := 15) (v := .string ⟨yl.toArray⟩) rfl (by kernel_rfl) (by kernel_rfl) (by kernel_rfl) (by kernel_rfl) (fun _ _ _ h => h) (Or.inl ⟨by kernel_rfl, fun X hS => by obtain ⟨e0, e1, e2⟩ := hS; go_simp⟩) ⟨heap_cell HI.out 0, heap_cell HI.out 1, heap_cell HI.out 2⟩ ?_
              try go_simp
              refine wpAnyT_one 11 rfl (by kernel_rfl) (fun K hK => ?_)
              go_simp
              refine (HVO.out w8).mono ?_
              rintro e w9 ⟨rfl, hb⟩
              replace HB : Hid (Below w.heap.size w w9) := HB.out.trans (hb.mono HB.out.size)
              replace HV : Hid (w9.ownsRow w.heap.size 33 2 (.slice (some ⟨gc, 0, none⟩) cs.length vc) cs.length (flat cs)) := row_below hb HV.out
              replace HIR : Hid (w9.ownsRow w.heap.size 39 3 (.slice (some ⟨gi, 0, none⟩) is.length uc) is.length (flatI is vs)) := row_below hb HIR.out
              replace HRS : Hid (IRow.Rows w9 w.heap.size is vs) := HRS.out.below hb
              replace HT : Hid (w9.ownsRow w.heap.size 36 2 (.slice ta ns.length tc) ns.length (flat ns)) := row_below hb HT.out
              replace HW : Hid (w9.heap[w1.heap.size]? = some (.cells #[.slice (some ⟨gc, 0, none⟩) cs.length vc, .slice (some ⟨gi, 0, none⟩) is.length uc] 26 (0, 0))) := below_heap hb (lt_of_heap HW.out) HW.out
              replace HI : Hid (w9.heap[w1.heap.size + 1]? = some (.cells #[.string ⟨xl.toArray⟩, .string ⟨yl.toArray⟩, .slice ta ns.length tc] 39 (0, 0))) := below_heap hb (lt_of_heap HI.out) HI.out
              clear hb
              refine hK _ _ (fun _ => ⟨heap_cell HI.out 0, heap_cell HI.out 1, heap_cell HI.out 2⟩) ?_
              clear hK K
              refine wpAnyT_take (i := 12) (v := .int .i64 vl.length) rfl (by kernel_rfl) (by kernel_rfl) (by kernel_rfl) (by kernel_rfl) (fun _ _ _ h => h) (Or.inl ⟨by kernel_rfl, fun X hS => by obtain ⟨e0, e1, e2⟩ := hS; go_simp⟩) ⟨heap_cell HI.out 0, heap_cell HI.out 1, heap_cell HI.out 2⟩ ?_
              try go_simp
              refine wpAnyT_one 16 rfl (by kernel_rfl) (fun K hK => ?_)
              go_simp
              refine (HSO.out w9).mono ?_
              rintro e w10 ⟨rfl, hb⟩
              replace HB : Hid (Below w.heap.size w w10) := HB.out.trans (hb.mono HB.out.size)
              replace HV : Hid (w10.ownsRow w.heap.size 33 2 (.slice (some ⟨gc, 0, none⟩) cs.length vc) cs.length (flat cs)) := row_below hb HV.out
              replace HIR : Hid (w10.ownsRow w.heap.size 39 3 (.slice (some ⟨gi, 0, none⟩) is.length uc) is.length (flatI is vs)) := row_below hb HIR.out
              replace HRS : Hid (IRow.Rows w10 w.heap.size is vs) := HRS.out.below hb
              replace HT : Hid (w10.ownsRow w.heap.size 36 2 (.slice ta ns.length tc) ns.length (flat ns)) := row_below hb HT.out
              replace HW : Hid (w10.heap[w1.heap.size]? = some (.cells #[.slice (some ⟨gc, 0, none⟩) cs.length vc, .slice (some ⟨gi, 0, none⟩) is.length uc] 26 (0, 0))) := below_heap hb (lt_of_heap HW.out) HW.out
              replace HI : Hid (w10.heap[w1.heap.size + 1]? = some (.cells #[.string ⟨xl.toArray⟩, .string ⟨yl.toArray⟩, .slice ta ns.length tc] 39 (0, 0))) := below_heap hb (lt_of_heap HI.out) HI.out
              clear hb
              refine hK _ _ (fun _ => ⟨heap_cell HI.out 0, heap_cell HI.out 1, heap_cell HI.out 2⟩) ?_
              clear hK K
              refine wpAnyT_take (i := 17) (v := .int .i64 (sz + 1)) rfl (by kernel_rfl) (by kernel_rfl) (by kernel_rfl) (by kernel_rfl) (fun _ _ _ h => h) (Or.inl ⟨by kernel_rfl, fun X hS => by obtain ⟨e0, e1, e2⟩ := hS; go_simp; rw [IntKind.wrap_i64]; have := HS1.out; have := HS2.out; omega⟩) ⟨heap_cell HI.out 0, heap_cell HI.out 1, heap_cell HI.out 2⟩ ?_
              try go_simp
              refine wpAnyT_take (i := 18) (v := .bool true) rfl (by kernel_rfl) (by kernel_rfl) (by kernel_rfl) (by kernel_rfl) (fun _ _ _ h => h) (Or.inl ⟨by kernel_rfl, fun X hS => by obtain ⟨e0, e1, e2⟩ := hS; go_simp; first | exact HVS.out | (have := HVS.out; omega)⟩) ⟨heap_cell HI.out 0, heap_cell HI.out 1, heap_cell HI.out 2⟩ ?_
              try go_simp
              refine wpAnyT_take (i := 19) (v := .bool true) rfl (by kernel_rfl) (by kernel_rfl) (by kernel_rfl) (by kernel_rfl) (fun _ _ _ h => h) (Or.inl ⟨by kernel_rfl, fun X hS => by obtain ⟨e0, e1, e2⟩ := hS; go_simp⟩) ⟨heap_cell HI.out 0, heap_cell HI.out 1, heap_cell HI.out 2⟩ ?_
              try go_simp
              refine wpAnyT_take (i := 20) (v := .bool true) rfl (by kernel_rfl) (by kernel_rfl) (by kernel_rfl) (by kernel_rfl) (fun _ _ _ h => h) (Or.inl ⟨by kernel_rfl, fun X hS => by obtain ⟨e0, e1, e2⟩ := hS; go_simp⟩) ⟨heap_cell HI.out 0, heap_cell HI.out 1, heap_cell HI.out 2⟩ ?_
              try go_simp
              refine wpAnyT_take (i := 21) (v := .pointer (some ⟨w1.heap.size + 1, 2, none⟩)) rfl (by kernel_rfl) (by kernel_rfl) (by kernel_rfl) (by kernel_rfl) (fun _ _ _ h => h) (Or.inl ⟨by kernel_rfl, fun X hS => by obtain ⟨e0, e1, e2⟩ := hS; go_simp⟩) ⟨heap_cell HI.out 0, heap_cell HI.out 1, heap_cell HI.out 2⟩ ?_
              try go_simp
              refine wpAnyT_take (i := 22) (v := .slice ta ns.length tc) rfl (by kernel_rfl) (by kernel_rfl) (by kernel_rfl) (by kernel_rfl) (fun _ _ _ h => h) (Or.inl ⟨by kernel_rfl, fun X hS => by obtain ⟨e0, e1, e2⟩ := hS; go_simp⟩) ⟨heap_cell HI.out 0, heap_cell HI.out 1, heap_cell HI.out 2⟩ ?_
              try go_simp
              refine wpAnyT_take (i := 23) (v := .int .i64 ns.length) rfl (by kernel_rfl) (by kernel_rfl) (by kernel_rfl) (by kernel_rfl) (fun _ _ _ h => h) (Or.inl ⟨by kernel_rfl, fun X hS => by obtain ⟨e0, e1, e2⟩ := hS; go_simp⟩) ⟨heap_cell HI.out 0, heap_cell HI.out 1, heap_cell HI.out 2⟩ ?_
              try go_simp
              refine wpAnyT_take (i := 24) (v := .bool true) rfl (by kernel_rfl) (by kernel_rfl) (by kernel_rfl) (by kernel_rfl) (fun _ _ _ h => h) (Or.inl ⟨by kernel_rfl, fun X hS => by obtain ⟨e0, e1, e2⟩ := hS; go_simp; omega⟩) ⟨heap_cell HI.out 0, heap_cell HI.out 1, heap_cell HI.out 2⟩ ?_
              try go_simp
              refine wpAnyT_take (i := 25) (v := .bool true) rfl (by kernel_rfl) (by kernel_rfl) (by kernel_rfl) (by kernel_rfl) (fun _ _ _ h => h) (Or.inl ⟨by kernel_rfl, fun X hS => by obtain ⟨e0, e1, e2⟩ := hS; go_simp⟩) ⟨heap_cell HI.out 0, heap_cell HI.out 1, heap_cell HI.out 2⟩ ?_
              try go_simp
              refine wpAnyT_take (i := 26) (v := .bool true) rfl (by kernel_rfl) (by kernel_rfl) (by kernel_rfl) (by kernel_rfl) (fun _ _ _ h => h) (Or.inl ⟨by kernel_rfl, fun X hS => by obtain ⟨e0, e1, e2⟩ := hS; go_simp⟩) ⟨heap_cell HI.out 0, heap_cell HI.out 1, heap_cell HI.out 2⟩ ?_
              try go_simp
              refine wpAnyT_take (i := 27) (v := .bool true) rfl (by kernel_rfl) (by kernel_rfl) (by kernel_rfl) (by kernel_rfl) (fun _ _ _ h => h) (Or.inl ⟨by kernel_rfl, fun X hS => by obtain ⟨e0, e1, e2⟩ := hS; go_simp⟩) ⟨heap_cell HI.out 0, heap_cell HI.out 1, heap_cell HI.out 2⟩ ?_
              try go_simp
              refine wpAnyT_drop _ 28 _ _ _ (by decide) (by kernel_rfl) ?_
              change wpList _ _ _ [] _ _
              go_wp2
              go_ret
              exact ⟨rfl, HB.out⟩
    · have hwf : wv = false := by cases wv <;> simp_all
      subst hwf
      clear hwt
      obtain ⟨i0, i1, f0, f1⟩ := PWo.k2 HW.out
      obtain ⟨j0, j1, j2, y0, y1, y2⟩ := PIn.k3 HI.out
      have hli := lt_of_heap HW.out
      have hlk := lt_of_heap HI.out
      go_wp2_with fail
      clear i0 i1 f0 f1 j0 j1 j2 y0 y1 y2 hli hlk
      refine (WV.WorldValid_impl (some ⟨gc, 0, none⟩) (some ⟨gi, 0, none⟩) vc uc cs is w5 (by omega) (by omega) (PWo.row_cap HV.out) (PWo.sp_of HV.out (by omega)) (PWo.si_of ⟨vs, HIR.out, HRS.out⟩ (by omega))).mono ?_
      rintro e w6 ⟨rfl, hb⟩
      replace HB : Hid (Below w.heap.size w w6) := HB.out.trans (hb.mono HB.out.size)
      replace HV : Hid (w6.ownsRow w.heap.size 33 2 (.slice (some ⟨gc, 0, none⟩) cs.length vc) cs.length (flat cs)) := row_below hb HV.out
      replace HIR : Hid (w6.ownsRow w.heap.size 39 3 (.slice (some ⟨gi, 0, none⟩) is.length uc) is.length (flatI is vs)) := row_below hb HIR.out
      replace HRS : Hid (IRow.Rows w6 w.heap.size is vs) := HRS.out.below hb
      replace HT : Hid (w6.ownsRow w.heap.size 36 2 (.slice ta ns.length tc) ns.length (flat ns)) := row_below hb HT.out
      replace HW : Hid (w6.heap[w1.heap.size]? = some (.cells #[.slice (some ⟨gc, 0, none⟩) cs.length vc, .slice (some ⟨gi, 0, none⟩) is.length uc] 26 (0, 0))) := below_heap hb (lt_of_heap HW.out) HW.out
      replace HI : Hid (w6.heap[w1.heap.size + 1]? = some (.cells #[.string ⟨xl.toArray⟩, .string ⟨yl.toArray⟩, .slice ta ns.length tc] 39 (0, 0))) := below_heap hb (lt_of_heap HI.out) HI.out
      clear hb
      rw [HWV.out]
      obtain ⟨i0, i1, f0, f1⟩ := PWo.k2 HW.out
      have hli := lt_of_heap HW.out
      go_wp2_with fail
      clear i0 i1 f0 f1 hli
      go_loopg [54] is.length (fun q i wr => ∃ k : Nat, k ≤ is.length ∧ is.length - k ≤ q ∧ i = .int .i64 k ∧ Hid (Below w.heap.size w wr) ∧ Hid (wr.ownsRow w.heap.size 33 2 (.slice (some ⟨gc, 0, none⟩) cs.length vc) cs.length (flat cs)) ∧ Hid (wr.ownsRow w.heap.size 39 3 (.slice (some ⟨gi, 0, none⟩) is.length uc) is.length (flatI is vs)) ∧ Hid (IRow.Rows wr w.heap.size is vs) ∧ Hid (wr.ownsRow w.heap.size 36 2 (.slice ta ns.length tc) ns.length (flat ns)) ∧ Hid (wr.heap[w1.heap.size]? = some (.cells #[.slice (some ⟨gc, 0, none⟩) cs.length vc, .slice (some ⟨gi, 0, none⟩) is.length uc] 26 (0, 0))) ∧ Hid (wr.heap[w1.heap.size + 1]? = some (.cells #[.string ⟨xl.toArray⟩, .string ⟨yl.toArray⟩, .slice ta ns.length tc] 39 (0, 0))))
      case atStart => exact ⟨0, Nat.zero_le _, by simp, rfl, HB.out, HV.out, HIR.out, HRS.out, HT.out, HW.out, HI.out⟩
      case round =>
        clear HB HV HIR HRS HT HW HI
        obtain ⟨k, hk, hq, rfl, hHB, hHV, hHIR, hHRS, hHT, hHW, hHI⟩ := hrel
        have HB := hid hHB.out
        have HV := hid hHV.out
        have HIR := hid hHIR.out
        have HRS := hid hHRS.out
        have HT := hid hHT.out
        have HW := hid hHW.out
        have HI := hid hHI.out
        clear hHB hHV hHIR hHRS hHT hHW hHI
        by_cases hlt : k < is.length
        · obtain ⟨⟨px, py, pn⟩, hp⟩ : ∃ p, is[k]? = some p := ⟨_, List.getElem?_eq_getElem hlt⟩
          obtain ⟨pu, hpu⟩ : ∃ u, vs[k]? = some u := ⟨_, List.getElem?_eq_getElem (by have := HRS.out.1; omega)⟩
          obtain ⟨q0, q1, q2⟩ := flatI_get is vs k _ _ HRS.out.1 hp hpu
          have HPR := hid (HRS.out.2.1 k _ _ hp hpu)
          obtain ⟨pa, pc, rfl⟩ := row_slice HPR.out
          obtain ⟨pxl, rfl, hpx⟩ := bytes px
          obtain ⟨pyl, rfl, hpy⟩ := bytes py
          have hiw : (ByteArray.mk pxl.toArray).size + (ByteArray.mk pyl.toArray).size + pn.length + tot pn ≤ itot is := PWo.itot_at is k _ hp
          have hpx2 : pxl.length ≤ 8000 := by omega
          have hpy2 : pyl.length ≤ 8000 := by omega
          have hpn2 : tot pn + pn.length ≤ 8000 := by omega
          have c0 := row_cell HIR.out _ q0
          have c1 := row_cell HIR.out _ q1
          have c2 := row_cell HIR.out _ q2
          have HP := hid hp
          clear hp hpu q0 q1 q2 hiw hpx hpy
          obtain ⟨i0, i1, f0, f1⟩ := PWo.k2 HW.out
          have hli := lt_of_heap HW.out
          have hzz := HB.out.size
          have hb : Below wr.heap.size wr (wr.alloc (.cells #[.string ⟨pxl.toArray⟩, .string ⟨pyl.toArray⟩, .slice pa pn.length pc] 39)) := (Below.refl _ _).alloc (Nat.le_refl _) _
          replace HB : Hid (Below w.heap.size w (wr.alloc (.cells #[.string ⟨pxl.toArray⟩, .string ⟨pyl.toArray⟩, .slice pa pn.length pc] 39))) := HB.out.trans (hb.mono HB.out.size)
          replace HV : Hid ((wr.alloc (.cells #[.string ⟨pxl.toArray⟩, .string ⟨pyl.toArray⟩, .slice pa pn.length pc] 39)).ownsRow w.heap.size 33 2 (.slice (some ⟨gc, 0, none⟩) cs.length vc) cs.length (flat cs)) := row_below hb HV.out
          replace HIR : Hid ((wr.alloc (.cells #[.string ⟨pxl.toArray⟩, .string ⟨pyl.toArray⟩, .slice pa pn.length pc] 39)).ownsRow w.heap.size 39 3 (.slice (some ⟨gi, 0, none⟩) is.length uc) is.length (flatI is vs)) := row_below hb HIR.out
          replace HRS : Hid (IRow.Rows (wr.alloc (.cells #[.string ⟨pxl.toArray⟩, .string ⟨pyl.toArray⟩, .slice pa pn.length pc] 39)) w.heap.size is vs) := HRS.out.below hb
          replace HT : Hid ((wr.alloc (.cells #[.string ⟨pxl.toArray⟩, .string ⟨pyl.toArray⟩, .slice pa pn.length pc] 39)).ownsRow w.heap.size 36 2 (.slice ta ns.length tc) ns.length (flat ns)) := row_below hb HT.out
          replace HW : Hid ((wr.alloc (.cells #[.string ⟨pxl.toArray⟩, .string ⟨pyl.toArray⟩, .slice pa pn.length pc] 39)).heap[w1.heap.size]? = some (.cells #[.slice (some ⟨gc, 0, none⟩) cs.length vc, .slice (some ⟨gi, 0, none⟩) is.length uc] 26 (0, 0))) := below_heap hb (lt_of_heap HW.out) HW.out
          replace HI : Hid ((wr.alloc (.cells #[.string ⟨pxl.toArray⟩, .string ⟨pyl.toArray⟩, .slice pa pn.length pc] 39)).heap[w1.heap.size + 1]? = some (.cells #[.string ⟨xl.toArray⟩, .string ⟨yl.toArray⟩, .slice ta ns.length tc] 39 (0, 0))) := below_heap hb (lt_of_heap HI.out) HI.out
          replace HPR : Hid ((wr.alloc (.cells #[.string ⟨pxl.toArray⟩, .string ⟨pyl.toArray⟩, .slice pa pn.length pc] 39)).ownsRow w.heap.size 36 2 (.slice pa pn.length pc) pn.length (flat pn)) := row_below hb HPR.out
          have HK : Hid ((wr.alloc (.cells #[.string ⟨pxl.toArray⟩, .string ⟨pyl.toArray⟩, .slice pa pn.length pc] 39)).heap[wr.heap.size]? = some (.cells #[.string ⟨pxl.toArray⟩, .string ⟨pyl.toArray⟩, .slice pa pn.length pc] 39 (0, 0))) := heap_alloc_new _ _
          clear hb
          go_wp2_with fail
          clear c0 c1 c2 i0 i1 f0 f1
          generalize (wr.alloc (.cells #[.string ⟨pxl.toArray⟩, .string ⟨pyl.toArray⟩, .slice pa pn.length pc] 39)) = wx at *
          refine (WV.WorldValid_impl (some ⟨gc, 0, none⟩) (some ⟨gi, 0, none⟩) vc uc cs is wx (by omega) (by omega) (PWo.row_cap HV.out) (PWo.sp_of HV.out (by omega)) (PWo.si_of ⟨vs, HIR.out, HRS.out⟩ (by omega))).mono ?_
          rintro e w7 ⟨rfl, hb⟩
          replace HB : Hid (Below w.heap.size w w7) := HB.out.trans (hb.mono HB.out.size)
          replace HV : Hid (w7.ownsRow w.heap.size 33 2 (.slice (some ⟨gc, 0, none⟩) cs.length vc) cs.length (flat cs)) := row_below hb HV.out
          replace HIR : Hid (w7.ownsRow w.heap.size 39 3 (.slice (some ⟨gi, 0, none⟩) is.length uc) is.length (flatI is vs)) := row_below hb HIR.out
          replace HRS : Hid (IRow.Rows w7 w.heap.size is vs) := HRS.out.below hb
          replace HT : Hid (w7.ownsRow w.heap.size 36 2 (.slice ta ns.length tc) ns.length (flat ns)) := row_below hb HT.out
          replace HW : Hid (w7.heap[w1.heap.size]? = some (.cells #[.slice (some ⟨gc, 0, none⟩) cs.length vc, .slice (some ⟨gi, 0, none⟩) is.length uc] 26 (0, 0))) := below_heap hb (lt_of_heap HW.out) HW.out
          replace HI : Hid (w7.heap[w1.heap.size + 1]? = some (.cells #[.string ⟨xl.toArray⟩, .string ⟨yl.toArray⟩, .slice ta ns.length tc] 39 (0, 0))) := below_heap hb (lt_of_heap HI.out) HI.out
          replace HPR : Hid (w7.ownsRow w.heap.size 36 2 (.slice pa pn.length pc) pn.length (flat pn)) := row_below hb HPR.out
          replace HK : Hid (w7.heap[wr.heap.size]? = some (.cells #[.string ⟨pxl.toArray⟩, .string ⟨pyl.toArray⟩, .slice pa pn.length pc] 39 (0, 0))) := below_heap hb (lt_of_heap HK.out) HK.out
          clear hb
          rw [HWV.out]
          go_wp2_with fail
          go_roundg (is.length - (k + 1))
          case measure => omega
          case rel => exact ⟨k + 1, by omega, by omega, by go_num, HB.out, HV.out, HIR.out, HRS.out, HT.out, HW.out, HI.out⟩
        · have hke : k = is.length := by omega
          subst hke
          clear hq hk hlt
          cases iv with
          | false =>
            go_wp2_with fail
            refine wp_region_any (by kernel_rfl) ?_
            change wpAny _ _ _ _ _ _ _ (World.drew _)
            have hb : Below wr.heap.size wr wr.drew := (Below.refl _ _).drew
            replace HB : Hid (Below w.heap.size w wr.drew) := HB.out.trans (hb.mono HB.out.size)
            replace HV : Hid (wr.drew.ownsRow w.heap.size 33 2 (.slice (some ⟨gc, 0, none⟩) cs.length vc) cs.length (flat cs)) := row_below hb HV.out
            replace HIR : Hid (wr.drew.ownsRow w.heap.size 39 3 (.slice (some ⟨gi, 0, none⟩) is.length uc) is.length (flatI is vs)) := row_below hb HIR.out
            replace HRS : Hid (IRow.Rows wr.drew w.heap.size is vs) := HRS.out.below hb
            replace HT : Hid (wr.drew.ownsRow w.heap.size 36 2 (.slice ta ns.length tc) ns.length (flat ns)) := row_below hb HT.out
            replace HW : Hid (wr.drew.heap[w1.heap.size]? = some (.cells #[.slice (some ⟨gc, 0, none⟩) cs.length vc, .slice (some ⟨gi, 0, none⟩) is.length uc] 26 (0, 0))) := below_heap hb (lt_of_heap HW.out) HW.out
            replace HI : Hid (wr.drew.heap[w1.heap.size + 1]? = some (.cells #[.string ⟨xl.toArray⟩, .string ⟨yl.toArray⟩, .slice ta ns.length tc] 39 (0, 0))) := below_heap hb (lt_of_heap HI.out) HI.out
            clear hb
            generalize wr.drew = w7 at *
            refine wpAny_of_T (S := fun X => X.cell? ⟨w1.heap.size + 1, 0, none⟩ = some (.string ⟨xl.toArray⟩) ∧ X.cell? ⟨w1.heap.size + 1, 1, none⟩ = some (.string ⟨yl.toArray⟩) ∧ X.cell? ⟨w1.heap.size + 1, 2, none⟩ = some (.slice ta ns.length tc)) (m := 28) _ _ _ _ ?_
            refine wpAnyT_take (i := 0) (v := .bool false) rfl (by kernel_rfl) (by kernel_rfl) (by kernel_rfl) (by kernel_rfl) (fun _ _ _ h => h) (Or.inl ⟨by kernel_rfl, fun X hS => by obtain ⟨e0, e1, e2⟩ := hS; go_simp⟩) ⟨heap_cell HI.out 0, heap_cell HI.out 1, heap_cell HI.out 2⟩ ?_
            try go_simp
            refine wpAnyT_take (i := 1) (v := .bool true) rfl (by kernel_rfl) (by kernel_rfl) (by kernel_rfl) (by kernel_rfl) (fun _ _ _ h => h) (Or.inl ⟨by kernel_rfl, fun X hS => by obtain ⟨e0, e1, e2⟩ := hS; go_simp⟩) ⟨heap_cell HI.out 0, heap_cell HI.out 1, heap_cell HI.out 2⟩ ?_
            try go_simp
            refine wpAnyT_take (i := 2) (v := .bool true) rfl (by kernel_rfl) (by kernel_rfl) (by kernel_rfl) (by kernel_rfl) (fun _ _ _ h => h) (Or.inl ⟨by kernel_rfl, fun X hS => by obtain ⟨e0, e1, e2⟩ := hS; go_simp⟩) ⟨heap_cell HI.out 0, heap_cell HI.out 1, heap_cell HI.out 2⟩ ?_
            try go_simp
            refine wpAnyT_take (i := 3) (v := undef) rfl (by kernel_rfl) (by kernel_rfl) (by kernel_rfl) (by kernel_rfl) (fun _ _ _ h => h) (Or.inr ⟨by kernel_rfl, rfl⟩) ⟨heap_cell HI.out 0, heap_cell HI.out 1, heap_cell HI.out 2⟩ ?_
            try go_simp
            refine wpAnyT_take (i := 4) (v := undef) rfl (by kernel_rfl) (by kernel_rfl) (by kernel_rfl) (by kernel_rfl) (fun _ _ _ h => h) (Or.inr ⟨by kernel_rfl, rfl⟩) ⟨heap_cell HI.out 0, heap_cell HI.out 1, heap_cell HI.out 2⟩ ?_
            try go_simp
            refine wpAnyT_take (i := 5) (v := undef) rfl (by kernel_rfl) (by kernel_rfl) (by kernel_rfl) (by kernel_rfl) (fun _ _ _ h => h) (Or.inr ⟨by kernel_rfl, rfl⟩) ⟨heap_cell HI.out 0, heap_cell HI.out 1, heap_cell HI.out 2⟩ ?_
            try go_simp
            refine wpAnyT_take (i := 6) (v := undef) rfl (by kernel_rfl) (by kernel_rfl) (by kernel_rfl) (by kernel_rfl) (fun _ _ _ h => h) (Or.inr ⟨by kernel_rfl, rfl⟩) ⟨heap_cell HI.out 0, heap_cell HI.out 1, heap_cell HI.out 2⟩ ?_
            try go_simp
            refine wpAnyT_take (i := 7) (v := undef) rfl (by kernel_rfl) (by kernel_rfl) (by kernel_rfl) (by kernel_rfl) (fun _ _ _ h => h) (Or.inr ⟨by kernel_rfl, rfl⟩) ⟨heap_cell HI.out 0, heap_cell HI.out 1, heap_cell HI.out 2⟩ ?_
            try go_simp
            refine wpAnyT_take (i := 8) (v := undef) rfl (by kernel_rfl) (by kernel_rfl) (by kernel_rfl) (by kernel_rfl) (fun _ _ _ h => h) (Or.inr ⟨by kernel_rfl, rfl⟩) ⟨heap_cell HI.out 0, heap_cell HI.out 1, heap_cell HI.out 2⟩ ?_
            try go_simp
            refine wpAnyT_take (i := 9) (v := undef) rfl (by kernel_rfl) (by kernel_rfl) (by kernel_rfl) (by kernel_rfl) (fun _ _ _ h => h) (Or.inr ⟨by kernel_rfl, rfl⟩) ⟨heap_cell HI.out 0, heap_cell HI.out 1, heap_cell HI.out 2⟩ ?_
            try go_simp
            refine wpAnyT_take (i := 10) (v := undef) rfl (by kernel_rfl) (by kernel_rfl) (by kernel_rfl) (by kernel_rfl) (fun _ _ _ h => h) (Or.inr ⟨by kernel_rfl, rfl⟩) ⟨heap_cell HI.out 0, heap_cell HI.out 1, heap_cell HI.out 2⟩ ?_
            try go_simp
            refine wpAnyT_take (i := 11) (v := undef) rfl (by kernel_rfl) (by kernel_rfl) (by kernel_rfl) (by kernel_rfl) (fun _ _ _ h => h) (Or.inr ⟨by kernel_rfl, rfl⟩) ⟨heap_cell HI.out 0, heap_cell HI.out 1, heap_cell HI.out 2⟩ ?_
            try go_simp
            refine wpAnyT_take (i := 12) (v := undef) rfl (by kernel_rfl) (by kernel_rfl) (by kernel_rfl) (by kernel_rfl) (fun _ _ _ h => h) (Or.inr ⟨by kernel_rfl, rfl⟩) ⟨heap_cell HI.out 0, heap_cell HI.out 1, heap_cell HI.out 2⟩ ?_
            try go_simp
            refine wpAnyT_take (i := 13) (v := undef) rfl (by kernel_rfl) (by kernel_rfl) (by kernel_rfl) (by kernel_rfl) (fun _ _ _ h => h) (Or.inr ⟨by kernel_rfl, rfl⟩) ⟨heap_cell HI.out 0, heap_cell HI.out 1, heap_cell HI.out 2⟩ ?_
            try go_simp
            refine wpAnyT_take (i := 14) (v := undef) rfl (by kernel_rfl) (by kernel_rfl) (by kernel_rfl) (by kernel_rfl) (fun _ _ _ h => h) (Or.inr ⟨by kernel_rfl, rfl⟩) ⟨heap_cell HI.out 0, heap_cell HI.out 1, heap_cell HI.out 2⟩ ?_
            try go_simp
            refine wpAnyT_take (i := 15) (v := undef) rfl (by kernel_rfl) (by kernel_rfl) (by kernel_rfl) (by kernel_rfl) (fun _ _ _ h => h) (Or.inr ⟨by kernel_rfl, rfl⟩) ⟨heap_cell HI.out 0, heap_cell HI.out 1, heap_cell HI.out 2⟩ ?_
            try go_simp
            refine wpAnyT_take (i := 16) (v := undef) rfl (by kernel_rfl) (by kernel_rfl) (by kernel_rfl) (by kernel_rfl) (fun _ _ _ h => h) (Or.inr ⟨by kernel_rfl, rfl⟩) ⟨heap_cell HI.out 0, heap_cell HI.out 1, heap_cell HI.out 2⟩ ?_
            try go_simp
            refine wpAnyT_take (i := 17) (v := undef) rfl (by kernel_rfl) (by kernel_rfl) (by kernel_rfl) (by kernel_rfl) (fun _ _ _ h => h) (Or.inr ⟨by kernel_rfl, rfl⟩) ⟨heap_cell HI.out 0, heap_cell HI.out 1, heap_cell HI.out 2⟩ ?_
            try go_simp
            refine wpAnyT_take (i := 18) (v := undef) rfl (by kernel_rfl) (by kernel_rfl) (by kernel_rfl) (by kernel_rfl) (fun _ _ _ h => h) (Or.inr ⟨by kernel_rfl, rfl⟩) ⟨heap_cell HI.out 0, heap_cell HI.out 1, heap_cell HI.out 2⟩ ?_
            try go_simp
            refine wpAnyT_take (i := 19) (v := undef) rfl (by kernel_rfl) (by kernel_rfl) (by kernel_rfl) (by kernel_rfl) (fun _ _ _ h => h) (Or.inr ⟨by kernel_rfl, rfl⟩) ⟨heap_cell HI.out 0, heap_cell HI.out 1, heap_cell HI.out 2⟩ ?_
            try go_simp
            refine wpAnyT_take (i := 20) (v := undef) rfl (by kernel_rfl) (by kernel_rfl) (by kernel_rfl) (by kernel_rfl) (fun _ _ _ h => h) (Or.inr ⟨by kernel_rfl, rfl⟩) ⟨heap_cell HI.out 0, heap_cell HI.out 1, heap_cell HI.out 2⟩ ?_
            try go_simp
            refine wpAnyT_take (i := 21) (v := undef) rfl (by kernel_rfl) (by kernel_rfl) (by kernel_rfl) (by kernel_rfl) (fun _ _ _ h => h) (Or.inr ⟨by kernel_rfl, rfl⟩) ⟨heap_cell HI.out 0, heap_cell HI.out 1, heap_cell HI.out 2⟩ ?_
            try go_simp
            refine wpAnyT_take (i := 22) (v := undef) rfl (by kernel_rfl) (by kernel_rfl) (by kernel_rfl) (by kernel_rfl) (fun _ _ _ h => h) (Or.inr ⟨by kernel_rfl, rfl⟩) ⟨heap_cell HI.out 0, heap_cell HI.out 1, heap_cell HI.out 2⟩ ?_
            try go_simp
            refine wpAnyT_take (i := 23) (v := undef) rfl (by kernel_rfl) (by kernel_rfl) (by kernel_rfl) (by kernel_rfl) (fun _ _ _ h => h) (Or.inr ⟨by kernel_rfl, rfl⟩) ⟨heap_cell HI.out 0, heap_cell HI.out 1, heap_cell HI.out 2⟩ ?_
            try go_simp
            refine wpAnyT_take (i := 24) (v := undef) rfl (by kernel_rfl) (by kernel_rfl) (by kernel_rfl) (by kernel_rfl) (fun _ _ _ h => h) (Or.inr ⟨by kernel_rfl, rfl⟩) ⟨heap_cell HI.out 0, heap_cell HI.out 1, heap_cell HI.out 2⟩ ?_
            try go_simp
            refine wpAnyT_take (i := 25) (v := undef) rfl (by kernel_rfl) (by kernel_rfl) (by kernel_rfl) (by kernel_rfl) (fun _ _ _ h => h) (Or.inr ⟨by kernel_rfl, rfl⟩) ⟨heap_cell HI.out 0, heap_cell HI.out 1, heap_cell HI.out 2⟩ ?_
            try go_simp
            refine wpAnyT_take (i := 26) (v := .bool true) rfl (by kernel_rfl) (by kernel_rfl) (by kernel_rfl) (by kernel_rfl) (fun _ _ _ h => h) (Or.inl ⟨by kernel_rfl, fun X hS => by obtain ⟨e0, e1, e2⟩ := hS; go_simp⟩) ⟨heap_cell HI.out 0, heap_cell HI.out 1, heap_cell HI.out 2⟩ ?_
            try go_simp
            refine wpAnyT_take (i := 27) (v := .bool true) rfl (by kernel_rfl) (by kernel_rfl) (by kernel_rfl) (by kernel_rfl) (fun _ _ _ h => h) (Or.inl ⟨by kernel_rfl, fun X hS => by obtain ⟨e0, e1, e2⟩ := hS; go_simp⟩) ⟨heap_cell HI.out 0, heap_cell HI.out 1, heap_cell HI.out 2⟩ ?_
            try go_simp
            refine wpAnyT_drop _ 28 _ _ _ (by decide) (by kernel_rfl) ?_
            change wpList _ _ _ [] _ _
            go_wp2
            go_ret
            exact ⟨rfl, HB.out⟩
          | true =>
            go_wp2_with fail
            obtain ⟨hty, hnl, hvs⟩ := IvL.inst HIV.out
            have HTV := hid (fun W => TypeValid_impl yl W (by unfold maxLen; omega))
            rw [hty] at HTV
            have HVS := hid hvs
            obtain ⟨hs1, hs2⟩ := IvL.size_small yl (by omega)
            have HS1 := hid hs1
            have HS2 := hid hs2
            obtain ⟨sz, hsz⟩ : ∃ s, s = sizeI yl := ⟨_, rfl⟩
            have HSO := hid (fun W => SizeOf_impl yl W (by omega))
            rw [← hsz] at HVS HS1 HS2 HSO
            obtain ⟨vl, hvl⟩ : ∃ s, s = varsL yl := ⟨_, rfl⟩
            have HVO := hid (fun W => VarsOf_impl yl W (by omega))
            rw [← hvl] at HVS HVO
            have hvl6 : vl.length ≤ 6 := by rw [hvl]; exact varsL_len yl
            clear hty hvs hs1 hs2 hsz hvl
            refine wp_region_any (by kernel_rfl) ?_
            change wpAny _ _ _ _ _ _ _ (World.drew _)
            have hb : Below wr.heap.size wr wr.drew := (Below.refl _ _).drew
            replace HB : Hid (Below w.heap.size w wr.drew) := HB.out.trans (hb.mono HB.out.size)
            replace HV : Hid (wr.drew.ownsRow w.heap.size 33 2 (.slice (some ⟨gc, 0, none⟩) cs.length vc) cs.length (flat cs)) := row_below hb HV.out
            replace HIR : Hid (wr.drew.ownsRow w.heap.size 39 3 (.slice (some ⟨gi, 0, none⟩) is.length uc) is.length (flatI is vs)) := row_below hb HIR.out
            replace HRS : Hid (IRow.Rows wr.drew w.heap.size is vs) := HRS.out.below hb
            replace HT : Hid (wr.drew.ownsRow w.heap.size 36 2 (.slice ta ns.length tc) ns.length (flat ns)) := row_below hb HT.out
            replace HW : Hid (wr.drew.heap[w1.heap.size]? = some (.cells #[.slice (some ⟨gc, 0, none⟩) cs.length vc, .slice (some ⟨gi, 0, none⟩) is.length uc] 26 (0, 0))) := below_heap hb (lt_of_heap HW.out) HW.out
            replace HI : Hid (wr.drew.heap[w1.heap.size + 1]? = some (.cells #[.string ⟨xl.toArray⟩, .string ⟨yl.toArray⟩, .slice ta ns.length tc] 39 (0, 0))) := below_heap hb (lt_of_heap HI.out) HI.out
            clear hb
            generalize wr.drew = w7 at *
            refine wpAny_of_T (S := fun X => X.cell? ⟨w1.heap.size + 1, 0, none⟩ = some (.string ⟨xl.toArray⟩) ∧ X.cell? ⟨w1.heap.size + 1, 1, none⟩ = some (.string ⟨yl.toArray⟩) ∧ X.cell? ⟨w1.heap.size + 1, 2, none⟩ = some (.slice ta ns.length tc)) (m := 28) _ _ _ _ ?_
            refine wpAnyT_take (i := 0) (v := .bool true) rfl (by kernel_rfl) (by kernel_rfl) (by kernel_rfl) (by kernel_rfl) (fun _ _ _ h => h) (Or.inl ⟨by kernel_rfl, fun X hS => by obtain ⟨e0, e1, e2⟩ := hS; go_simp⟩) ⟨heap_cell HI.out 0, heap_cell HI.out 1, heap_cell HI.out 2⟩ ?_
            try go_simp
            refine wpAnyT_take (i := 1) (v := .bool false) rfl (by kernel_rfl) (by kernel_rfl) (by kernel_rfl) (by kernel_rfl) (fun _ _ _ h => h) (Or.inl ⟨by kernel_rfl, fun X hS => by obtain ⟨e0, e1, e2⟩ := hS; go_simp⟩) ⟨heap_cell HI.out 0, heap_cell HI.out 1, heap_cell HI.out 2⟩ ?_
            try go_simp
            refine wpAnyT_take (i := 2) (v := .bool false) rfl (by kernel_rfl) (by kernel_rfl) (by kernel_rfl) (by kernel_rfl) (fun _ _ _ h => h) (Or.inl ⟨by kernel_rfl, fun X hS => by obtain ⟨e0, e1, e2⟩ := hS; go_simp⟩) ⟨heap_cell HI.out 0, heap_cell HI.out 1, heap_cell HI.out 2⟩ ?_
            try go_simp
            refine wpAnyT_take (i := 3) (v := .pointer (some ⟨w1.heap.size + 1, 0, none⟩)) rfl (by kernel_rfl) (by kernel_rfl) (by kernel_rfl) (by kernel_rfl) (fun _ _ _ h => h) (Or.inl ⟨by kernel_rfl, fun X hS => by obtain ⟨e0, e1, e2⟩ := hS; go_simp⟩) ⟨heap_cell HI.out 0, heap_cell HI.out 1, heap_cell HI.out 2⟩ ?_
            try go_simp
            refine wpAnyT_take (i := 4) (v := .pointer (some ⟨w1.heap.size + 1, 1, none⟩)) rfl (by kernel_rfl) (by kernel_rfl) (by kernel_rfl) (by kernel_rfl) (fun _ _ _ h => h) (Or.inl ⟨by kernel_rfl, fun X hS => by obtain ⟨e0, e1, e2⟩ := hS; go_simp⟩) ⟨heap_cell HI.out 0, heap_cell HI.out 1, heap_cell HI.out 2⟩ ?_
            try go_simp
            refine wpAnyT_take (i := 5) (v := .string ⟨yl.toArray⟩) rfl (by kernel_rfl) (by kernel_rfl) (by kernel_rfl) (by kernel_rfl) (fun _ _ _ h => h) (Or.inl ⟨by kernel_rfl, fun X hS => by obtain ⟨e0, e1, e2⟩ := hS; go_simp⟩) ⟨heap_cell HI.out 0, heap_cell HI.out 1, heap_cell HI.out 2⟩ ?_
            try go_simp
            refine wpAnyT_one 6 rfl (by kernel_rfl) (fun K hK => ?_)
            go_simp
            refine (HTV.out w7).mono ?_
            rintro e w8 ⟨rfl, hb⟩
            replace HB : Hid (Below w.heap.size w w8) := HB.out.trans (hb.mono HB.out.size)
            replace HV : Hid (w8.ownsRow w.heap.size 33 2 (.slice (some ⟨gc, 0, none⟩) cs.length vc) cs.length (flat cs)) := row_below hb HV.out
            replace HIR : Hid (w8.ownsRow w.heap.size 39 3 (.slice (some ⟨gi, 0, none⟩) is.length uc) is.length (flatI is vs)) := row_below hb HIR.out
            replace HRS : Hid (IRow.Rows w8 w.heap.size is vs) := HRS.out.below hb
            replace HT : Hid (w8.ownsRow w.heap.size 36 2 (.slice ta ns.length tc) ns.length (flat ns)) := row_below hb HT.out
            replace HW : Hid (w8.heap[w1.heap.size]? = some (.cells #[.slice (some ⟨gc, 0, none⟩) cs.length vc, .slice (some ⟨gi, 0, none⟩) is.length uc] 26 (0, 0))) := below_heap hb (lt_of_heap HW.out) HW.out
            replace HI : Hid (w8.heap[w1.heap.size + 1]? = some (.cells #[.string ⟨xl.toArray⟩, .string ⟨yl.toArray⟩, .slice ta ns.length tc] 39 (0, 0))) := below_heap hb (lt_of_heap HI.out) HI.out
            clear hb
            refine hK _ _ (fun _ => ⟨heap_cell HI.out 0, heap_cell HI.out 1, heap_cell HI.out 2⟩) ?_
            clear hK K
            refine wpAnyT_take (i := 7) (v := .bool true) rfl (by kernel_rfl) (by kernel_rfl) (by kernel_rfl) (by kernel_rfl) (fun _ _ _ h => h) (Or.inl ⟨by kernel_rfl, fun X hS => by obtain ⟨e0, e1, e2⟩ := hS; go_simp⟩) ⟨heap_cell HI.out 0, heap_cell HI.out 1, heap_cell HI.out 2⟩ ?_
            try go_simp
            refine wpAnyT_take (i := 8) (v := .pointer (some ⟨w1.heap.size + 1, 0, none⟩)) rfl (by kernel_rfl) (by kernel_rfl) (by kernel_rfl) (by kernel_rfl) (fun _ _ _ h => h) (Or.inl ⟨by kernel_rfl, fun X hS => by obtain ⟨e0, e1, e2⟩ := hS; go_simp⟩) ⟨heap_cell HI.out 0, heap_cell HI.out 1, heap_cell HI.out 2⟩ ?_
            try go_simp
            refine wpAnyT_take (i := 9) (v := .pointer (some ⟨w1.heap.size + 1, 1, none⟩)) rfl (by kernel_rfl) (by kernel_rfl) (by kernel_rfl) (by kernel_rfl) (fun _ _ _ h => h) (Or.inl ⟨by kernel_rfl, fun X hS => by obtain ⟨e0, e1, e2⟩ := hS; go_simp⟩) ⟨heap_cell HI.out 0, heap_cell HI.out 1, heap_cell HI.out 2⟩ ?_
            try go_simp
            refine wpAnyT_take (i := 10) (v := .string ⟨yl.toArray⟩) rfl (by kernel_rfl) (by kernel_rfl) (by kernel_rfl) (by kernel_rfl) (fun _ _ _ h => h) (Or.inl ⟨by kernel_rfl, fun X hS => by obtain ⟨e0, e1, e2⟩ := hS; go_simp⟩) ⟨heap_cell HI.out 0, heap_cell HI.out 1, heap_cell HI.out 2⟩ ?_
            try go_simp
            refine wpAnyT_take (i := 13) (v := .pointer (some ⟨w1.heap.size + 1, 0, none⟩)) rfl (by kernel_rfl) (by kernel_rfl) (by kernel_rfl) (by kernel_rfl) (fun _ _ _ h => h) (Or.inl ⟨by kernel_rfl, fun X hS => by obtain ⟨e0, e1, e2⟩ := hS; go_simp⟩) ⟨heap_cell HI.out 0, heap_cell HI.out 1, heap_cell HI.out 2⟩ ?_
            try go_simp
            refine wpAnyT_take (i := 14) (v := .pointer (some ⟨w1.heap.size + 1, 1, none⟩)) rfl (by kernel_rfl) (by kernel_rfl) (by kernel_rfl) (by kernel_rfl) (fun _ _ _ h => h) (Or.inl ⟨by kernel_rfl, fun X hS => by obtain ⟨e0, e1, e2⟩ := hS; go_simp⟩) ⟨heap_cell HI.out 0, heap_cell HI.out 1, heap_cell HI.out 2⟩ ?_
            try go_simp
            refine wpAnyT_take (i := 15) (v := .string ⟨yl.toArray⟩) rfl (by kernel_rfl) (by kernel_rfl) (by kernel_rfl) (by kernel_rfl) (fun _ _ _ h => h) (Or.inl ⟨by kernel_rfl, fun X hS => by obtain ⟨e0, e1, e2⟩ := hS; go_simp⟩) ⟨heap_cell HI.out 0, heap_cell HI.out 1, heap_cell HI.out 2⟩ ?_
            try go_simp
            refine wpAnyT_one 11 rfl (by kernel_rfl) (fun K hK => ?_)
            go_simp
            refine (HVO.out w8).mono ?_
            rintro e w9 ⟨rfl, hb⟩
            replace HB : Hid (Below w.heap.size w w9) := HB.out.trans (hb.mono HB.out.size)
            replace HV : Hid (w9.ownsRow w.heap.size 33 2 (.slice (some ⟨gc, 0, none⟩) cs.length vc) cs.length (flat cs)) := row_below hb HV.out
            replace HIR : Hid (w9.ownsRow w.heap.size 39 3 (.slice (some ⟨gi, 0, none⟩) is.length uc) is.length (flatI is vs)) := row_below hb HIR.out
            replace HRS : Hid (IRow.Rows w9 w.heap.size is vs) := HRS.out.below hb
            replace HT : Hid (w9.ownsRow w.heap.size 36 2 (.slice ta ns.length tc) ns.length (flat ns)) := row_below hb HT.out
            replace HW : Hid (w9.heap[w1.heap.size]? = some (.cells #[.slice (some ⟨gc, 0, none⟩) cs.length vc, .slice (some ⟨gi, 0, none⟩) is.length uc] 26 (0, 0))) := below_heap hb (lt_of_heap HW.out) HW.out
            replace HI : Hid (w9.heap[w1.heap.size + 1]? = some (.cells #[.string ⟨xl.toArray⟩, .string ⟨yl.toArray⟩, .slice ta ns.length tc] 39 (0, 0))) := below_heap hb (lt_of_heap HI.out) HI.out
            clear hb
            refine hK _ _ (fun _ => ⟨heap_cell HI.out 0, heap_cell HI.out 1, heap_cell HI.out 2⟩) ?_
            clear hK K
            refine wpAnyT_take (i := 12) (v := .int .i64 vl.length) rfl (by kernel_rfl) (by kernel_rfl) (by kernel_rfl) (by kernel_rfl) (fun _ _ _ h => h) (Or.inl ⟨by kernel_rfl, fun X hS => by obtain ⟨e0, e1, e2⟩ := hS; go_simp⟩) ⟨heap_cell HI.out 0, heap_cell HI.out 1, heap_cell HI.out 2⟩ ?_
            try go_simp
            refine wpAnyT_one 16 rfl (by kernel_rfl) (fun K hK => ?_)
            go_simp
            refine (HSO.out w9).mono ?_
            rintro e w10 ⟨rfl, hb⟩
            replace HB : Hid (Below w.heap.size w w10) := HB.out.trans (hb.mono HB.out.size)
            replace HV : Hid (w10.ownsRow w.heap.size 33 2 (.slice (some ⟨gc, 0, none⟩) cs.length vc) cs.length (flat cs)) := row_below hb HV.out
            replace HIR : Hid (w10.ownsRow w.heap.size 39 3 (.slice (some ⟨gi, 0, none⟩) is.length uc) is.length (flatI is vs)) := row_below hb HIR.out
            replace HRS : Hid (IRow.Rows w10 w.heap.size is vs) := HRS.out.below hb
            replace HT : Hid (w10.ownsRow w.heap.size 36 2 (.slice ta ns.length tc) ns.length (flat ns)) := row_below hb HT.out
            replace HW : Hid (w10.heap[w1.heap.size]? = some (.cells #[.slice (some ⟨gc, 0, none⟩) cs.length vc, .slice (some ⟨gi, 0, none⟩) is.length uc] 26 (0, 0))) := below_heap hb (lt_of_heap HW.out) HW.out
            replace HI : Hid (w10.heap[w1.heap.size + 1]? = some (.cells #[.string ⟨xl.toArray⟩, .string ⟨yl.toArray⟩, .slice ta ns.length tc] 39 (0, 0))) := below_heap hb (lt_of_heap HI.out) HI.out
            clear hb
            refine hK _ _ (fun _ => ⟨heap_cell HI.out 0, heap_cell HI.out 1, heap_cell HI.out 2⟩) ?_
            clear hK K
            refine wpAnyT_take (i := 17) (v := .int .i64 (sz + 1)) rfl (by kernel_rfl) (by kernel_rfl) (by kernel_rfl) (by kernel_rfl) (fun _ _ _ h => h) (Or.inl ⟨by kernel_rfl, fun X hS => by obtain ⟨e0, e1, e2⟩ := hS; go_simp; rw [IntKind.wrap_i64]; have := HS1.out; have := HS2.out; omega⟩) ⟨heap_cell HI.out 0, heap_cell HI.out 1, heap_cell HI.out 2⟩ ?_
            try go_simp
            refine wpAnyT_take (i := 18) (v := .bool true) rfl (by kernel_rfl) (by kernel_rfl) (by kernel_rfl) (by kernel_rfl) (fun _ _ _ h => h) (Or.inl ⟨by kernel_rfl, fun X hS => by obtain ⟨e0, e1, e2⟩ := hS; go_simp; first | exact HVS.out | (have := HVS.out; omega)⟩) ⟨heap_cell HI.out 0, heap_cell HI.out 1, heap_cell HI.out 2⟩ ?_
            try go_simp
            refine wpAnyT_take (i := 19) (v := .bool true) rfl (by kernel_rfl) (by kernel_rfl) (by kernel_rfl) (by kernel_rfl) (fun _ _ _ h => h) (Or.inl ⟨by kernel_rfl, fun X hS => by obtain ⟨e0, e1, e2⟩ := hS; go_simp⟩) ⟨heap_cell HI.out 0, heap_cell HI.out 1, heap_cell HI.out 2⟩ ?_
            try go_simp
            refine wpAnyT_take (i := 20) (v := .bool true) rfl (by kernel_rfl) (by kernel_rfl) (by kernel_rfl) (by kernel_rfl) (fun _ _ _ h => h) (Or.inl ⟨by kernel_rfl, fun X hS => by obtain ⟨e0, e1, e2⟩ := hS; go_simp⟩) ⟨heap_cell HI.out 0, heap_cell HI.out 1, heap_cell HI.out 2⟩ ?_
            try go_simp
            refine wpAnyT_take (i := 21) (v := .pointer (some ⟨w1.heap.size + 1, 2, none⟩)) rfl (by kernel_rfl) (by kernel_rfl) (by kernel_rfl) (by kernel_rfl) (fun _ _ _ h => h) (Or.inl ⟨by kernel_rfl, fun X hS => by obtain ⟨e0, e1, e2⟩ := hS; go_simp⟩) ⟨heap_cell HI.out 0, heap_cell HI.out 1, heap_cell HI.out 2⟩ ?_
            try go_simp
            refine wpAnyT_take (i := 22) (v := .slice ta ns.length tc) rfl (by kernel_rfl) (by kernel_rfl) (by kernel_rfl) (by kernel_rfl) (fun _ _ _ h => h) (Or.inl ⟨by kernel_rfl, fun X hS => by obtain ⟨e0, e1, e2⟩ := hS; go_simp⟩) ⟨heap_cell HI.out 0, heap_cell HI.out 1, heap_cell HI.out 2⟩ ?_
            try go_simp
            refine wpAnyT_take (i := 23) (v := .int .i64 ns.length) rfl (by kernel_rfl) (by kernel_rfl) (by kernel_rfl) (by kernel_rfl) (fun _ _ _ h => h) (Or.inl ⟨by kernel_rfl, fun X hS => by obtain ⟨e0, e1, e2⟩ := hS; go_simp⟩) ⟨heap_cell HI.out 0, heap_cell HI.out 1, heap_cell HI.out 2⟩ ?_
            try go_simp
            refine wpAnyT_take (i := 24) (v := .bool true) rfl (by kernel_rfl) (by kernel_rfl) (by kernel_rfl) (by kernel_rfl) (fun _ _ _ h => h) (Or.inl ⟨by kernel_rfl, fun X hS => by obtain ⟨e0, e1, e2⟩ := hS; go_simp; omega⟩) ⟨heap_cell HI.out 0, heap_cell HI.out 1, heap_cell HI.out 2⟩ ?_
            try go_simp
            refine wpAnyT_take (i := 25) (v := .bool true) rfl (by kernel_rfl) (by kernel_rfl) (by kernel_rfl) (by kernel_rfl) (fun _ _ _ h => h) (Or.inl ⟨by kernel_rfl, fun X hS => by obtain ⟨e0, e1, e2⟩ := hS; go_simp⟩) ⟨heap_cell HI.out 0, heap_cell HI.out 1, heap_cell HI.out 2⟩ ?_
            try go_simp
            refine wpAnyT_take (i := 26) (v := .bool true) rfl (by kernel_rfl) (by kernel_rfl) (by kernel_rfl) (by kernel_rfl) (fun _ _ _ h => h) (Or.inl ⟨by kernel_rfl, fun X hS => by obtain ⟨e0, e1, e2⟩ := hS; go_simp⟩) ⟨heap_cell HI.out 0, heap_cell HI.out 1, heap_cell HI.out 2⟩ ?_
            try go_simp
            refine wpAnyT_take (i := 27) (v := .bool true) rfl (by kernel_rfl) (by kernel_rfl) (by kernel_rfl) (by kernel_rfl) (fun _ _ _ h => h) (Or.inl ⟨by kernel_rfl, fun X hS => by obtain ⟨e0, e1, e2⟩ := hS; go_simp⟩) ⟨heap_cell HI.out 0, heap_cell HI.out 1, heap_cell HI.out 2⟩ ?_
            try go_simp
            refine wpAnyT_drop _ 28 _ _ _ (by decide) (by kernel_rfl) ?_
            change wpList _ _ _ [] _ _
            go_wp2
            go_ret
            exact ⟨rfl, HB.out⟩

theorem lifted (os : Os) (started : os.Started) (H : Type) (enc : TypeId × Value → H) :
    ReturnsInHanded {} Try.checked os 4 .any (Rows.fnInstanceValidSpec.pre6 enc Try.prog Try.f4 Rows.fnInstanceValidRow.domain false) (Rows.fnInstanceValidSpec.post enc Try.prog Try.f4 false true false false) := by
  refine returnsInHanded_of_change (C := Try.checked) own started (by kernel_rfl) Try.func4
    (ChangeSpec.witness6 (enc := enc) (C := Try.checked) false ⟨#[], #[.slice none 0 0], []⟩ 8 (by kernel_rfl) (by kernel_rfl) (by kernel_rfl) (by kernel_rfl)) ?_
  intro W base args ds gs before hval0 hW hcnd _
  have hval : ∀ (j : Nat) t v, Try.f4.params[j]? = some t → args[j]? = some v → Value.okWide Try.prog W .any base t v := hval0
  have hW' := hW
  obtain ⟨p, q, hA0, hV, rfl, hfz, hnd⟩ := hW
  have hA : DataW.TrodAll enc Try.prog W 0 (fun _ => true) true Try.f4.params.toList args.toList ds p := hA0
  rw [Try.params4] at hA hval
  have hL := DataW.TrodAll.lt hA
  obtain ⟨v0, vs0, d0, ds0, p0, q0, hargs, rfl, rfl, h0, r0⟩ := trodAll_cons hA
  obtain ⟨rfl, rfl, rfl⟩ := trodAll_nil r0
  obtain rfl : args = #[v0] := by cases args; simp_all
  obtain ⟨rfl, rfl⟩ := trodVars_none hV
  have k0 := h0
  have l0 : ∀ x ∈ p0, x.block < W.heap.size := fun x hx => hL x (by simp [hx])
  obtain ⟨xs0, s0⟩ := Draw.open_sb Try.underlying22 Try.underlying5 (by kernel_rfl) (hval 0 22 v0 rfl rfl) h0
  clear hA0 hval0
  simp only [List.append_nil] at hW'
  refine (walk W _ _ s0).mono fun e W' ⟨he, bel⟩ => ?_
  subst he
  exact ⟨_, rfl, _, _, _, [], _, [], hW', (trodAll_cons_mk (shut_bool Try.underlying4 _) trodAll_mk0), (trodAll_cons_mk (Below.trod laidOut (by kernel_rfl) (of_decide_eq_true (by kernel_rfl)) k0 bel l0) trodAll_mk0), rfl, bel.frame _, fun h => by cases h⟩
theorem e1 : Rows.fnInstanceValidRow.lifted = Rows.fnSupersOfRow.lifted := rfl
theorem e2 : Rows.fnInstanceValidRow.make = Rows.fnSupersOfRow.make := rfl
theorem e3 : Rows.fnInstanceValidRow.plainKeys = Rows.fnSupersOfRow.plainKeys := rfl
theorem facts : joinedFacts Try.pinned.checked.prog 4 Try.f4 Rows.fnInstanceValidSpec Rows.fnInstanceValidRow = true := by
  refine Facts.joined e1 e2 e3 ?_ ?_ ?_ ?_ ?_ ?_ ?_ ?_ ?_ ?_ ?_ ?_ ?_ ?_ ?_ ?_ ?_ ?_ ?_ ?_ ?_ ?_ ?_
  all_goals as_aux_lemma => kernel_rfl
theorem over : Rows.fnInstanceValidRow.holds Try.pinned (OpenSpec.ofChange Rows.fnInstanceValidSpec) :=
  OpenClaim.holds_of_wide 4 Try.f4 rfl rfl rfl rfl rfl rfl rfl ⟨rfl, rfl, rfl, rfl, rfl⟩ rfl rfl rfl rfl rfl (by kernel_rfl) Try.func4 facts
    (of_decide_eq_true (by kernel_rfl)) (by unfold Func.isWrapper; first | (rw [if_pos (by decide +kernel)]; kernel_rfl) | (rw [if_neg (by decide +kernel)]; exact ⟨rfl, rfl⟩))
    (fun os started H enc _ => lifted os started H enc)
end Go.Proofs.Ytbdmdhhocncopaa.fnInstanceValid
namespace Go.Proofs.Ytbdmdhhocncopaa
theorem fnInstanceValid_holds : Rows.FnInstanceValidSaid := fnInstanceValid.over
end Go.Proofs.Ytbdmdhhocncopaa
