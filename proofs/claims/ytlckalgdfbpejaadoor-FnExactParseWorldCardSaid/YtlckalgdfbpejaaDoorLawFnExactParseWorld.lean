/- FnExactParseWorld answers true for every input: the program's ParseWorld returns what the reference's returns. Conditions: none. -/
import Derived.Test.YtlckalgdfbpejaaDoorMkW
import Derived.Test.YtlckalgdfbpejaaDoorOwnL
import Derived.Test.YtlckalgdfbpejaaDoorShp
import Derived.Test.YtlckalgdfbpejaaDoorRows
import Derived.Test.YtlckalgdfbpejaaDoorCards
import Derived.Test.YtlckalgdfbpejaaDoorTie
import Derived.LaidMore
import Derived.Lay
import Derived.SevenTiedAt
import Derived.Stop.Joined
import Derived.Test.YtlckalgdfbpejaaDoorFacts
import Derived.WalkKit
import Derived.ProofKit
import Derived.OpenShut
import Derived.ShutString
import Derived.ChangeOld
import Derived.Below
import Derived.Carry
import Derived.Lib.SmallJoins
set_option linter.unusedVariables false
set_option linter.unusedSimpArgs false
set_option maxRecDepth 100000
namespace Go.Proofs.YtlckalgdfbpejaaDoor.fnExactParseWorld
open Go.ChangeShapes Go.WideShapes Go.ChangeAt Go.RowKit Go.Joins Ty SplP ListS CutS PInP PIn IRow PWo Classes
open Go.ChangeMaps (open_string shut_string)

theorem own : ownKnob Tryd.prog.godebug = none := by kernel_rfl
theorem laidOut : laidOutB Tryd.prog = true := by kernel_rfl
theorem bytes (s : ByteArray) : ∃ l : List UInt8, s = ⟨l.toArray⟩ ∧ s.size = l.length := ⟨s.data.toList, rfl, by simp⟩
set_option maxHeartbeats 8000000 in
theorem walk (a0 : ByteArray) (w0 : a0.size ≤ maxLen) (w : World) (hm : ∃ m, w.cell? ⟨0, 0, none⟩ = some (.int .i64 m)) :
    Calls Tryd.prog 7 #[.string a0] w fun e w' => e = .returned (.bool true) ∧ Below w.heap.size w w' := by
  obtain ⟨l, rfl, hz⟩ := bytes a0
  by_cases hl : l.length ≤ 1048576
  rotate_left
  · unfold maxLen at w0
    go_enter Tryd.func7, Tryd.ntmps7
    go_wp2_with fail
    go_ret
    exact ⟨rfl, Below.refl _ _⟩
  · clear hz
    have HMX := hid hm
    clear hm
    obtain ⟨hs1, hs2⟩ := rW_sizes l hl
    have HSM := hid (PWoP.same l)
    obtain ⟨⟨cs, is, ok⟩, hr⟩ : ∃ r, r = rW (PWoP.specW l) := ⟨_, rfl⟩
    rw [← hr] at hs1 hs2
    dsimp only at hs1 hs2
    have HR := hid hr
    have HS1 : Hid (tot cs ≤ 1048577) := by show _ ≤ _; omega
    have HS2 : Hid (itot is ≤ 1048577) := by show _ ≤ _; omega
    have hcl : cs.length ≤ 1048577 := by omega
    have hil : is.length ≤ 1048577 := by omega
    have HMI : Hid (1 + cs.length * 2 + Marks.mk (MkW.lens is) (MkW.lens is).length ≤ 1099511627776) := by show _ ≤ _; have := MkW.mk_itot is; omega
    clear hr hs1 hs2
    have B : Hid (Below w.heap.size w w) := Below.refl _ _
    go_enter Tryd.func7, Tryd.ntmps7
    go_wp2_with fail
    have hzbv : w.heap.size ≤ w.heap.size := B.out.size
    refine (show Calls Tryd.prog _ _ _ (WoPost w (cs, is, ok)) from by rw [HR.out]; exact ParseWorld_spec l w hl).mono ?_
    rintro e w1 ⟨v, vi, rfl, ho, hi, hb⟩
    obtain ⟨va, vc, rfl⟩ := row_slice ho
    obtain ⟨vb, vd, rfl⟩ := ir_slice hi
    have Rv := hid ho
    have Iv := hid hi
    have hzv := hb.size
    replace B : Hid (Below w.heap.size w w1) := B.out.trans (hb.mono B.out.size)
    clear hb ho hi
    go_wp2_with fail
    have hb : Below w1.heap.size w1 (w1.alloc (.cells #[.slice va cs.length vc, .slice vb is.length vd] 47)) := (Below.refl _ _).alloc (Nat.le_refl _) _
    replace B : Hid (Below w.heap.size w (w1.alloc (.cells #[.slice va cs.length vc, .slice vb is.length vd] 47))) := B.out.trans (hb.mono B.out.size)
    replace Rv : Hid (World.ownsRow (w1.alloc (.cells #[.slice va cs.length vc, .slice vb is.length vd] 47)) w.heap.size 80 2 (.slice va cs.length vc) cs.length (flat cs)) := row_below hb Rv.out
    replace Iv : Hid (IRow.IR (w1.alloc (.cells #[.slice va cs.length vc, .slice vb is.length vd] 47)) w.heap.size (.slice vb is.length vd) is) := Iv.out.below hb
    have Xv : Hid ((w1.alloc (.cells #[.slice va cs.length vc, .slice vb is.length vd] 47)).heap[w1.heap.size]? = some (.cells #[.slice va cs.length vc, .slice vb is.length vd] 47 (0, 0))) := heap_alloc_new _ _
    clear hb
    generalize w1.alloc (.cells #[.slice va cs.length vc, .slice vb is.length vd] 47) = w2 at *
    generalize w1.heap.size = b2 at *
    have SPf : Hid (SP w2 (.slice va cs.length vc) cs) := sp_of Rv.out HS1.out
    have SIf : Hid (SI w2 (.slice vb is.length vd) is) := si_of Iv.out HS2.out
    clear Rv Iv
    have Bu : Hid (Below w2.heap.size w2 w2) := Below.refl _ _
    have HZF : Hid (w.heap.size ≤ w2.heap.size) := B.out.size
    have kXv_0 : w2.cell? ⟨b2, 0, none⟩ = some (.slice va cs.length vc) := heap_cell Xv.out 0
    have kXv_1 : w2.cell? ⟨b2, 1, none⟩ = some (.slice vb is.length vd) := heap_cell Xv.out 1
    have lXv : b2 < w2.heap.size := lt_of_heap Xv.out
    go_wp2_with fail
    clear kXv_0 kXv_1 lXv
    have hzbu : w.heap.size ≤ w2.heap.size := B.out.size
    refine (show Calls Tryd.prog _ _ _ (WoPost w2 (cs, is, ok)) from by rw [HR.out, ← HSM.out]; exact ParseWorld_impl l w2 hl (hm_below HMX.out B.out)).mono ?_
    rintro e w3 ⟨u, ui, rfl, ho, hi, hb⟩
    obtain ⟨ua, uc, rfl⟩ := row_slice ho
    obtain ⟨ub, ud, rfl⟩ := ir_slice hi
    have Ru := hid ho
    have Iu := hid hi
    have hzu := hb.size
    replace B : Hid (Below w.heap.size w w3) := B.out.trans (hb.mono B.out.size)
    replace Xv : Hid (w3.heap[b2]? = some (.cells #[.slice va cs.length vc, .slice vb is.length vd] 47 (0, 0))) := below_heap hb (lt_of_heap Xv.out) Xv.out
    replace Bu : Hid (Below w2.heap.size w2 w3) := Bu.out.trans (hb.mono Bu.out.size)
    clear hb ho hi
    have kXv_0 : w3.cell? ⟨b2, 0, none⟩ = some (.slice va cs.length vc) := heap_cell Xv.out 0
    have kXv_1 : w3.cell? ⟨b2, 1, none⟩ = some (.slice vb is.length vd) := heap_cell Xv.out 1
    have lXv : b2 < w3.heap.size := lt_of_heap Xv.out
    go_wp2_with fail
    clear kXv_0 kXv_1 lXv
    have hb : Below w3.heap.size w3 (w3.alloc (.cells #[.slice ua cs.length uc, .slice ub is.length ud] 47)) := (Below.refl _ _).alloc (Nat.le_refl _) _
    replace B : Hid (Below w.heap.size w (w3.alloc (.cells #[.slice ua cs.length uc, .slice ub is.length ud] 47))) := B.out.trans (hb.mono B.out.size)
    replace Xv : Hid ((w3.alloc (.cells #[.slice ua cs.length uc, .slice ub is.length ud] 47)).heap[b2]? = some (.cells #[.slice va cs.length vc, .slice vb is.length vd] 47 (0, 0))) := below_heap hb (lt_of_heap Xv.out) Xv.out
    replace Bu : Hid (Below w2.heap.size w2 (w3.alloc (.cells #[.slice ua cs.length uc, .slice ub is.length ud] 47))) := Bu.out.trans (hb.mono Bu.out.size)
    replace Ru : Hid (World.ownsRow (w3.alloc (.cells #[.slice ua cs.length uc, .slice ub is.length ud] 47)) w2.heap.size 80 2 (.slice ua cs.length uc) cs.length (flat cs)) := row_below hb Ru.out
    replace Iu : Hid (IRow.IR (w3.alloc (.cells #[.slice ua cs.length uc, .slice ub is.length ud] 47)) w2.heap.size (.slice ub is.length ud) is) := Iu.out.below hb
    have Xu : Hid ((w3.alloc (.cells #[.slice ua cs.length uc, .slice ub is.length ud] 47)).heap[w3.heap.size]? = some (.cells #[.slice ua cs.length uc, .slice ub is.length ud] 47 (0, 0))) := heap_alloc_new _ _
    clear hb
    generalize w3.alloc (.cells #[.slice ua cs.length uc, .slice ub is.length ud] 47) = w4 at *
    generalize w3.heap.size = b4 at *
    refine (eqWorld_same (.agg #[.slice ua cs.length uc, .slice ub is.length ud]) (.agg #[.slice va cs.length vc, .slice vb is.length vd]) cs is w4 ⟨_, _, rfl, sp_of Ru.out HS1.out, si_of Iu.out HS2.out⟩ ⟨_, _, rfl, SPf.out.below Bu.out, SIf.out.below Bu.out⟩).mono ?_
    rintro e w5 ⟨rfl, hb⟩
    replace B : Hid (Below w.heap.size w w5) := B.out.trans (hb.mono B.out.size)
    replace Xv : Hid (w5.heap[b2]? = some (.cells #[.slice va cs.length vc, .slice vb is.length vd] 47 (0, 0))) := below_heap hb (lt_of_heap Xv.out) Xv.out
    replace Bu : Hid (Below w2.heap.size w2 w5) := Bu.out.trans (hb.mono Bu.out.size)
    replace Ru : Hid (World.ownsRow w5 w2.heap.size 80 2 (.slice ua cs.length uc) cs.length (flat cs)) := row_below hb Ru.out
    replace Iu : Hid (IRow.IR w5 w2.heap.size (.slice ub is.length ud) is) := Iu.out.below hb
    replace Xu : Hid (w5.heap[b4]? = some (.cells #[.slice ua cs.length uc, .slice ub is.length ud] 47 (0, 0))) := below_heap hb (lt_of_heap Xu.out) Xu.out
    clear hb 
    have kXv_0 : w5.cell? ⟨b2, 0, none⟩ = some (.slice va cs.length vc) := heap_cell Xv.out 0
    have kXv_1 : w5.cell? ⟨b2, 1, none⟩ = some (.slice vb is.length vd) := heap_cell Xv.out 1
    have lXv : b2 < w5.heap.size := lt_of_heap Xv.out
    have kXu_0 : w5.cell? ⟨b4, 0, none⟩ = some (.slice ua cs.length uc) := heap_cell Xu.out 0
    have kXu_1 : w5.cell? ⟨b4, 1, none⟩ = some (.slice ub is.length ud) := heap_cell Xu.out 1
    have lXu : b4 < w5.heap.size := lt_of_heap Xu.out
    go_wp2_with fail
    clear kXv_0 kXv_1 lXv kXu_0 kXu_1 lXu
    refine (MkW.markWorld_v ua ub uc ud cs is 1 w2.heap.size w5 (by decide) (by omega) HMI.out (by omega) Bu.out.size Ru.out Iu.out).mono ?_
    rintro e w6 ⟨rfl, hm, hb, hkw⟩
    replace B : Hid (Below w.heap.size w w6) := B.out.trans (hb.mono HZF.out)
    replace Bu : Hid (Below w2.heap.size w2 w6) := Bu.out.trans hb
    replace Xv : Hid (w6.heap[b2]? = some (.cells #[.slice va cs.length vc, .slice vb is.length vd] 47 (0, 0))) := hkw _ _ _ Xv.out
    replace Xu : Hid (w6.heap[b4]? = some (.cells #[.slice ua cs.length uc, .slice ub is.length ud] 47 (0, 0))) := hkw _ _ _ Xu.out
    have M := hid hm
    clear hm hb hkw Ru Iu
    obtain ⟨K, hK⟩ : ∃ K, K = 1 + cs.length * 2 + Marks.mk (MkW.lens is) (MkW.lens is).length := ⟨_, rfl⟩
    rw [← hK]
    have HELD : Hid (∀ x, MkW.MWo x (.slice ua cs.length uc) (.slice ub is.length ud) cs.length 1 (MkW.lens is) → Calls Tryd.prog 31 #[.agg #[.slice ua cs.length uc, .slice ub is.length ud], .int .i64 1] x fun e w' => e = .returned (.int .i64 (K : Int)) ∧ Below x.heap.size x w') := fun x hx => by
      rw [hK]
      exact MkW.heldWorld_v ua ub uc ud cs.length is.length (MkW.lens is) 1 x (by decide) (by omega) HMI.out (by rw [List.length_map]; omega) hx
    clear hK
    have hneg : ¬ ((K : Int) < 0) := by omega
    have hsame : ((K : Int) != (K : Int)) = false := by simp
    have kXv_0 : w6.cell? ⟨b2, 0, none⟩ = some (.slice va cs.length vc) := heap_cell Xv.out 0
    have kXv_1 : w6.cell? ⟨b2, 1, none⟩ = some (.slice vb is.length vd) := heap_cell Xv.out 1
    have lXv : b2 < w6.heap.size := lt_of_heap Xv.out
    have kXu_0 : w6.cell? ⟨b4, 0, none⟩ = some (.slice ua cs.length uc) := heap_cell Xu.out 0
    have kXu_1 : w6.cell? ⟨b4, 1, none⟩ = some (.slice ub is.length ud) := heap_cell Xu.out 1
    have lXu : b4 < w6.heap.size := lt_of_heap Xu.out
    go_wp2_with fail
    clear kXv_0 kXv_1 lXv kXu_0 kXu_1 lXu
    refine (HELD.out w6 M.out).mono ?_
    rintro e w7 ⟨rfl, hb⟩
    replace B : Hid (Below w.heap.size w w7) := B.out.trans (hb.mono B.out.size)
    replace Xv : Hid (w7.heap[b2]? = some (.cells #[.slice va cs.length vc, .slice vb is.length vd] 47 (0, 0))) := below_heap hb (lt_of_heap Xv.out) Xv.out
    replace Bu : Hid (Below w2.heap.size w2 w7) := Bu.out.trans (hb.mono Bu.out.size)
    replace Xu : Hid (w7.heap[b4]? = some (.cells #[.slice ua cs.length uc, .slice ub is.length ud] 47 (0, 0))) := below_heap hb (lt_of_heap Xu.out) Xu.out
    replace M : Hid (MkW.MWo w7 (.slice ua cs.length uc) (.slice ub is.length ud) cs.length 1 (MkW.lens is)) := M.out.below hb
    clear hb 
    have kXv_0 : w7.cell? ⟨b2, 0, none⟩ = some (.slice va cs.length vc) := heap_cell Xv.out 0
    have kXv_1 : w7.cell? ⟨b2, 1, none⟩ = some (.slice vb is.length vd) := heap_cell Xv.out 1
    have lXv : b2 < w7.heap.size := lt_of_heap Xv.out
    have kXu_0 : w7.cell? ⟨b4, 0, none⟩ = some (.slice ua cs.length uc) := heap_cell Xu.out 0
    have kXu_1 : w7.cell? ⟨b4, 1, none⟩ = some (.slice ub is.length ud) := heap_cell Xu.out 1
    have lXu : b4 < w7.heap.size := lt_of_heap Xu.out
    go_wp2_with fail
    clear kXv_0 kXv_1 lXv kXu_0 kXu_1 lXu
    have hzbt : w.heap.size ≤ w7.heap.size := B.out.size
    refine (show Calls Tryd.prog _ _ _ (WoPost w7 (cs, is, ok)) from by rw [HR.out, ← HSM.out]; exact ParseWorld_impl l w7 hl (hm_below HMX.out B.out)).mono ?_
    rintro e w8 ⟨t, ti, rfl, ho, hi, hb⟩
    obtain ⟨ta, tc, rfl⟩ := row_slice ho
    obtain ⟨tb, td, rfl⟩ := ir_slice hi
    have Rt := hid ho
    have It := hid hi
    have hzt := hb.size
    replace B : Hid (Below w.heap.size w w8) := B.out.trans (hb.mono B.out.size)
    replace Xv : Hid (w8.heap[b2]? = some (.cells #[.slice va cs.length vc, .slice vb is.length vd] 47 (0, 0))) := below_heap hb (lt_of_heap Xv.out) Xv.out
    replace Bu : Hid (Below w2.heap.size w2 w8) := Bu.out.trans (hb.mono Bu.out.size)
    replace Xu : Hid (w8.heap[b4]? = some (.cells #[.slice ua cs.length uc, .slice ub is.length ud] 47 (0, 0))) := below_heap hb (lt_of_heap Xu.out) Xu.out
    replace M : Hid (MkW.MWo w8 (.slice ua cs.length uc) (.slice ub is.length ud) cs.length 1 (MkW.lens is)) := M.out.below hb
    clear hb ho hi
    have kXv_0 : w8.cell? ⟨b2, 0, none⟩ = some (.slice va cs.length vc) := heap_cell Xv.out 0
    have kXv_1 : w8.cell? ⟨b2, 1, none⟩ = some (.slice vb is.length vd) := heap_cell Xv.out 1
    have lXv : b2 < w8.heap.size := lt_of_heap Xv.out
    have kXu_0 : w8.cell? ⟨b4, 0, none⟩ = some (.slice ua cs.length uc) := heap_cell Xu.out 0
    have kXu_1 : w8.cell? ⟨b4, 1, none⟩ = some (.slice ub is.length ud) := heap_cell Xu.out 1
    have lXu : b4 < w8.heap.size := lt_of_heap Xu.out
    go_wp2_with fail
    clear kXv_0 kXv_1 lXv kXu_0 kXu_1 lXu
    have hb : Below w8.heap.size w8 (w8.alloc (.cells #[.slice ta cs.length tc, .slice tb is.length td] 47)) := (Below.refl _ _).alloc (Nat.le_refl _) _
    replace B : Hid (Below w.heap.size w (w8.alloc (.cells #[.slice ta cs.length tc, .slice tb is.length td] 47))) := B.out.trans (hb.mono B.out.size)
    replace Xv : Hid ((w8.alloc (.cells #[.slice ta cs.length tc, .slice tb is.length td] 47)).heap[b2]? = some (.cells #[.slice va cs.length vc, .slice vb is.length vd] 47 (0, 0))) := below_heap hb (lt_of_heap Xv.out) Xv.out
    replace Bu : Hid (Below w2.heap.size w2 (w8.alloc (.cells #[.slice ta cs.length tc, .slice tb is.length td] 47))) := Bu.out.trans (hb.mono Bu.out.size)
    replace Xu : Hid ((w8.alloc (.cells #[.slice ta cs.length tc, .slice tb is.length td] 47)).heap[b4]? = some (.cells #[.slice ua cs.length uc, .slice ub is.length ud] 47 (0, 0))) := below_heap hb (lt_of_heap Xu.out) Xu.out
    replace M : Hid (MkW.MWo (w8.alloc (.cells #[.slice ta cs.length tc, .slice tb is.length td] 47)) (.slice ua cs.length uc) (.slice ub is.length ud) cs.length 1 (MkW.lens is)) := M.out.below hb
    replace Rt : Hid (World.ownsRow (w8.alloc (.cells #[.slice ta cs.length tc, .slice tb is.length td] 47)) w7.heap.size 80 2 (.slice ta cs.length tc) cs.length (flat cs)) := row_below hb Rt.out
    replace It : Hid (IRow.IR (w8.alloc (.cells #[.slice ta cs.length tc, .slice tb is.length td] 47)) w7.heap.size (.slice tb is.length td) is) := It.out.below hb
    have Xt : Hid ((w8.alloc (.cells #[.slice ta cs.length tc, .slice tb is.length td] 47)).heap[w8.heap.size]? = some (.cells #[.slice ta cs.length tc, .slice tb is.length td] 47 (0, 0))) := heap_alloc_new _ _
    clear hb
    generalize w8.alloc (.cells #[.slice ta cs.length tc, .slice tb is.length td] 47) = w9 at *
    generalize w8.heap.size = b9 at *
    refine (eqWorld_same (.agg #[.slice ta cs.length tc, .slice tb is.length td]) (.agg #[.slice va cs.length vc, .slice vb is.length vd]) cs is w9 ⟨_, _, rfl, sp_of Rt.out HS1.out, si_of It.out HS2.out⟩ ⟨_, _, rfl, SPf.out.below Bu.out, SIf.out.below Bu.out⟩).mono ?_
    rintro e w10 ⟨rfl, hb⟩
    replace B : Hid (Below w.heap.size w w10) := B.out.trans (hb.mono B.out.size)
    replace Xv : Hid (w10.heap[b2]? = some (.cells #[.slice va cs.length vc, .slice vb is.length vd] 47 (0, 0))) := below_heap hb (lt_of_heap Xv.out) Xv.out
    replace Bu : Hid (Below w2.heap.size w2 w10) := Bu.out.trans (hb.mono Bu.out.size)
    replace Xu : Hid (w10.heap[b4]? = some (.cells #[.slice ua cs.length uc, .slice ub is.length ud] 47 (0, 0))) := below_heap hb (lt_of_heap Xu.out) Xu.out
    replace M : Hid (MkW.MWo w10 (.slice ua cs.length uc) (.slice ub is.length ud) cs.length 1 (MkW.lens is)) := M.out.below hb
    replace Rt : Hid (World.ownsRow w10 w7.heap.size 80 2 (.slice ta cs.length tc) cs.length (flat cs)) := row_below hb Rt.out
    replace It : Hid (IRow.IR w10 w7.heap.size (.slice tb is.length td) is) := It.out.below hb
    replace Xt : Hid (w10.heap[b9]? = some (.cells #[.slice ta cs.length tc, .slice tb is.length td] 47 (0, 0))) := below_heap hb (lt_of_heap Xt.out) Xt.out
    clear hb 
    have kXv_0 : w10.cell? ⟨b2, 0, none⟩ = some (.slice va cs.length vc) := heap_cell Xv.out 0
    have kXv_1 : w10.cell? ⟨b2, 1, none⟩ = some (.slice vb is.length vd) := heap_cell Xv.out 1
    have lXv : b2 < w10.heap.size := lt_of_heap Xv.out
    have kXu_0 : w10.cell? ⟨b4, 0, none⟩ = some (.slice ua cs.length uc) := heap_cell Xu.out 0
    have kXu_1 : w10.cell? ⟨b4, 1, none⟩ = some (.slice ub is.length ud) := heap_cell Xu.out 1
    have lXu : b4 < w10.heap.size := lt_of_heap Xu.out
    have kXt_0 : w10.cell? ⟨b9, 0, none⟩ = some (.slice ta cs.length tc) := heap_cell Xt.out 0
    have kXt_1 : w10.cell? ⟨b9, 1, none⟩ = some (.slice tb is.length td) := heap_cell Xt.out 1
    have lXt : b9 < w10.heap.size := lt_of_heap Xt.out
    go_wp2_with fail
    clear kXv_0 kXv_1 lXv kXu_0 kXu_1 lXu kXt_0 kXt_1 lXt
    refine (HELD.out w10 M.out).mono ?_
    rintro e w11 ⟨rfl, hb⟩
    replace B : Hid (Below w.heap.size w w11) := B.out.trans (hb.mono B.out.size)
    replace Xv : Hid (w11.heap[b2]? = some (.cells #[.slice va cs.length vc, .slice vb is.length vd] 47 (0, 0))) := below_heap hb (lt_of_heap Xv.out) Xv.out
    replace Bu : Hid (Below w2.heap.size w2 w11) := Bu.out.trans (hb.mono Bu.out.size)
    replace Xu : Hid (w11.heap[b4]? = some (.cells #[.slice ua cs.length uc, .slice ub is.length ud] 47 (0, 0))) := below_heap hb (lt_of_heap Xu.out) Xu.out
    replace M : Hid (MkW.MWo w11 (.slice ua cs.length uc) (.slice ub is.length ud) cs.length 1 (MkW.lens is)) := M.out.below hb
    replace Rt : Hid (World.ownsRow w11 w7.heap.size 80 2 (.slice ta cs.length tc) cs.length (flat cs)) := row_below hb Rt.out
    replace It : Hid (IRow.IR w11 w7.heap.size (.slice tb is.length td) is) := It.out.below hb
    replace Xt : Hid (w11.heap[b9]? = some (.cells #[.slice ta cs.length tc, .slice tb is.length td] 47 (0, 0))) := below_heap hb (lt_of_heap Xt.out) Xt.out
    clear hb 
    go_wp2
    go_ret
    exact ⟨rfl, B.out⟩

theorem lifted (os : Os) (started : os.Started) (H : Type) (enc : TypeId × Value → H) :
    ReturnsInHanded {} Tryd.checked os 7 .any (fun w args => (Rows.fnExactParseWorldSpec.pre enc Tryd.prog Tryd.f7 Rows.fnExactParseWorldRow.domain false w args ∧ laidMetH Tryd.prog Rows.fnExactParseWorldRow.laid w) ∧ sizedMet enc Tryd.prog Tryd.f7 (OpenSpec.ofChange Rows.fnExactParseWorldSpec) false w args) (Rows.fnExactParseWorldSpec.post enc Tryd.prog Tryd.f7 false true false false) := by
  refine Shp.lifted_and_shape (C := Tryd.checked) (X := fun w _ => laidMetH Tryd.prog Rows.fnExactParseWorldRow.laid w) (fun _ _ _ hh h => h.of_heap hh) own started (by kernel_rfl) Tryd.func7
    (ChangeSpec.witness_shaped (enc := enc) (C := Tryd.checked) (os := os) (X := fun w _ => laidMetH Tryd.prog Rows.fnExactParseWorldRow.laid w) false (World.laidAll Tryd.prog os Rows.fnExactParseWorldRow.laid) #[.string ByteArray.empty] 8 (World.laidAll_os _ _ _)
      (World.shaped_of_ZipB (by kernel_rfl) (by kernel_rfl)) (by kernel_rfl) (by kernel_rfl) (by kernel_rfl)
      (by rw [MakeChecks.laidMetH_plain _ _ _ (by kernel_rfl)]; exact laidMet_laidAll _ (by kernel_rfl) (by kernel_rfl))) ?_
  intro W base args ds gs before hsh _ hval0 hW hcnd _
  have hmx := cell_of_shapedOpen_int (P := Tryd.prog) (g := 0) (t := 3) (zero := #[.int .i64 0]) hsh (of_decide_eq_true (by kernel_rfl)) (by kernel_rfl) rfl (by kernel_rfl) (by kernel_rfl) Tryd.underlying3
  have hval : ∀ (j : Nat) t v, Tryd.f7.params[j]? = some t → args[j]? = some v → Value.okWide Tryd.prog W .any base t v := hval0
  have hW' := hW
  obtain ⟨p, q, hA0, hV, rfl, hfz, hnd⟩ := hW
  have hA : DataW.TrodAll enc Tryd.prog W 0 (fun _ => true) true Tryd.f7.params.toList args.toList ds p := hA0
  rw [Tryd.params7] at hA hval
  have hL := DataW.TrodAll.lt hA
  obtain ⟨v0, vs0, d0, ds0, p0, q0, hargs, rfl, rfl, h0, r0⟩ := trodAll_cons hA
  obtain ⟨rfl, rfl, rfl⟩ := trodAll_nil r0
  obtain rfl : args = #[v0] := by cases args; simp_all
  obtain ⟨rfl, rfl⟩ := trodVars_none hV
  have k0 := h0
  have l0 : ∀ x ∈ p0, x.block < W.heap.size := fun x hx => hL x (by simp [hx])
  obtain ⟨a0, rfl, -, -, w0⟩ := open_string Tryd.underlying9 (hval 0 9 v0 rfl rfl) h0
  clear hA0 hval0
  simp only [List.append_nil] at hW'
  refine (walk a0 w0 W hmx).mono fun e W' ⟨he, bel⟩ => ?_
  subst he
  exact ⟨_, rfl, _, _, _, [], _, [], hW', (trodAll_cons_mk (shut_bool Tryd.underlying4 _) trodAll_mk0), (trodAll_cons_mk (Below.trod laidOut (by kernel_rfl) (of_decide_eq_true (by kernel_rfl)) k0 bel l0) trodAll_mk0), rfl, bel.frame _, fun h => by cases h⟩
theorem e1 : Rows.fnExactParseWorldRow.lifted = Rows.fnExactInstancesInRow.lifted := rfl
theorem e2 : Rows.fnExactParseWorldRow.make = Rows.fnExactInstancesInRow.make := rfl
theorem e3 : Rows.fnExactParseWorldRow.plainKeys = Rows.fnExactInstancesInRow.plainKeys := rfl
theorem facts : joinedFacts Tryd.pinned.checked.prog 7 Tryd.f7 Rows.fnExactParseWorldSpec Rows.fnExactParseWorldRow = true := by
  refine Facts.joined e1 e2 e3 ?_ ?_ ?_ ?_ ?_ ?_ ?_ ?_ ?_ ?_ ?_ ?_ ?_ ?_ ?_ ?_ ?_ ?_ ?_ ?_ ?_ ?_ ?_
  all_goals as_aux_lemma => kernel_rfl
theorem over : Rows.fnExactParseWorldRow.holds Tryd.pinned (OpenSpec.ofChange Rows.fnExactParseWorldSpec) :=
  OpenClaim.holds_of_wide 7 Tryd.f7 rfl rfl rfl rfl rfl rfl rfl ⟨rfl, rfl, rfl, rfl, rfl⟩ rfl rfl rfl rfl rfl (by kernel_rfl) Tryd.func7 facts
    (of_decide_eq_true (by kernel_rfl)) (by unfold Func.isWrapper; first | (rw [if_pos (by decide +kernel)]; kernel_rfl) | (rw [if_neg (by decide +kernel)]; exact ⟨rfl, rfl⟩))
    (fun os started H enc _ => lifted os started H enc)
end Go.Proofs.YtlckalgdfbpejaaDoor.fnExactParseWorld
namespace Go.Proofs.YtlckalgdfbpejaaDoor
theorem fnExactParseWorld_holds : Rows.FnExactParseWorldCardSaid :=
  Claim7.holds_tied_plain_at .later [] Rows.fnExactParseWorldCard.laidKinds true Rows.fnExactParseWorldCard.stood.harness Rows.fnExactParseWorldCard.stood.looks
    fnExactParseWorld.over (fun _ h => by cases h) (by kernel_rfl) (fun _ h => by cases h) fnExactParseWorld_row_tie rfl ⟨rfl, rfl⟩ (by kernel_rfl) rfl
    (fun f fn hf hfn => by
      obtain rfl : f = 7 := Option.some.inj ((show Tryd.prog.funcNamed "loop.example/instancesearch/laws.FnExactParseWorld" = some 7 by kernel_rfl).symm.trans hf) |>.symm
      obtain rfl : fn = Tryd.f7 := (Option.some.inj (Tryd.func7.symm.trans hfn)).symm
      exact ⟨by kernel_rfl, fun j t ht => by
        rw [Tryd.params7] at ht
        have hm := Array.mem_of_getElem? ht
        have hall : (Tryd.f7.params.all fun u => !Tryd.prog.wantsStandIn u) = true := by kernel_rfl
        rw [Tryd.params7] at hall
        have := Array.all_eq_true'.1 hall t hm
        exact (show Tryd.prog.wantsStandIn t = false by simpa using this)⟩)
    (by kernel_rfl)
end Go.Proofs.YtlckalgdfbpejaaDoor
