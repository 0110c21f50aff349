/- FnExactInstancesFor answers true for every input: the program's InstancesFor returns what the reference's returns. Conditions: none. -/
import Derived.Test.YtaijklafgcocmaaInFor
import Derived.Test.YtaijklafgcocmaaMarks
import Derived.Test.YtaijklafgcocmaaReg2
import Derived.Test.YtaijklafgcocmaaRows
import Derived.Test.YtaijklafgcocmaaFacts
import Derived.WalkKit
import Derived.ProofKit
import Derived.OpenShut
import Derived.ShutString
import Derived.ChangeOld
import Derived.Below
import Derived.Carry
import Derived.Lib.SmallJoins
set_option linter.unusedVariables false
set_option linter.unusedSimpArgs false
set_option maxRecDepth 100000
namespace Go.Proofs.Ytaijklafgcocmaa.fnExactInstancesFor
open Go.ChangeShapes Go.WideShapes Go.ChangeAt Go.RowKit Go.Joins Ty Known Classes IV WV
open Go.ChangeMaps (open_string shut_string)

theorem own : ownKnob Try.prog.godebug = none := by kernel_rfl
theorem laidOut : laidOutB Try.prog = true := by kernel_rfl
theorem bytes (s : ByteArray) : ∃ l : List UInt8, s = ⟨l.toArray⟩ ∧ s.size = l.length := ⟨s.data.toList, rfl, by simp⟩
theorem mk_bound0 (is : List II) : ((is.map fun p => p.2.2.length).map fun n => 2 + n * 2).sum ≤ 2 * is.length + 2 * itot is := by
  induction is with
  | nil => simp
  | cons p r ih =>
    rw [show itot (p :: r) = iw p + itot r from rfl]
    simp only [List.map_cons, List.sum_cons, List.length_cons]
    unfold iw
    omega
theorem mk_bound (is0 : List II) (i : Nat) : Marks.mk (is0.map fun p => p.2.2.length) i ≤ 2 * i + 2 * itot is0 := by
  unfold Marks.mk
  rw [← List.map_take]
  have h1 := mk_bound0 (is0.take i)
  have h2 := itot_le is0 i
  rw [List.length_take] at h1
  omega
set_option maxHeartbeats 8000000 in
theorem walk (w : World) (v0 : Value) (cs0 : List BB) (is0 : List II) (s0 : WR w v0 cs0 is0) (a1 : ByteArray) (w1 : a1.size ≤ maxLen) :
    Calls Try.prog 8 #[v0, .string a1] w fun e w' => e = .returned (.bool true) ∧ Below w.heap.size w w' := by
  obtain ⟨x0, y0, rfl, hs, hi⟩ := s0
  obtain ⟨a, cap, rfl⟩ := sp_slice hs
  obtain ⟨b, cap2, rfl⟩ := si_slice hi
  have B : Hid (Below w.heap.size w (w.alloc (.cells #[.slice a cs0.length cap, .slice b is0.length cap2] 25))) := (Below.refl _ _).alloc (Nat.le_refl _) _
  have X1 : Hid ((w.alloc (.cells #[.slice a cs0.length cap, .slice b is0.length cap2] 25)).heap[w.heap.size]? = some (.cells #[.slice a cs0.length cap, .slice b is0.length cap2] 25 (0, 0))) := heap_alloc_new _ _
  have R0 : Hid (WR (w.alloc (.cells #[.slice a cs0.length cap, .slice b is0.length cap2] 25)) (.agg #[.slice a cs0.length cap, .slice b is0.length cap2]) cs0 is0) := WR.below ⟨_, _, rfl, hs, hi⟩ B.out
  have RA : Hid (WR w (.agg #[.slice a cs0.length cap, .slice b is0.length cap2]) cs0 is0) := ⟨_, _, rfl, hs, hi⟩
  clear hs hi
  by_cases hxs : a1.size ≤ 1048576
  case neg =>
    have hxs2 : ¬ ((a1.size : Int) ≤ 1048576) := by omega
    clear X1 R0 B
    unfold maxLen at w1
    go_enter Try.func8, Try.ntmps8
    go_wp2_with fail
    go_ret
    exact ⟨rfl, (Below.refl _ _).alloc (Nat.le_refl _) _⟩
  by_cases hsz : cs0.length + tot cs0 + is0.length + itot is0 ≤ 1048576
  case neg =>
    have HZ : Hid (szW cs0 is0 1048576 = -1) := by show _ = _; unfold szW; rw [if_neg (by omega)]
    clear hsz
    go_enter Try.func8, Try.ntmps8
    go_wp2_with fail
    generalize w.alloc (.cells #[.slice a cs0.length cap, .slice b is0.length cap2] 25) = w0 at *
    refine (szWorld_any _ cs0 is0 _ w0 (by omega) (by omega) R0.out).mono ?_
    rintro e w1 ⟨rfl, hb⟩
    replace B : Hid (Below w.heap.size w w1) := B.out.trans (hb.mono B.out.size)
    clear hb
    rw [HZ.out]
    go_wp2
    go_ret
    exact ⟨rfl, B.out⟩
  have hcl : cs0.length ≤ 1048576 := by omega
  have hil : is0.length ≤ 1048576 := by omega
  have h0 : Hid (tot cs0 + cs0.length ≤ 1048576) := by show _ ≤ _; omega
  have h1 : Hid (itot is0 + is0.length ≤ 1048576) := by show _ ≤ _; omega
  have hnb : Hid (∀ p ∈ is0, p.2.2.length ≤ 1048576) := fun p hp => by
    obtain ⟨k, hk, hh⟩ := List.mem_iff_getElem.1 hp
    have := (WV.ibnd h1.out k p (by rw [List.getElem?_eq_getElem hk, hh])).2.2
    omega
  obtain ⟨m, hm, HZ⟩ : ∃ m : Nat, cs0.length + tot cs0 + is0.length + itot is0 + m = 1048576 ∧ Hid (szW cs0 is0 1048576 = m) := ⟨1048576 - (cs0.length + tot cs0 + is0.length + itot is0), by omega, by show _ = _; unfold szW; rw [if_pos (by omega)]; omega⟩
  clear hsz
  have HM : Hid (cs0.length + tot cs0 + is0.length + itot is0 + m = 1048576) := hm
  have hm2 : m ≤ 1048576 := by omega
  clear hm
  have HMK : Hid (∀ i, Marks.mk (is0.map fun p => p.2.2.length) i ≤ 2 * i + 2 * itot is0) := mk_bound is0
  have HXL : Hid ((InFor.inL cs0 is0 a1).length ≤ 1048576) := by show _ ≤ _; have := InFor.inL_len cs0 is0 a1; omega
  go_enter Try.func8, Try.ntmps8
  go_wp2_with fail
  generalize w.alloc (.cells #[.slice a cs0.length cap, .slice b is0.length cap2] 25) = w0 at *
  refine (szWorld_any _ cs0 is0 _ w0 (by omega) (by omega) R0.out).mono ?_
  rintro e w1 ⟨rfl, hb⟩
  replace B : Hid (Below w.heap.size w w1) := B.out.trans (hb.mono B.out.size)
  replace X1 : Hid (w1.heap[w.heap.size]? = some (.cells #[.slice a cs0.length cap, .slice b is0.length cap2] 25 (0, 0))) := below_heap hb (lt_of_heap X1.out) X1.out
  replace R0 : Hid (WR w1 (.agg #[.slice a cs0.length cap, .slice b is0.length cap2]) cs0 is0) := R0.out.below hb
  clear hb
  rw [HZ.out]
  obtain ⟨xs, hxs⟩ : ∃ v, v = InFor.inL cs0 is0 a1 := ⟨_, rfl⟩
  obtain ⟨okb, hok⟩ : ∃ v, v = HC.hcB cs0 is0 a1 := ⟨_, rfl⟩
  rw [← hxs] at HXL
  have hxn : Hid (xs.length ≤ 1099511627776) := by show _ ≤ _; have := HXL.out; omega
  have HXS := hid hxs
  have HOK := hid hok
  clear hxs hok
  have kX1_0 : w1.cell? ⟨w.heap.size, 0, none⟩ = some (.slice a cs0.length cap) := heap_cell X1.out 0
  have kX1_1 : w1.cell? ⟨w.heap.size, 1, none⟩ = some (.slice b is0.length cap2) := heap_cell X1.out 1
  have lX1 : w.heap.size < w1.heap.size := lt_of_heap X1.out
  go_wp2_with fail
  clear kX1_0 kX1_1 lX1
  refine (toWorld_any _ cs0 is0 w1 hcl hil hnb.out R0.out).mono ?_
  rintro e w2 ⟨p, pi, rfl, hsp, hsi, -, hb⟩
  replace B : Hid (Below w.heap.size w w2) := B.out.trans (hb.mono B.out.size)
  replace X1 : Hid (w2.heap[w.heap.size]? = some (.cells #[.slice a cs0.length cap, .slice b is0.length cap2] 25 (0, 0))) := below_heap hb (lt_of_heap X1.out) X1.out
  replace R0 : Hid (WR w2 (.agg #[.slice a cs0.length cap, .slice b is0.length cap2]) cs0 is0) := R0.out.below hb
  have Pp : Hid (SP w2 (.slice (some ⟨p, 0, none⟩) cs0.length cs0.length) cs0) := hsp
  have Ip : Hid (SI w2 (.slice (some ⟨pi, 0, none⟩) is0.length is0.length) is0) := hsi
  clear hb hsp hsi
  have kX1_0 : w2.cell? ⟨w.heap.size, 0, none⟩ = some (.slice a cs0.length cap) := heap_cell X1.out 0
  have kX1_1 : w2.cell? ⟨w.heap.size, 1, none⟩ = some (.slice b is0.length cap2) := heap_cell X1.out 1
  have lX1 : w.heap.size < w2.heap.size := lt_of_heap X1.out
  go_wp2_with fail
  clear kX1_0 kX1_1 lX1
  refine (show Calls Try.prog _ _ _ (Among.LB _ xs okb) from by rw [HXS.out, HOK.out]; exact InFor.InstancesFor_spec (some ⟨p, 0, none⟩) (some ⟨pi, 0, none⟩) cs0.length is0.length cs0 is0 a1 w2 h0.out h1.out (Nat.le_refl _) Pp.out Ip.out).mono ?_
  rintro e w3 ⟨v1, rfl, hr, hb⟩
  have Sv1 := hid hr
  have Ov1 := hid (ListS.row_own hr)
  have hzv1 := hb.size
  replace B : Hid (Below w.heap.size w w3) := B.out.trans (hb.mono B.out.size)
  replace X1 : Hid (w3.heap[w.heap.size]? = some (.cells #[.slice a cs0.length cap, .slice b is0.length cap2] 25 (0, 0))) := below_heap hb (lt_of_heap X1.out) X1.out
  replace R0 : Hid (WR w3 (.agg #[.slice a cs0.length cap, .slice b is0.length cap2]) cs0 is0) := R0.out.below hb
  replace Pp : Hid (SP w3 (.slice (some ⟨p, 0, none⟩) cs0.length cs0.length) cs0) := Pp.out.below hb
  replace Ip : Hid (SI w3 (.slice (some ⟨pi, 0, none⟩) is0.length is0.length) is0) := Ip.out.below hb
  clear hb hr
  clear Pp Ip
  have hlob : w.heap.size ≤ w3.heap.size := B.out.size
  have hlo1 : w.heap.size < w3.heap.size := lt_of_heap X1.out
  have kX1_0 : w3.cell? ⟨w.heap.size, 0, none⟩ = some (.slice a cs0.length cap) := heap_cell X1.out 0
  have kX1_1 : w3.cell? ⟨w.heap.size, 1, none⟩ = some (.slice b is0.length cap2) := heap_cell X1.out 1
  have lX1 : w.heap.size < w3.heap.size := lt_of_heap X1.out
  go_wp2_with fail
  clear kX1_0 kX1_1 lX1
  refine (toWorld_any _ cs0 is0 w3 hcl hil hnb.out R0.out).mono ?_
  rintro e w4 ⟨q, qi, rfl, hsp, hsi, hwo, hb⟩
  have MQ := hid (Marks.MI.of_TI hwo.2.2.2 (Nat.le_trans hwo.1 (Nat.le_of_lt hwo.2.1)))
  have GQ := hid hwo.2.2.1
  have hq1 := hwo.1
  have hq2 := hwo.2.1
  have hq3 : q < w4.heap.size := lt_of_heap hwo.2.2.1
  have hlz := hb.size
  replace B : Hid (Below w.heap.size w w4) := B.out.trans (hb.mono B.out.size)
  replace X1 : Hid (w4.heap[w.heap.size]? = some (.cells #[.slice a cs0.length cap, .slice b is0.length cap2] 25 (0, 0))) := below_heap hb (lt_of_heap X1.out) X1.out
  replace R0 : Hid (WR w4 (.agg #[.slice a cs0.length cap, .slice b is0.length cap2]) cs0 is0) := R0.out.below hb
  replace Sv1 : Hid (World.ownsRow w4 w2.heap.size 3 1 v1 xs.length (ListS.ints xs)) := ListS.row_below hb Sv1.out
  have Pq : Hid (SP w4 (.slice (some ⟨q, 0, none⟩) cs0.length cs0.length) cs0) := hsp
  have Iq : Hid (SI w4 (.slice (some ⟨qi, 0, none⟩) is0.length is0.length) is0) := hsi
  clear hb hsp hsi hwo
  have kX1_0 : w4.cell? ⟨w.heap.size, 0, none⟩ = some (.slice a cs0.length cap) := heap_cell X1.out 0
  have kX1_1 : w4.cell? ⟨w.heap.size, 1, none⟩ = some (.slice b is0.length cap2) := heap_cell X1.out 1
  have lX1 : w.heap.size < w4.heap.size := lt_of_heap X1.out
  go_wp2_with fail
  clear kX1_0 kX1_1 lX1
  have hb : Below w4.heap.size w4 (w4.alloc (.cells #[.slice (some ⟨q, 0, none⟩) cs0.length cs0.length, .slice (some ⟨qi, 0, none⟩) is0.length is0.length] 37)) := (Below.refl _ _).alloc (Nat.le_refl _) _
  replace B : Hid (Below w.heap.size w (w4.alloc (.cells #[.slice (some ⟨q, 0, none⟩) cs0.length cs0.length, .slice (some ⟨qi, 0, none⟩) is0.length is0.length] 37))) := B.out.trans (hb.mono B.out.size)
  replace X1 : Hid ((w4.alloc (.cells #[.slice (some ⟨q, 0, none⟩) cs0.length cs0.length, .slice (some ⟨qi, 0, none⟩) is0.length is0.length] 37)).heap[w.heap.size]? = some (.cells #[.slice a cs0.length cap, .slice b is0.length cap2] 25 (0, 0))) := below_heap hb (lt_of_heap X1.out) X1.out
  replace R0 : Hid (WR (w4.alloc (.cells #[.slice (some ⟨q, 0, none⟩) cs0.length cs0.length, .slice (some ⟨qi, 0, none⟩) is0.length is0.length] 37)) (.agg #[.slice a cs0.length cap, .slice b is0.length cap2]) cs0 is0) := R0.out.below hb
  replace Sv1 : Hid (World.ownsRow (w4.alloc (.cells #[.slice (some ⟨q, 0, none⟩) cs0.length cs0.length, .slice (some ⟨qi, 0, none⟩) is0.length is0.length] 37)) w2.heap.size 3 1 v1 xs.length (ListS.ints xs)) := ListS.row_below hb Sv1.out
  replace Pq : Hid (SP (w4.alloc (.cells #[.slice (some ⟨q, 0, none⟩) cs0.length cs0.length, .slice (some ⟨qi, 0, none⟩) is0.length is0.length] 37)) (.slice (some ⟨q, 0, none⟩) cs0.length cs0.length) cs0) := Pq.out.below hb
  replace Iq : Hid (SI (w4.alloc (.cells #[.slice (some ⟨q, 0, none⟩) cs0.length cs0.length, .slice (some ⟨qi, 0, none⟩) is0.length is0.length] 37)) (.slice (some ⟨qi, 0, none⟩) is0.length is0.length) is0) := Iq.out.below hb
  replace GQ : Hid (((w4.alloc (.cells #[.slice (some ⟨q, 0, none⟩) cs0.length cs0.length, .slice (some ⟨qi, 0, none⟩) is0.length is0.length] 37))).heap[q]? = some (.cells (flat cs0).toArray 86 (0, 0))) := below_heap hb (lt_of_heap GQ.out) GQ.out
  replace MQ : Hid (Marks.MI w3.heap.size w4.heap.size (w4.alloc (.cells #[.slice (some ⟨q, 0, none⟩) cs0.length cs0.length, .slice (some ⟨qi, 0, none⟩) is0.length is0.length] 37)) qi (is0.map fun p => p.2.2.length)) := MQ.out.below hb
  have XQ : Hid ((w4.alloc (.cells #[.slice (some ⟨q, 0, none⟩) cs0.length cs0.length, .slice (some ⟨qi, 0, none⟩) is0.length is0.length] 37)).heap[w4.heap.size]? = some (.cells #[.slice (some ⟨q, 0, none⟩) cs0.length cs0.length, .slice (some ⟨qi, 0, none⟩) is0.length is0.length] 37 (0, 0))) := heap_alloc_new _ _
  clear hb
  generalize w4.alloc (.cells #[.slice (some ⟨q, 0, none⟩) cs0.length cs0.length, .slice (some ⟨qi, 0, none⟩) is0.length is0.length] 37) = w5 at *
  generalize w4.heap.size = b5 at *
  have hxq : b5 < w5.heap.size := lt_of_heap XQ.out
  refine (show Calls Try.prog _ _ _ (Among.LB _ xs okb) from by rw [HXS.out, HOK.out]; exact InFor.InstancesFor_impl (some ⟨q, 0, none⟩) (some ⟨qi, 0, none⟩) cs0.length is0.length cs0 is0 a1 w5 h0.out h1.out (Nat.le_refl _) Pq.out Iq.out).mono ?_
  rintro e w6 ⟨v2, rfl, hr, hb⟩
  have Sv2 := hid hr
  have Ov2 := hid (ListS.row_own hr)
  have hzv2 := hb.size
  replace B : Hid (Below w.heap.size w w6) := B.out.trans (hb.mono B.out.size)
  replace X1 : Hid (w6.heap[w.heap.size]? = some (.cells #[.slice a cs0.length cap, .slice b is0.length cap2] 25 (0, 0))) := below_heap hb (lt_of_heap X1.out) X1.out
  replace R0 : Hid (WR w6 (.agg #[.slice a cs0.length cap, .slice b is0.length cap2]) cs0 is0) := R0.out.below hb
  replace Sv1 : Hid (World.ownsRow w6 w2.heap.size 3 1 v1 xs.length (ListS.ints xs)) := ListS.row_below hb Sv1.out
  replace Pq : Hid (SP w6 (.slice (some ⟨q, 0, none⟩) cs0.length cs0.length) cs0) := Pq.out.below hb
  replace Iq : Hid (SI w6 (.slice (some ⟨qi, 0, none⟩) is0.length is0.length) is0) := Iq.out.below hb
  replace GQ : Hid ((w6).heap[q]? = some (.cells (flat cs0).toArray 86 (0, 0))) := below_heap hb (lt_of_heap GQ.out) GQ.out
  replace MQ : Hid (Marks.MI w3.heap.size b5 w6 qi (is0.map fun p => p.2.2.length)) := MQ.out.below hb
  replace XQ : Hid (w6.heap[b5]? = some (.cells #[.slice (some ⟨q, 0, none⟩) cs0.length cs0.length, .slice (some ⟨qi, 0, none⟩) is0.length is0.length] 37 (0, 0))) := below_heap hb (lt_of_heap XQ.out) XQ.out
  clear hb hr
  have kX1_0 : w6.cell? ⟨w.heap.size, 0, none⟩ = some (.slice a cs0.length cap) := heap_cell X1.out 0
  have kX1_1 : w6.cell? ⟨w.heap.size, 1, none⟩ = some (.slice b is0.length cap2) := heap_cell X1.out 1
  have lX1 : w.heap.size < w6.heap.size := lt_of_heap X1.out
  have kXQ_0 : w6.cell? ⟨b5, 0, none⟩ = some (.slice (some ⟨q, 0, none⟩) cs0.length cs0.length) := heap_cell XQ.out 0
  have kXQ_1 : w6.cell? ⟨b5, 1, none⟩ = some (.slice (some ⟨qi, 0, none⟩) is0.length is0.length) := heap_cell XQ.out 1
  have lXQ : b5 < w6.heap.size := lt_of_heap XQ.out
  go_wp2_with fail
  clear kX1_0 kX1_1 lX1 kXQ_0 kXQ_1 lXQ
  refine (Among.eqInt_b v2 v1 xs w6 _ _ hxn.out Sv2.out Sv1.out).mono ?_
  rintro e w7 ⟨rfl, hb⟩
  replace B : Hid (Below w.heap.size w w7) := B.out.trans (hb.mono B.out.size)
  replace X1 : Hid (w7.heap[w.heap.size]? = some (.cells #[.slice a cs0.length cap, .slice b is0.length cap2] 25 (0, 0))) := below_heap hb (lt_of_heap X1.out) X1.out
  replace R0 : Hid (WR w7 (.agg #[.slice a cs0.length cap, .slice b is0.length cap2]) cs0 is0) := R0.out.below hb
  replace Sv1 : Hid (World.ownsRow w7 w2.heap.size 3 1 v1 xs.length (ListS.ints xs)) := ListS.row_below hb Sv1.out
  replace Pq : Hid (SP w7 (.slice (some ⟨q, 0, none⟩) cs0.length cs0.length) cs0) := Pq.out.below hb
  replace Iq : Hid (SI w7 (.slice (some ⟨qi, 0, none⟩) is0.length is0.length) is0) := Iq.out.below hb
  replace GQ : Hid ((w7).heap[q]? = some (.cells (flat cs0).toArray 86 (0, 0))) := below_heap hb (lt_of_heap GQ.out) GQ.out
  replace MQ : Hid (Marks.MI w3.heap.size b5 w7 qi (is0.map fun p => p.2.2.length)) := MQ.out.below hb
  replace XQ : Hid (w7.heap[b5]? = some (.cells #[.slice (some ⟨q, 0, none⟩) cs0.length cs0.length, .slice (some ⟨qi, 0, none⟩) is0.length is0.length] 37 (0, 0))) := below_heap hb (lt_of_heap XQ.out) XQ.out
  replace Sv2 : Hid (World.ownsRow w7 w5.heap.size 3 1 v2 xs.length (ListS.ints xs)) := ListS.row_below hb Sv2.out
  clear hb 
  have kX1_0 : w7.cell? ⟨w.heap.size, 0, none⟩ = some (.slice a cs0.length cap) := heap_cell X1.out 0
  have kX1_1 : w7.cell? ⟨w.heap.size, 1, none⟩ = some (.slice b is0.length cap2) := heap_cell X1.out 1
  have lX1 : w.heap.size < w7.heap.size := lt_of_heap X1.out
  have kXQ_0 : w7.cell? ⟨b5, 0, none⟩ = some (.slice (some ⟨q, 0, none⟩) cs0.length cs0.length) := heap_cell XQ.out 0
  have kXQ_1 : w7.cell? ⟨b5, 1, none⟩ = some (.slice (some ⟨qi, 0, none⟩) is0.length is0.length) := heap_cell XQ.out 1
  have lXQ : b5 < w7.heap.size := lt_of_heap XQ.out
  go_wp2_with fail
  clear kX1_0 kX1_1 lX1 kXQ_0 kXQ_1 lXQ
  refine wp_region_any (by kernel_rfl) ?_
  change wpAny _ _ _ _ _ _ _ (World.drew _)
  have hb : Below w7.heap.size w7 w7.drew := below_drew1 (Below.refl _ _)
  replace B : Hid (Below w.heap.size w w7.drew) := B.out.trans (hb.mono B.out.size)
  replace X1 : Hid (w7.drew.heap[w.heap.size]? = some (.cells #[.slice a cs0.length cap, .slice b is0.length cap2] 25 (0, 0))) := below_heap hb (lt_of_heap X1.out) X1.out
  replace R0 : Hid (WR w7.drew (.agg #[.slice a cs0.length cap, .slice b is0.length cap2]) cs0 is0) := R0.out.below hb
  replace Sv1 : Hid (World.ownsRow w7.drew w2.heap.size 3 1 v1 xs.length (ListS.ints xs)) := ListS.row_below hb Sv1.out
  replace Pq : Hid (SP w7.drew (.slice (some ⟨q, 0, none⟩) cs0.length cs0.length) cs0) := Pq.out.below hb
  replace Iq : Hid (SI w7.drew (.slice (some ⟨qi, 0, none⟩) is0.length is0.length) is0) := Iq.out.below hb
  replace GQ : Hid ((w7.drew).heap[q]? = some (.cells (flat cs0).toArray 86 (0, 0))) := below_heap hb (lt_of_heap GQ.out) GQ.out
  replace MQ : Hid (Marks.MI w3.heap.size b5 w7.drew qi (is0.map fun p => p.2.2.length)) := MQ.out.below hb
  replace XQ : Hid (w7.drew.heap[b5]? = some (.cells #[.slice (some ⟨q, 0, none⟩) cs0.length cs0.length, .slice (some ⟨qi, 0, none⟩) is0.length is0.length] 37 (0, 0))) := below_heap hb (lt_of_heap XQ.out) XQ.out
  replace Sv2 : Hid (World.ownsRow w7.drew w5.heap.size 3 1 v2 xs.length (ListS.ints xs)) := ListS.row_below hb Sv2.out
  clear hb
  generalize w7.drew = w8 at *
  refine wpAny_of_T (S := fun X => X.cell? ⟨w.heap.size, 0, none⟩ = some (.slice a cs0.length cap) ∧ X.cell? ⟨w.heap.size, 1, none⟩ = some (.slice b is0.length cap2) ∧ X.cell? ⟨b5, 0, none⟩ = some (.slice (some ⟨q, 0, none⟩) cs0.length cs0.length) ∧ X.cell? ⟨b5, 1, none⟩ = some (.slice (some ⟨qi, 0, none⟩) is0.length is0.length)) (m := 5) _ _ _ _ ?_
  refine wpAnyT_take (i := 0) (v := .agg #[.slice (some ⟨q, 0, none⟩) cs0.length cs0.length, .slice (some ⟨qi, 0, none⟩) is0.length is0.length]) rfl (by kernel_rfl) (by kernel_rfl) (by kernel_rfl) (by kernel_rfl) (fun _ _ _ h => h) (Or.inl ⟨by kernel_rfl, fun X hS => by obtain ⟨e0, e1, e2, e3⟩ := hS; go_simp⟩) ⟨heap_cell X1.out 0, heap_cell X1.out 1, heap_cell XQ.out 0, heap_cell XQ.out 1⟩ ?_
  try go_simp
  refine wpAnyT_take (i := 1) (v := .agg #[.slice a cs0.length cap, .slice b is0.length cap2]) rfl (by kernel_rfl) (by kernel_rfl) (by kernel_rfl) (by kernel_rfl) (fun _ _ _ h => h) (Or.inl ⟨by kernel_rfl, fun X hS => by obtain ⟨e0, e1, e2, e3⟩ := hS; go_simp⟩) ⟨heap_cell X1.out 0, heap_cell X1.out 1, heap_cell XQ.out 0, heap_cell XQ.out 1⟩ ?_
  try go_simp
  refine wpAnyT_one 2 rfl (by kernel_rfl) (fun K hK => ?_)
  go_simp
  refine (toWorld_any _ cs0 is0 w8 hcl hil hnb.out R0.out).mono ?_
  rintro e w9 ⟨r, ri, rfl, hsp, hsi, -, hb⟩
  replace B : Hid (Below w.heap.size w w9) := B.out.trans (hb.mono B.out.size)
  replace X1 : Hid (w9.heap[w.heap.size]? = some (.cells #[.slice a cs0.length cap, .slice b is0.length cap2] 25 (0, 0))) := below_heap hb (lt_of_heap X1.out) X1.out
  replace R0 : Hid (WR w9 (.agg #[.slice a cs0.length cap, .slice b is0.length cap2]) cs0 is0) := R0.out.below hb
  replace Sv1 : Hid (World.ownsRow w9 w2.heap.size 3 1 v1 xs.length (ListS.ints xs)) := ListS.row_below hb Sv1.out
  replace Pq : Hid (SP w9 (.slice (some ⟨q, 0, none⟩) cs0.length cs0.length) cs0) := Pq.out.below hb
  replace Iq : Hid (SI w9 (.slice (some ⟨qi, 0, none⟩) is0.length is0.length) is0) := Iq.out.below hb
  replace GQ : Hid ((w9).heap[q]? = some (.cells (flat cs0).toArray 86 (0, 0))) := below_heap hb (lt_of_heap GQ.out) GQ.out
  replace MQ : Hid (Marks.MI w3.heap.size b5 w9 qi (is0.map fun p => p.2.2.length)) := MQ.out.below hb
  replace XQ : Hid (w9.heap[b5]? = some (.cells #[.slice (some ⟨q, 0, none⟩) cs0.length cs0.length, .slice (some ⟨qi, 0, none⟩) is0.length is0.length] 37 (0, 0))) := below_heap hb (lt_of_heap XQ.out) XQ.out
  replace Sv2 : Hid (World.ownsRow w9 w5.heap.size 3 1 v2 xs.length (ListS.ints xs)) := ListS.row_below hb Sv2.out
  have Pr : Hid (SP w9 (.slice (some ⟨r, 0, none⟩) cs0.length cs0.length) cs0) := hsp
  have Ir : Hid (SI w9 (.slice (some ⟨ri, 0, none⟩) is0.length is0.length) is0) := hsi
  clear hb hsp hsi
  refine hK _ _ (fun _ => ⟨heap_cell X1.out 0, heap_cell X1.out 1, heap_cell XQ.out 0, heap_cell XQ.out 1⟩) ?_
  clear hK K
  refine wpAnyT_one 3 rfl (by kernel_rfl) (fun K hK => ?_)
  go_simp
  refine (eqWorld_same _ _ cs0 is0 w9 ⟨_, _, rfl, Pq.out, Iq.out⟩ ⟨_, _, rfl, Pr.out, Ir.out⟩).mono ?_
  rintro e w10 ⟨rfl, hb⟩
  replace B : Hid (Below w.heap.size w w10) := B.out.trans (hb.mono B.out.size)
  replace X1 : Hid (w10.heap[w.heap.size]? = some (.cells #[.slice a cs0.length cap, .slice b is0.length cap2] 25 (0, 0))) := below_heap hb (lt_of_heap X1.out) X1.out
  replace R0 : Hid (WR w10 (.agg #[.slice a cs0.length cap, .slice b is0.length cap2]) cs0 is0) := R0.out.below hb
  replace Sv1 : Hid (World.ownsRow w10 w2.heap.size 3 1 v1 xs.length (ListS.ints xs)) := ListS.row_below hb Sv1.out
  replace Pq : Hid (SP w10 (.slice (some ⟨q, 0, none⟩) cs0.length cs0.length) cs0) := Pq.out.below hb
  replace Iq : Hid (SI w10 (.slice (some ⟨qi, 0, none⟩) is0.length is0.length) is0) := Iq.out.below hb
  replace GQ : Hid ((w10).heap[q]? = some (.cells (flat cs0).toArray 86 (0, 0))) := below_heap hb (lt_of_heap GQ.out) GQ.out
  replace MQ : Hid (Marks.MI w3.heap.size b5 w10 qi (is0.map fun p => p.2.2.length)) := MQ.out.below hb
  replace XQ : Hid (w10.heap[b5]? = some (.cells #[.slice (some ⟨q, 0, none⟩) cs0.length cs0.length, .slice (some ⟨qi, 0, none⟩) is0.length is0.length] 37 (0, 0))) := below_heap hb (lt_of_heap XQ.out) XQ.out
  replace Sv2 : Hid (World.ownsRow w10 w5.heap.size 3 1 v2 xs.length (ListS.ints xs)) := ListS.row_below hb Sv2.out
  replace Pr : Hid (SP w10 (.slice (some ⟨r, 0, none⟩) cs0.length cs0.length) cs0) := Pr.out.below hb
  replace Ir : Hid (SI w10 (.slice (some ⟨ri, 0, none⟩) is0.length is0.length) is0) := Ir.out.below hb
  clear hb 
  refine hK _ _ (fun _ => ⟨heap_cell X1.out 0, heap_cell X1.out 1, heap_cell XQ.out 0, heap_cell XQ.out 1⟩) ?_
  clear hK K
  refine wpAnyT_take (i := 4) (v := .bool false) rfl (by kernel_rfl) (by kernel_rfl) (by kernel_rfl) (by kernel_rfl) (fun _ _ _ h => h) (Or.inl ⟨by kernel_rfl, fun X hS => by clear hS; go_simp⟩) ⟨heap_cell X1.out 0, heap_cell X1.out 1, heap_cell XQ.out 0, heap_cell XQ.out 1⟩ ?_
  try go_simp
  refine wpAnyT_drop _ 5 _ _ _ (by decide) (by kernel_rfl) ?_
  change wpList _ _ _ [] _ _
  clear Pr Ir R0
  have kX1_0 : w10.cell? ⟨w.heap.size, 0, none⟩ = some (.slice a cs0.length cap) := heap_cell X1.out 0
  have kX1_1 : w10.cell? ⟨w.heap.size, 1, none⟩ = some (.slice b is0.length cap2) := heap_cell X1.out 1
  have lX1 : w.heap.size < w10.heap.size := lt_of_heap X1.out
  have kXQ_0 : w10.cell? ⟨b5, 0, none⟩ = some (.slice (some ⟨q, 0, none⟩) cs0.length cs0.length) := heap_cell XQ.out 0
  have kXQ_1 : w10.cell? ⟨b5, 1, none⟩ = some (.slice (some ⟨qi, 0, none⟩) is0.length is0.length) := heap_cell XQ.out 1
  have lXQ : b5 < w10.heap.size := lt_of_heap XQ.out
  go_wp2_with fail
  clear kX1_0 kX1_1 lX1 kXQ_0 kXQ_1 lXQ
  have hmw := Marks.markWorld_any w3.heap.size b5 q qi cs0.length is0.length 1 cs0.length (flat cs0).toArray (is0.map fun p => p.2.2.length) w10 (by omega) (by omega) hcl (fun i hi => by
    have : Marks.mk (is0.map fun p => p.2.2.length) i ≤ 2 * i + 2 * itot is0 := HMK.out i
    rw [List.length_map] at hi
    have h11 := h1.out
    omega) (fun i n hi => by
    rw [List.getElem?_map] at hi
    obtain ⟨p, hp, rfl⟩ := Option.map_eq_some_iff.1 hi
    have := (WV.ibnd h1.out i p hp).2.2
    omega) (by rw [List.length_map]; omega) hq1 (by omega) (by omega) GQ.out (by simp [flat_len]) MQ.out
  rw [List.length_map] at hmw
  refine hmw.mono ?_
  clear hmw
  rintro e w11 ⟨rfl, ht⟩
  replace B : Hid (Below w.heap.size w w11) := Marks.Touch.toBelow B.out ht hlob B.out.size
  replace X1 : Hid (w11.heap[w.heap.size]? = some (.cells #[.slice a cs0.length cap, .slice b is0.length cap2] 25 (0, 0))) := Marks.heap_touch ht X1.out (by first | (left; omega) | (right; omega))
  replace Sv1 : Hid (World.ownsRow w11 w2.heap.size 3 1 v1 xs.length (ListS.ints xs)) := Marks.row_touch ht Sv1.out (fun g h => .inl (by have := (Ov1.out g h).2; omega))
  replace Sv2 : Hid (World.ownsRow w11 w5.heap.size 3 1 v2 xs.length (ListS.ints xs)) := Marks.row_touch ht Sv2.out (fun g h => .inr (by have := (Ov2.out g h).1; omega))
  have hzw11 := ht.size
  clear ht
  clear Pq Iq GQ MQ XQ
  have R0 : Hid (WR w11 (.agg #[.slice a cs0.length cap, .slice b is0.length cap2]) cs0 is0) := RA.out.below B.out
  obtain ⟨kw, hkw⟩ : ∃ v, v = 1 + cs0.length * 2 + Marks.mk (is0.map fun p => p.2.2.length) is0.length := ⟨_, rfl⟩
  rw [← hkw]
  clear hkw
  have hkn : ¬ ((kw : Int) < 0) := by omega
  have kX1_0 : w11.cell? ⟨w.heap.size, 0, none⟩ = some (.slice a cs0.length cap) := heap_cell X1.out 0
  have kX1_1 : w11.cell? ⟨w.heap.size, 1, none⟩ = some (.slice b is0.length cap2) := heap_cell X1.out 1
  have lX1 : w.heap.size < w11.heap.size := lt_of_heap X1.out
  go_wp2_with fail
  clear kX1_0 kX1_1 lX1
  refine (Among.eqInt_b v2 v1 xs w11 _ _ hxn.out Sv2.out Sv1.out).mono ?_
  rintro e w12 ⟨rfl, hb⟩
  replace B : Hid (Below w.heap.size w w12) := B.out.trans (hb.mono B.out.size)
  replace X1 : Hid (w12.heap[w.heap.size]? = some (.cells #[.slice a cs0.length cap, .slice b is0.length cap2] 25 (0, 0))) := below_heap hb (lt_of_heap X1.out) X1.out
  replace Sv1 : Hid (World.ownsRow w12 w2.heap.size 3 1 v1 xs.length (ListS.ints xs)) := ListS.row_below hb Sv1.out
  replace Sv2 : Hid (World.ownsRow w12 w5.heap.size 3 1 v2 xs.length (ListS.ints xs)) := ListS.row_below hb Sv2.out
  replace R0 : Hid (WR w12 (.agg #[.slice a cs0.length cap, .slice b is0.length cap2]) cs0 is0) := R0.out.below hb
  clear hb 
  have kX1_0 : w12.cell? ⟨w.heap.size, 0, none⟩ = some (.slice a cs0.length cap) := heap_cell X1.out 0
  have kX1_1 : w12.cell? ⟨w.heap.size, 1, none⟩ = some (.slice b is0.length cap2) := heap_cell X1.out 1
  have lX1 : w.heap.size < w12.heap.size := lt_of_heap X1.out
  go_wp2_with fail
  clear kX1_0 kX1_1 lX1
  have hmk := ListS.markIntS_any v2 (ListS.ints xs) 1 w12 (by decide) (by rw [ListS.ints_len]; exact hxn.out) (by have h := row_mono Sv2.out (Nat.zero_le _); rw [ListS.ints_len]; exact h)
  rw [ListS.ints_len] at hmk
  refine hmk.mono ?_
  clear hmk
  rintro e w13 ⟨rfl, hm, hg⟩
  have M2 := hid hm
  have hzw13 := hg.size
  replace X1 : Hid (w13.heap[w.heap.size]? = some (.cells #[.slice a cs0.length cap, .slice b is0.length cap2] 25 (0, 0))) := grown_keep hg X1.out (fun e => by have := (Ov2.out _ e.symm).1; omega)
  replace Sv1 : Hid (World.ownsRow w13 w2.heap.size 3 1 v1 xs.length (ListS.ints xs)) := ListS.row_grown hg Sv1.out (fun g h e => by have h1 := (Ov1.out g h).2; have h2 := (Ov2.out g e).1; omega)
  replace B : Hid (Below w.heap.size w w13) := B.out.grown hg B.out.size (fun g h => by have := (Ov2.out g h).1; omega)
  have hneg : ¬ (((1 + xs.length : Nat) : Int) < 0) := by omega
  have hsame : (((1 + xs.length : Nat) : Int) != ((1 + xs.length : Nat) : Int)) = false := by simp
  clear hm hg
  clear R0 Sv2
  have R0 : Hid (WR w13 (.agg #[.slice a cs0.length cap, .slice b is0.length cap2]) cs0 is0) := RA.out.below B.out
  have kX1_0 : w13.cell? ⟨w.heap.size, 0, none⟩ = some (.slice a cs0.length cap) := heap_cell X1.out 0
  have kX1_1 : w13.cell? ⟨w.heap.size, 1, none⟩ = some (.slice b is0.length cap2) := heap_cell X1.out 1
  have lX1 : w.heap.size < w13.heap.size := lt_of_heap X1.out
  go_wp2_with fail
  clear kX1_0 kX1_1 lX1
  refine (ListS.heldIntS_same v2 1 xs.length w13 _ (by decide) hxn.out M2.out).mono ?_
  rintro e wz ⟨rfl, rfl⟩
  have kX1_0 : w13.cell? ⟨w.heap.size, 0, none⟩ = some (.slice a cs0.length cap) := heap_cell X1.out 0
  have kX1_1 : w13.cell? ⟨w.heap.size, 1, none⟩ = some (.slice b is0.length cap2) := heap_cell X1.out 1
  have lX1 : w.heap.size < w13.heap.size := lt_of_heap X1.out
  go_wp2_with fail
  clear kX1_0 kX1_1 lX1
  refine (toWorld_any _ cs0 is0 w13 hcl hil hnb.out R0.out).mono ?_
  rintro e w14 ⟨s, si, rfl, hsp, hsi, -, hb⟩
  replace B : Hid (Below w.heap.size w w14) := B.out.trans (hb.mono B.out.size)
  replace X1 : Hid (w14.heap[w.heap.size]? = some (.cells #[.slice a cs0.length cap, .slice b is0.length cap2] 25 (0, 0))) := below_heap hb (lt_of_heap X1.out) X1.out
  replace Sv1 : Hid (World.ownsRow w14 w2.heap.size 3 1 v1 xs.length (ListS.ints xs)) := ListS.row_below hb Sv1.out
  replace R0 : Hid (WR w14 (.agg #[.slice a cs0.length cap, .slice b is0.length cap2]) cs0 is0) := R0.out.below hb
  replace M2 : Hid (World.ownsRow w14 0 3 1 v2 xs.length (ListS.marksI 1 xs.length)) := ListS.row_below hb M2.out
  have Ps : Hid (SP w14 (.slice (some ⟨s, 0, none⟩) cs0.length cs0.length) cs0) := hsp
  have Is : Hid (SI w14 (.slice (some ⟨si, 0, none⟩) is0.length is0.length) is0) := hsi
  clear hb hsp hsi
  have kX1_0 : w14.cell? ⟨w.heap.size, 0, none⟩ = some (.slice a cs0.length cap) := heap_cell X1.out 0
  have kX1_1 : w14.cell? ⟨w.heap.size, 1, none⟩ = some (.slice b is0.length cap2) := heap_cell X1.out 1
  have lX1 : w.heap.size < w14.heap.size := lt_of_heap X1.out
  go_wp2_with fail
  clear kX1_0 kX1_1 lX1
  refine (show Calls Try.prog _ _ _ (Among.LB _ xs okb) from by rw [HXS.out, HOK.out]; exact InFor.InstancesFor_impl (some ⟨s, 0, none⟩) (some ⟨si, 0, none⟩) cs0.length is0.length cs0 is0 a1 w14 h0.out h1.out (Nat.le_refl _) Ps.out Is.out).mono ?_
  rintro e w15 ⟨v3, rfl, hr, hb⟩
  have Sv3 := hid hr
  have Ov3 := hid (ListS.row_own hr)
  have hzv3 := hb.size
  replace B : Hid (Below w.heap.size w w15) := B.out.trans (hb.mono B.out.size)
  replace X1 : Hid (w15.heap[w.heap.size]? = some (.cells #[.slice a cs0.length cap, .slice b is0.length cap2] 25 (0, 0))) := below_heap hb (lt_of_heap X1.out) X1.out
  replace Sv1 : Hid (World.ownsRow w15 w2.heap.size 3 1 v1 xs.length (ListS.ints xs)) := ListS.row_below hb Sv1.out
  replace R0 : Hid (WR w15 (.agg #[.slice a cs0.length cap, .slice b is0.length cap2]) cs0 is0) := R0.out.below hb
  replace M2 : Hid (World.ownsRow w15 0 3 1 v2 xs.length (ListS.marksI 1 xs.length)) := ListS.row_below hb M2.out
  replace Ps : Hid (SP w15 (.slice (some ⟨s, 0, none⟩) cs0.length cs0.length) cs0) := Ps.out.below hb
  replace Is : Hid (SI w15 (.slice (some ⟨si, 0, none⟩) is0.length is0.length) is0) := Is.out.below hb
  clear hb hr
  have kX1_0 : w15.cell? ⟨w.heap.size, 0, none⟩ = some (.slice a cs0.length cap) := heap_cell X1.out 0
  have kX1_1 : w15.cell? ⟨w.heap.size, 1, none⟩ = some (.slice b is0.length cap2) := heap_cell X1.out 1
  have lX1 : w.heap.size < w15.heap.size := lt_of_heap X1.out
  go_wp2_with fail
  clear kX1_0 kX1_1 lX1
  refine (Among.eqInt_b v3 v1 xs w15 _ _ hxn.out Sv3.out Sv1.out).mono ?_
  rintro e w16 ⟨rfl, hb⟩
  replace B : Hid (Below w.heap.size w w16) := B.out.trans (hb.mono B.out.size)
  replace X1 : Hid (w16.heap[w.heap.size]? = some (.cells #[.slice a cs0.length cap, .slice b is0.length cap2] 25 (0, 0))) := below_heap hb (lt_of_heap X1.out) X1.out
  replace Sv1 : Hid (World.ownsRow w16 w2.heap.size 3 1 v1 xs.length (ListS.ints xs)) := ListS.row_below hb Sv1.out
  replace R0 : Hid (WR w16 (.agg #[.slice a cs0.length cap, .slice b is0.length cap2]) cs0 is0) := R0.out.below hb
  replace M2 : Hid (World.ownsRow w16 0 3 1 v2 xs.length (ListS.marksI 1 xs.length)) := ListS.row_below hb M2.out
  replace Ps : Hid (SP w16 (.slice (some ⟨s, 0, none⟩) cs0.length cs0.length) cs0) := Ps.out.below hb
  replace Is : Hid (SI w16 (.slice (some ⟨si, 0, none⟩) is0.length is0.length) is0) := Is.out.below hb
  replace Sv3 : Hid (World.ownsRow w16 w14.heap.size 3 1 v3 xs.length (ListS.ints xs)) := ListS.row_below hb Sv3.out
  clear hb 
  have kX1_0 : w16.cell? ⟨w.heap.size, 0, none⟩ = some (.slice a cs0.length cap) := heap_cell X1.out 0
  have kX1_1 : w16.cell? ⟨w.heap.size, 1, none⟩ = some (.slice b is0.length cap2) := heap_cell X1.out 1
  have lX1 : w.heap.size < w16.heap.size := lt_of_heap X1.out
  go_wp2_with fail
  clear kX1_0 kX1_1 lX1
  refine (ListS.heldIntS_same v2 1 xs.length w16 _ (by decide) hxn.out M2.out).mono ?_
  rintro e wz ⟨rfl, rfl⟩
  go_wp2
  go_ret
  exact ⟨rfl, B.out⟩

theorem lifted (os : Os) (started : os.Started) (H : Type) (enc : TypeId × Value → H) :
    ReturnsInHanded {} Try.checked os 8 .any (Rows.fnExactInstancesForSpec.pre6 enc Try.prog Try.f8 Rows.fnExactInstancesForRow.domain false) (Rows.fnExactInstancesForSpec.post enc Try.prog Try.f8 false true false false) := by
  refine returnsInHanded_of_change (C := Try.checked) own started (by kernel_rfl) Try.func8
    (ChangeSpec.witness6 (enc := enc) (C := Try.checked) false ⟨#[], #[.agg #[.slice none 0 0, .slice none 0 0], .string ByteArray.empty], []⟩ 8 (by kernel_rfl) (by kernel_rfl) (by kernel_rfl) (by kernel_rfl)) ?_
  intro W base args ds gs before hval0 hW hcnd _
  have hval : ∀ (j : Nat) t v, Try.f8.params[j]? = some t → args[j]? = some v → Value.okWide Try.prog W .any base t v := hval0
  have hW' := hW
  obtain ⟨p, q, hA0, hV, rfl, hfz, hnd⟩ := hW
  have hA : DataW.TrodAll enc Try.prog W 0 (fun _ => true) true Try.f8.params.toList args.toList ds p := hA0
  rw [Try.params8] at hA hval
  have hL := DataW.TrodAll.lt hA
  obtain ⟨v0, vs0, d0, ds0, p0, q0, hargs, rfl, rfl, h0, r0⟩ := trodAll_cons hA
  obtain ⟨v1, vs1, d1, ds1, p1, q1, rfl, rfl, rfl, h1, r1⟩ := trodAll_cons r0
  obtain ⟨rfl, rfl, rfl⟩ := trodAll_nil r1
  obtain rfl : args = #[v0, v1] := by cases args; simp_all
  obtain ⟨rfl, rfl⟩ := trodVars_none hV
  have k0 := h0
  have l0 : ∀ x ∈ p0, x.block < W.heap.size := fun x hx => hL x (by simp [hx])
  have k1 := h1
  have l1 : ∀ x ∈ p1, x.block < W.heap.size := fun x hx => hL x (by simp [hx])
  obtain ⟨cs0, is0, s0⟩ := open_world Try.underlying25 (by kernel_rfl) rfl rfl (by kernel_rfl) (by kernel_rfl) Try.underlying22 Try.underlying23 Try.underlying93 (by kernel_rfl) rfl rfl (by kernel_rfl) (by kernel_rfl) (by kernel_rfl) (by kernel_rfl) Try.underlying30 (by kernel_rfl) rfl rfl (by kernel_rfl) (by kernel_rfl) Try.underlying27 rfl rfl (by kernel_rfl) (by kernel_rfl) (by kernel_rfl) (by kernel_rfl) Try.underlying28 (hval 0 25 v0 rfl rfl) h0
  obtain ⟨a1, rfl, -, -, w1⟩ := open_string Try.underlying9 (hval 1 9 v1 rfl rfl) h1
  clear hA0 hval0
  simp only [List.append_nil] at hW'
  refine (walk W _ _ _ s0 a1 w1).mono fun e W' ⟨he, bel⟩ => ?_
  subst he
  exact ⟨_, rfl, _, _, _, [], _, [], hW', (trodAll_cons_mk (shut_bool Try.underlying4 _) trodAll_mk0), (trodAll_cons_mk (Below.trod laidOut (by kernel_rfl) (of_decide_eq_true (by kernel_rfl)) k0 bel l0) (trodAll_cons_mk (Below.trod laidOut (by kernel_rfl) (of_decide_eq_true (by kernel_rfl)) k1 bel l1) trodAll_mk0)), rfl, bel.frame _, fun h => by cases h⟩
theorem e1 : Rows.fnExactInstancesForRow.lifted = Rows.fnExactInstanceValidRow.lifted := rfl
theorem e2 : Rows.fnExactInstancesForRow.make = Rows.fnExactInstanceValidRow.make := rfl
theorem e3 : Rows.fnExactInstancesForRow.plainKeys = Rows.fnExactInstanceValidRow.plainKeys := rfl
theorem facts : joinedFacts Try.pinned.checked.prog 8 Try.f8 Rows.fnExactInstancesForSpec Rows.fnExactInstancesForRow = true := by
  refine Facts.joined e1 e2 e3 ?_ ?_ ?_ ?_ ?_ ?_ ?_ ?_ ?_ ?_ ?_ ?_ ?_ ?_ ?_ ?_ ?_ ?_ ?_ ?_ ?_ ?_ ?_
  all_goals as_aux_lemma => kernel_rfl
theorem over : Rows.fnExactInstancesForRow.holds Try.pinned (OpenSpec.ofChange Rows.fnExactInstancesForSpec) :=
  OpenClaim.holds_of_wide 8 Try.f8 rfl rfl rfl rfl rfl rfl rfl ⟨rfl, rfl, rfl, rfl, rfl⟩ rfl rfl rfl rfl rfl (by kernel_rfl) Try.func8 facts
    (of_decide_eq_true (by kernel_rfl)) (by unfold Func.isWrapper; first | (rw [if_pos (by decide +kernel)]; kernel_rfl) | (rw [if_neg (by decide +kernel)]; exact ⟨rfl, rfl⟩))
    (fun os started H enc _ => lifted os started H enc)
end Go.Proofs.Ytaijklafgcocmaa.fnExactInstancesFor
namespace Go.Proofs.Ytaijklafgcocmaa
theorem fnExactInstancesFor_holds : Rows.FnExactInstancesForSaid := fnExactInstancesFor.over
end Go.Proofs.Ytaijklafgcocmaa
