/- FnExactMayMatch answers true for every input: the program's MayMatch returns what the reference's returns. Conditions: none. -/
import Derived.Test.YtcjalnianamlaaaMayM
import Derived.Test.YtcjalnianamlaaaMarks
import Derived.Test.YtcjalnianamlaaaReg2
import Derived.Test.YtcjalnianamlaaaNeedS
import Derived.Test.YtcjalnianamlaaaRows
import Derived.Test.YtcjalnianamlaaaFacts
import Derived.WalkKit
import Derived.ProofKit
import Derived.OpenShut
import Derived.ShutString
import Derived.ChangeOld
import Derived.Below
import Derived.Carry
import Derived.Lib.SmallJoins
set_option linter.unusedVariables false
set_option linter.unusedSimpArgs false
set_option maxRecDepth 100000
namespace Go.Proofs.Ytcjalnianamlaaa.fnExactMayMatch
open Go.ChangeShapes Go.WideShapes Go.ChangeAt Go.RowKit Go.Joins Ty Known Classes IV WV
open Go.ChangeMaps (open_string shut_string)

theorem own : ownKnob Try.prog.godebug = none := by kernel_rfl
theorem laidOut : laidOutB Try.prog = true := by kernel_rfl
theorem bytes (s : ByteArray) : ∃ l : List UInt8, s = ⟨l.toArray⟩ ∧ s.size = l.length := ⟨s.data.toList, rfl, by simp⟩
theorem mk_bound0 (is : List II) : ((is.map fun p => p.2.2.length).map fun n => 2 + n * 2).sum ≤ 2 * is.length + 2 * itot is := by
  induction is with
  | nil => simp
  | cons p r ih =>
    rw [show itot (p :: r) = iw p + itot r from rfl]
    simp only [List.map_cons, List.sum_cons, List.length_cons]
    unfold iw
    omega
theorem mk_bound (is0 : List II) (i : Nat) : Marks.mk (is0.map fun p => p.2.2.length) i ≤ 2 * i + 2 * itot is0 := by
  unfold Marks.mk
  rw [← List.map_take]
  have h1 := mk_bound0 (is0.take i)
  have h2 := itot_le is0 i
  rw [List.length_take] at h1
  omega
set_option maxHeartbeats 8000000 in
theorem walk (w : World) (v0 : Value) (cs0 : List BB) (is0 : List II) (s0 : WR w v0 cs0 is0) (a1 b1 : ByteArray) (w1 : a1.size ≤ maxLen) (u1 : b1.size ≤ maxLen) :
    Calls Try.prog 3 #[v0, .agg #[.string a1, .string b1]] w fun e w' => e = .returned (.bool true) ∧ Below w.heap.size w w' := by
  obtain ⟨x0, y0, rfl, hs, hi⟩ := s0
  obtain ⟨a, cap, rfl⟩ := sp_slice hs
  obtain ⟨b, cap2, rfl⟩ := si_slice hi
  obtain ⟨x, rfl, hxl⟩ := bytes a1
  obtain ⟨y, rfl, hyl⟩ := bytes b1
  have B : Hid (Below w.heap.size w ((w.alloc (.cells #[.slice a cs0.length cap, .slice b is0.length cap2] 25)).alloc (.cells #[.string ⟨x.toArray⟩, .string ⟨y.toArray⟩] 27))) := ((Below.refl _ _).alloc (Nat.le_refl _) _).alloc (by simp) _
  have X1 : Hid (((w.alloc (.cells #[.slice a cs0.length cap, .slice b is0.length cap2] 25)).alloc (.cells #[.string ⟨x.toArray⟩, .string ⟨y.toArray⟩] 27)).heap[w.heap.size]? = some (.cells #[.slice a cs0.length cap, .slice b is0.length cap2] 25 (0, 0))) := hb_alloc (heap_alloc_new _ _) _
  have X2 : Hid (((w.alloc (.cells #[.slice a cs0.length cap, .slice b is0.length cap2] 25)).alloc (.cells #[.string ⟨x.toArray⟩, .string ⟨y.toArray⟩] 27)).heap[w.heap.size + 1]? = some (.cells #[.string ⟨x.toArray⟩, .string ⟨y.toArray⟩] 27 (0, 0))) := heap_alloc2_new _ _ _
  have R0 : Hid (WR ((w.alloc (.cells #[.slice a cs0.length cap, .slice b is0.length cap2] 25)).alloc (.cells #[.string ⟨x.toArray⟩, .string ⟨y.toArray⟩] 27)) (.agg #[.slice a cs0.length cap, .slice b is0.length cap2]) cs0 is0) := WR.below ⟨_, _, rfl, hs, hi⟩ B.out
  have RA : Hid (WR w (.agg #[.slice a cs0.length cap, .slice b is0.length cap2]) cs0 is0) := ⟨_, _, rfl, hs, hi⟩
  clear hs hi
  by_cases hsz : cs0.length + tot cs0 + is0.length + itot is0 ≤ 1048576
  case neg =>
    have HZ : Hid (szW cs0 is0 1048576 = -1) := by show _ = _; unfold szW; rw [if_neg (by omega)]
    clear hsz
    go_enter Try.func3, Try.ntmps3
    go_wp2_with fail
    generalize (w.alloc (.cells #[.slice a cs0.length cap, .slice b is0.length cap2] 25)).alloc (.cells #[.string ⟨x.toArray⟩, .string ⟨y.toArray⟩] 27) = w0 at *
    refine (szWorld_any _ cs0 is0 _ w0 (by omega) (by omega) R0.out).mono ?_
    rintro e w1 ⟨rfl, hb⟩
    replace B : Hid (Below w.heap.size w w1) := B.out.trans (hb.mono B.out.size)
    clear hb
    rw [HZ.out]
    go_wp2
    go_ret
    exact ⟨rfl, B.out⟩
  have hcl : cs0.length ≤ 1048576 := by omega
  have hil : is0.length ≤ 1048576 := by omega
  have h0 : Hid (tot cs0 + cs0.length ≤ 1048577) := by show _ ≤ _; omega
  have h1 : Hid (itot is0 + is0.length ≤ 1048576) := by show _ ≤ _; omega
  have hnb : Hid (∀ p ∈ is0, p.2.2.length ≤ 1048576) := fun p hp => by
    obtain ⟨k, hk, hh⟩ := List.mem_iff_getElem.1 hp
    have := (WV.ibnd h1.out k p (by rw [List.getElem?_eq_getElem hk, hh])).2.2
    omega
  obtain ⟨m, hm, HZ⟩ : ∃ m : Nat, cs0.length + tot cs0 + is0.length + itot is0 + m = 1048576 ∧ Hid (szW cs0 is0 1048576 = m) := ⟨1048576 - (cs0.length + tot cs0 + is0.length + itot is0), by omega, by show _ = _; unfold szW; rw [if_pos (by omega)]; omega⟩
  clear hsz
  have HM : Hid (cs0.length + tot cs0 + is0.length + itot is0 + m = 1048576) := hm
  have hm2 : m ≤ 1048576 := by omega
  clear hm
  by_cases hc : (x.length : Int) + y.length ≤ m
  case neg =>
    have HQ : Hid ((m : Int) < ((ByteArray.mk x.toArray).size : Int) + (ByteArray.mk y.toArray).size) := by show _ < _; simp only [ByteArray.size, List.size_toArray]; omega
    clear hc
    go_enter Try.func3, Try.ntmps3
    go_wp2_with fail
    generalize (w.alloc (.cells #[.slice a cs0.length cap, .slice b is0.length cap2] 25)).alloc (.cells #[.string ⟨x.toArray⟩, .string ⟨y.toArray⟩] 27) = w0 at *
    refine (szWorld_any _ cs0 is0 _ w0 (by omega) (by omega) R0.out).mono ?_
    rintro e w1 ⟨rfl, hb⟩
    replace B : Hid (Below w.heap.size w w1) := B.out.trans (hb.mono B.out.size)
    replace X1 : Hid (w1.heap[w.heap.size]? = some (.cells #[.slice a cs0.length cap, .slice b is0.length cap2] 25 (0, 0))) := below_heap hb (lt_of_heap X1.out) X1.out
    replace X2 : Hid (w1.heap[w.heap.size + 1]? = some (.cells #[.string ⟨x.toArray⟩, .string ⟨y.toArray⟩] 27 (0, 0))) := below_heap hb (lt_of_heap X2.out) X2.out
    replace R0 : Hid (WR w1 (.agg #[.slice a cs0.length cap, .slice b is0.length cap2]) cs0 is0) := R0.out.below hb
    clear hb
    rw [HZ.out]
    have kX1_0 : w1.cell? ⟨w.heap.size, 0, none⟩ = some (.slice a cs0.length cap) := heap_cell X1.out 0
    have kX1_1 : w1.cell? ⟨w.heap.size, 1, none⟩ = some (.slice b is0.length cap2) := heap_cell X1.out 1
    have lX1 : w.heap.size < w1.heap.size := lt_of_heap X1.out
    have kX2_0 : w1.cell? ⟨w.heap.size + 1, 0, none⟩ = some (.string ⟨x.toArray⟩) := heap_cell X2.out 0
    have kX2_1 : w1.cell? ⟨w.heap.size + 1, 1, none⟩ = some (.string ⟨y.toArray⟩) := heap_cell X2.out 1
    have lX2 : w.heap.size + 1 < w1.heap.size := lt_of_heap X2.out
    go_wp2_with fail
    clear kX1_0 kX1_1 lX1 kX2_0 kX2_1 lX2
    refine (szNeed_no ⟨x.toArray⟩ ⟨y.toArray⟩ _ _ (by unfold maxLen at *; omega) (by unfold maxLen at *; omega) (by omega) (by omega) HQ.out).mono ?_
    rintro e w2 ⟨rfl, hb⟩
    replace B : Hid (Below w.heap.size w w2) := B.out.trans (hb.mono B.out.size)
    replace X1 : Hid (w2.heap[w.heap.size]? = some (.cells #[.slice a cs0.length cap, .slice b is0.length cap2] 25 (0, 0))) := below_heap hb (lt_of_heap X1.out) X1.out
    replace X2 : Hid (w2.heap[w.heap.size + 1]? = some (.cells #[.string ⟨x.toArray⟩, .string ⟨y.toArray⟩] 27 (0, 0))) := below_heap hb (lt_of_heap X2.out) X2.out
    replace R0 : Hid (WR w2 (.agg #[.slice a cs0.length cap, .slice b is0.length cap2]) cs0 is0) := R0.out.below hb
    clear hb 
    go_wp2
    go_ret
    exact ⟨rfl, B.out⟩
  have hx1 : x.length ≤ 1048576 := by omega
  have hy1 : y.length ≤ 1048576 := by omega
  have HQ : Hid (((ByteArray.mk x.toArray).size : Int) + (ByteArray.mk y.toArray).size ≤ (m : Int)) := by show _ ≤ _; simp only [ByteArray.size, List.size_toArray]; omega
  have hnn : ¬ ((m : Int) - (ByteArray.mk x.toArray).size - (ByteArray.mk y.toArray).size < 0) := by simp only [ByteArray.size, List.size_toArray]; omega
  clear hc
  have HMK : Hid (∀ i, Marks.mk (is0.map fun p => p.2.2.length) i ≤ 2 * i + 2 * itot is0) := mk_bound is0
  have HXL : Hid ((May.mayL cs0 is0 ⟨x.toArray⟩ y).length ≤ 1048576) := by show _ ≤ _; have := May.mayL_len cs0 is0 ⟨x.toArray⟩ y; omega
  go_enter Try.func3, Try.ntmps3
  go_wp2_with fail
  generalize (w.alloc (.cells #[.slice a cs0.length cap, .slice b is0.length cap2] 25)).alloc (.cells #[.string ⟨x.toArray⟩, .string ⟨y.toArray⟩] 27) = w0 at *
  refine (szWorld_any _ cs0 is0 _ w0 (by omega) (by omega) R0.out).mono ?_
  rintro e w1 ⟨rfl, hb⟩
  replace B : Hid (Below w.heap.size w w1) := B.out.trans (hb.mono B.out.size)
  replace X1 : Hid (w1.heap[w.heap.size]? = some (.cells #[.slice a cs0.length cap, .slice b is0.length cap2] 25 (0, 0))) := below_heap hb (lt_of_heap X1.out) X1.out
  replace X2 : Hid (w1.heap[w.heap.size + 1]? = some (.cells #[.string ⟨x.toArray⟩, .string ⟨y.toArray⟩] 27 (0, 0))) := below_heap hb (lt_of_heap X2.out) X2.out
  replace R0 : Hid (WR w1 (.agg #[.slice a cs0.length cap, .slice b is0.length cap2]) cs0 is0) := R0.out.below hb
  clear hb
  rw [HZ.out]
  have kX1_0 : w1.cell? ⟨w.heap.size, 0, none⟩ = some (.slice a cs0.length cap) := heap_cell X1.out 0
  have kX1_1 : w1.cell? ⟨w.heap.size, 1, none⟩ = some (.slice b is0.length cap2) := heap_cell X1.out 1
  have lX1 : w.heap.size < w1.heap.size := lt_of_heap X1.out
  have kX2_0 : w1.cell? ⟨w.heap.size + 1, 0, none⟩ = some (.string ⟨x.toArray⟩) := heap_cell X2.out 0
  have kX2_1 : w1.cell? ⟨w.heap.size + 1, 1, none⟩ = some (.string ⟨y.toArray⟩) := heap_cell X2.out 1
  have lX2 : w.heap.size + 1 < w1.heap.size := lt_of_heap X2.out
  go_wp2_with fail
  clear kX1_0 kX1_1 lX1 kX2_0 kX2_1 lX2
  refine (szNeed_ok ⟨x.toArray⟩ ⟨y.toArray⟩ _ w1 (by omega) HQ.out).mono ?_
  rintro e w2 ⟨rfl, hb⟩
  replace B : Hid (Below w.heap.size w w2) := B.out.trans (hb.mono B.out.size)
  replace X1 : Hid (w2.heap[w.heap.size]? = some (.cells #[.slice a cs0.length cap, .slice b is0.length cap2] 25 (0, 0))) := below_heap hb (lt_of_heap X1.out) X1.out
  replace X2 : Hid (w2.heap[w.heap.size + 1]? = some (.cells #[.string ⟨x.toArray⟩, .string ⟨y.toArray⟩] 27 (0, 0))) := below_heap hb (lt_of_heap X2.out) X2.out
  replace R0 : Hid (WR w2 (.agg #[.slice a cs0.length cap, .slice b is0.length cap2]) cs0 is0) := R0.out.below hb
  clear hb 
  obtain ⟨xs, hxs⟩ : ∃ v, v = May.mayL cs0 is0 ⟨x.toArray⟩ y := ⟨_, rfl⟩
  obtain ⟨okb, hok⟩ : ∃ v, v = HC.nvB cs0 is0 ⟨x.toArray⟩ y := ⟨_, rfl⟩
  rw [← hxs] at HXL
  have hxn : Hid (xs.length ≤ 1099511627776) := by show _ ≤ _; have := HXL.out; omega
  have HXS := hid hxs
  have HOK := hid hok
  clear hxs hok
  have kX1_0 : w2.cell? ⟨w.heap.size, 0, none⟩ = some (.slice a cs0.length cap) := heap_cell X1.out 0
  have kX1_1 : w2.cell? ⟨w.heap.size, 1, none⟩ = some (.slice b is0.length cap2) := heap_cell X1.out 1
  have lX1 : w.heap.size < w2.heap.size := lt_of_heap X1.out
  have kX2_0 : w2.cell? ⟨w.heap.size + 1, 0, none⟩ = some (.string ⟨x.toArray⟩) := heap_cell X2.out 0
  have kX2_1 : w2.cell? ⟨w.heap.size + 1, 1, none⟩ = some (.string ⟨y.toArray⟩) := heap_cell X2.out 1
  have lX2 : w.heap.size + 1 < w2.heap.size := lt_of_heap X2.out
  go_wp2_with fail
  clear kX1_0 kX1_1 lX1 kX2_0 kX2_1 lX2
  refine wp_region_any (by kernel_rfl) ?_
  change wpAny _ _ _ _ _ _ _ (World.drew _)
  have hb : Below w2.heap.size w2 w2.drew := below_drew1 (Below.refl _ _)
  replace B : Hid (Below w.heap.size w w2.drew) := B.out.trans (hb.mono B.out.size)
  replace X1 : Hid (w2.drew.heap[w.heap.size]? = some (.cells #[.slice a cs0.length cap, .slice b is0.length cap2] 25 (0, 0))) := below_heap hb (lt_of_heap X1.out) X1.out
  replace X2 : Hid (w2.drew.heap[w.heap.size + 1]? = some (.cells #[.string ⟨x.toArray⟩, .string ⟨y.toArray⟩] 27 (0, 0))) := below_heap hb (lt_of_heap X2.out) X2.out
  replace R0 : Hid (WR w2.drew (.agg #[.slice a cs0.length cap, .slice b is0.length cap2]) cs0 is0) := R0.out.below hb
  clear hb
  generalize w2.drew = w3 at *
  refine wpAny_of_T (S := fun X => X.cell? ⟨w.heap.size, 0, none⟩ = some (.slice a cs0.length cap) ∧ X.cell? ⟨w.heap.size, 1, none⟩ = some (.slice b is0.length cap2) ∧ X.cell? ⟨w.heap.size + 1, 0, none⟩ = some (.string ⟨x.toArray⟩) ∧ X.cell? ⟨w.heap.size + 1, 1, none⟩ = some (.string ⟨y.toArray⟩)) (m := 10) _ _ _ _ ?_
  refine wpAnyT_take (i := 0) (v := .agg #[.slice a cs0.length cap, .slice b is0.length cap2]) rfl (by kernel_rfl) (by kernel_rfl) (by kernel_rfl) (by kernel_rfl) (fun _ _ _ h => h) (Or.inl ⟨by kernel_rfl, fun X hS => by obtain ⟨e0, e1, e2, e3⟩ := hS; go_simp⟩) ⟨heap_cell X1.out 0, heap_cell X1.out 1, heap_cell X2.out 0, heap_cell X2.out 1⟩ ?_
  try go_simp
  refine wpAnyT_take (i := 2) (v := .agg #[.string ⟨x.toArray⟩, .string ⟨y.toArray⟩]) rfl (by kernel_rfl) (by kernel_rfl) (by kernel_rfl) (by kernel_rfl) (fun _ _ _ h => h) (Or.inl ⟨by kernel_rfl, fun X hS => by obtain ⟨e0, e1, e2, e3⟩ := hS; go_simp⟩) ⟨heap_cell X1.out 0, heap_cell X1.out 1, heap_cell X2.out 0, heap_cell X2.out 1⟩ ?_
  try go_simp
  refine wpAnyT_one 1 rfl (by kernel_rfl) (fun K hK => ?_)
  go_simp
  refine (toWorld_any _ cs0 is0 w3 hcl hil hnb.out R0.out).mono ?_
  rintro e w4 ⟨p, pi, rfl, hsp, hsi, -, hb⟩
  replace B : Hid (Below w.heap.size w w4) := B.out.trans (hb.mono B.out.size)
  replace X1 : Hid (w4.heap[w.heap.size]? = some (.cells #[.slice a cs0.length cap, .slice b is0.length cap2] 25 (0, 0))) := below_heap hb (lt_of_heap X1.out) X1.out
  replace X2 : Hid (w4.heap[w.heap.size + 1]? = some (.cells #[.string ⟨x.toArray⟩, .string ⟨y.toArray⟩] 27 (0, 0))) := below_heap hb (lt_of_heap X2.out) X2.out
  replace R0 : Hid (WR w4 (.agg #[.slice a cs0.length cap, .slice b is0.length cap2]) cs0 is0) := R0.out.below hb
  have Pp : Hid (SP w4 (.slice (some ⟨p, 0, none⟩) cs0.length cs0.length) cs0) := hsp
  have Ip : Hid (SI w4 (.slice (some ⟨pi, 0, none⟩) is0.length is0.length) is0) := hsi
  clear hb hsp hsi
  refine hK _ _ (fun _ => ⟨heap_cell X1.out 0, heap_cell X1.out 1, heap_cell X2.out 0, heap_cell X2.out 1⟩) ?_
  clear hK K
  refine wpAnyT_one 3 rfl (by kernel_rfl) (fun K hK => ?_)
  go_simp
  refine (toNeed_any ⟨x.toArray⟩ ⟨y.toArray⟩ w4).mono ?_
  rintro e w5 ⟨rfl, hb⟩
  replace B : Hid (Below w.heap.size w w5) := B.out.trans (hb.mono B.out.size)
  replace X1 : Hid (w5.heap[w.heap.size]? = some (.cells #[.slice a cs0.length cap, .slice b is0.length cap2] 25 (0, 0))) := below_heap hb (lt_of_heap X1.out) X1.out
  replace X2 : Hid (w5.heap[w.heap.size + 1]? = some (.cells #[.string ⟨x.toArray⟩, .string ⟨y.toArray⟩] 27 (0, 0))) := below_heap hb (lt_of_heap X2.out) X2.out
  replace R0 : Hid (WR w5 (.agg #[.slice a cs0.length cap, .slice b is0.length cap2]) cs0 is0) := R0.out.below hb
  replace Pp : Hid (SP w5 (.slice (some ⟨p, 0, none⟩) cs0.length cs0.length) cs0) := Pp.out.below hb
  replace Ip : Hid (SI w5 (.slice (some ⟨pi, 0, none⟩) is0.length is0.length) is0) := Ip.out.below hb
  clear hb 
  refine hK _ _ (fun _ => ⟨heap_cell X1.out 0, heap_cell X1.out 1, heap_cell X2.out 0, heap_cell X2.out 1⟩) ?_
  clear hK K
  refine wpAnyT_one 4 rfl (by kernel_rfl) (fun K hK => ?_)
  go_simp
  refine (show Calls Try.prog _ _ _ (Among.LB _ xs okb) from by rw [HXS.out, HOK.out]; exact May.MayMatch_spec (some ⟨p, 0, none⟩) (some ⟨pi, 0, none⟩) cs0.length is0.length cs0 is0 ⟨x.toArray⟩ y w5 hy1 h0.out h1.out (Nat.le_refl _) Pp.out Ip.out).mono ?_
  rintro e w6 ⟨v1, rfl, hr, hb⟩
  have Sv1 := hid hr
  have Ov1 := hid (ListS.row_own hr)
  have hzv1 := hb.size
  replace B : Hid (Below w.heap.size w w6) := B.out.trans (hb.mono B.out.size)
  replace X1 : Hid (w6.heap[w.heap.size]? = some (.cells #[.slice a cs0.length cap, .slice b is0.length cap2] 25 (0, 0))) := below_heap hb (lt_of_heap X1.out) X1.out
  replace X2 : Hid (w6.heap[w.heap.size + 1]? = some (.cells #[.string ⟨x.toArray⟩, .string ⟨y.toArray⟩] 27 (0, 0))) := below_heap hb (lt_of_heap X2.out) X2.out
  replace R0 : Hid (WR w6 (.agg #[.slice a cs0.length cap, .slice b is0.length cap2]) cs0 is0) := R0.out.below hb
  replace Pp : Hid (SP w6 (.slice (some ⟨p, 0, none⟩) cs0.length cs0.length) cs0) := Pp.out.below hb
  replace Ip : Hid (SI w6 (.slice (some ⟨pi, 0, none⟩) is0.length is0.length) is0) := Ip.out.below hb
  clear hb hr
  refine hK _ _ (fun _ => ⟨heap_cell X1.out 0, heap_cell X1.out 1, heap_cell X2.out 0, heap_cell X2.out 1⟩) ?_
  clear hK K
  refine wpAnyT_take (i := 5) (v := .tuple #[v1, .bool okb]) rfl (by kernel_rfl) (by kernel_rfl) (by kernel_rfl) (by kernel_rfl) (fun _ _ _ h => h) (Or.inl ⟨by kernel_rfl, fun X hS => by clear hS; go_simp⟩) ⟨heap_cell X1.out 0, heap_cell X1.out 1, heap_cell X2.out 0, heap_cell X2.out 1⟩ ?_
  try go_simp
  refine wpAnyT_take (i := 6) (v := v1) rfl (by kernel_rfl) (by kernel_rfl) (by kernel_rfl) (by kernel_rfl) (fun _ _ _ h => h) (Or.inl ⟨by kernel_rfl, fun X hS => by clear hS; go_simp⟩) ⟨heap_cell X1.out 0, heap_cell X1.out 1, heap_cell X2.out 0, heap_cell X2.out 1⟩ ?_
  try go_simp
  refine wpAnyT_take (i := 7) (v := .bool okb) rfl (by kernel_rfl) (by kernel_rfl) (by kernel_rfl) (by kernel_rfl) (fun _ _ _ h => h) (Or.inl ⟨by kernel_rfl, fun X hS => by clear hS; go_simp⟩) ⟨heap_cell X1.out 0, heap_cell X1.out 1, heap_cell X2.out 0, heap_cell X2.out 1⟩ ?_
  try go_simp
  refine wpAnyT_one 8 rfl (by kernel_rfl) (fun K hK => ?_)
  go_simp
  refine hK _ _ (fun _ => ⟨heap_cell X1.out 0, heap_cell X1.out 1, heap_cell X2.out 0, heap_cell X2.out 1⟩) ?_
  clear hK K
  refine wpAnyT_one 9 rfl (by kernel_rfl) (fun K hK => ?_)
  go_simp
  refine hK _ _ (fun _ => ⟨heap_cell X1.out 0, heap_cell X1.out 1, heap_cell X2.out 0, heap_cell X2.out 1⟩) ?_
  clear hK K
  refine wpAnyT_drop _ 10 _ _ _ (by decide) (by kernel_rfl) ?_
  change wpList _ _ _ [] _ _
  clear Pp Ip
  have hlob : w.heap.size ≤ w6.heap.size := B.out.size
  have hlo1 : w.heap.size < w6.heap.size := lt_of_heap X1.out
  have hlo2 : w.heap.size + 1 < w6.heap.size := lt_of_heap X2.out
  have kX1_0 : w6.cell? ⟨w.heap.size, 0, none⟩ = some (.slice a cs0.length cap) := heap_cell X1.out 0
  have kX1_1 : w6.cell? ⟨w.heap.size, 1, none⟩ = some (.slice b is0.length cap2) := heap_cell X1.out 1
  have lX1 : w.heap.size < w6.heap.size := lt_of_heap X1.out
  have kX2_0 : w6.cell? ⟨w.heap.size + 1, 0, none⟩ = some (.string ⟨x.toArray⟩) := heap_cell X2.out 0
  have kX2_1 : w6.cell? ⟨w.heap.size + 1, 1, none⟩ = some (.string ⟨y.toArray⟩) := heap_cell X2.out 1
  have lX2 : w.heap.size + 1 < w6.heap.size := lt_of_heap X2.out
  go_wp2_with fail
  clear kX1_0 kX1_1 lX1 kX2_0 kX2_1 lX2
  refine (toWorld_any _ cs0 is0 w6 hcl hil hnb.out R0.out).mono ?_
  rintro e w7 ⟨q, qi, rfl, hsp, hsi, hwo, hb⟩
  have MQ := hid (Marks.MI.of_TI hwo.2.2.2 (Nat.le_trans hwo.1 (Nat.le_of_lt hwo.2.1)))
  have GQ := hid hwo.2.2.1
  have hq1 := hwo.1
  have hq2 := hwo.2.1
  have hq3 : q < w7.heap.size := lt_of_heap hwo.2.2.1
  have hlz := hb.size
  replace B : Hid (Below w.heap.size w w7) := B.out.trans (hb.mono B.out.size)
  replace X1 : Hid (w7.heap[w.heap.size]? = some (.cells #[.slice a cs0.length cap, .slice b is0.length cap2] 25 (0, 0))) := below_heap hb (lt_of_heap X1.out) X1.out
  replace X2 : Hid (w7.heap[w.heap.size + 1]? = some (.cells #[.string ⟨x.toArray⟩, .string ⟨y.toArray⟩] 27 (0, 0))) := below_heap hb (lt_of_heap X2.out) X2.out
  replace R0 : Hid (WR w7 (.agg #[.slice a cs0.length cap, .slice b is0.length cap2]) cs0 is0) := R0.out.below hb
  replace Sv1 : Hid (World.ownsRow w7 w5.heap.size 3 1 v1 xs.length (ListS.ints xs)) := ListS.row_below hb Sv1.out
  have Pq : Hid (SP w7 (.slice (some ⟨q, 0, none⟩) cs0.length cs0.length) cs0) := hsp
  have Iq : Hid (SI w7 (.slice (some ⟨qi, 0, none⟩) is0.length is0.length) is0) := hsi
  clear hb hsp hsi hwo
  have kX1_0 : w7.cell? ⟨w.heap.size, 0, none⟩ = some (.slice a cs0.length cap) := heap_cell X1.out 0
  have kX1_1 : w7.cell? ⟨w.heap.size, 1, none⟩ = some (.slice b is0.length cap2) := heap_cell X1.out 1
  have lX1 : w.heap.size < w7.heap.size := lt_of_heap X1.out
  have kX2_0 : w7.cell? ⟨w.heap.size + 1, 0, none⟩ = some (.string ⟨x.toArray⟩) := heap_cell X2.out 0
  have kX2_1 : w7.cell? ⟨w.heap.size + 1, 1, none⟩ = some (.string ⟨y.toArray⟩) := heap_cell X2.out 1
  have lX2 : w.heap.size + 1 < w7.heap.size := lt_of_heap X2.out
  go_wp2_with fail
  clear kX1_0 kX1_1 lX1 kX2_0 kX2_1 lX2
  have hb : Below w7.heap.size w7 (w7.alloc (.cells #[.slice (some ⟨q, 0, none⟩) cs0.length cs0.length, .slice (some ⟨qi, 0, none⟩) is0.length is0.length] 36)) := (Below.refl _ _).alloc (Nat.le_refl _) _
  replace B : Hid (Below w.heap.size w (w7.alloc (.cells #[.slice (some ⟨q, 0, none⟩) cs0.length cs0.length, .slice (some ⟨qi, 0, none⟩) is0.length is0.length] 36))) := B.out.trans (hb.mono B.out.size)
  replace X1 : Hid ((w7.alloc (.cells #[.slice (some ⟨q, 0, none⟩) cs0.length cs0.length, .slice (some ⟨qi, 0, none⟩) is0.length is0.length] 36)).heap[w.heap.size]? = some (.cells #[.slice a cs0.length cap, .slice b is0.length cap2] 25 (0, 0))) := below_heap hb (lt_of_heap X1.out) X1.out
  replace X2 : Hid ((w7.alloc (.cells #[.slice (some ⟨q, 0, none⟩) cs0.length cs0.length, .slice (some ⟨qi, 0, none⟩) is0.length is0.length] 36)).heap[w.heap.size + 1]? = some (.cells #[.string ⟨x.toArray⟩, .string ⟨y.toArray⟩] 27 (0, 0))) := below_heap hb (lt_of_heap X2.out) X2.out
  replace R0 : Hid (WR (w7.alloc (.cells #[.slice (some ⟨q, 0, none⟩) cs0.length cs0.length, .slice (some ⟨qi, 0, none⟩) is0.length is0.length] 36)) (.agg #[.slice a cs0.length cap, .slice b is0.length cap2]) cs0 is0) := R0.out.below hb
  replace Sv1 : Hid (World.ownsRow (w7.alloc (.cells #[.slice (some ⟨q, 0, none⟩) cs0.length cs0.length, .slice (some ⟨qi, 0, none⟩) is0.length is0.length] 36)) w5.heap.size 3 1 v1 xs.length (ListS.ints xs)) := ListS.row_below hb Sv1.out
  replace Pq : Hid (SP (w7.alloc (.cells #[.slice (some ⟨q, 0, none⟩) cs0.length cs0.length, .slice (some ⟨qi, 0, none⟩) is0.length is0.length] 36)) (.slice (some ⟨q, 0, none⟩) cs0.length cs0.length) cs0) := Pq.out.below hb
  replace Iq : Hid (SI (w7.alloc (.cells #[.slice (some ⟨q, 0, none⟩) cs0.length cs0.length, .slice (some ⟨qi, 0, none⟩) is0.length is0.length] 36)) (.slice (some ⟨qi, 0, none⟩) is0.length is0.length) is0) := Iq.out.below hb
  replace GQ : Hid (((w7.alloc (.cells #[.slice (some ⟨q, 0, none⟩) cs0.length cs0.length, .slice (some ⟨qi, 0, none⟩) is0.length is0.length] 36))).heap[q]? = some (.cells (flat cs0).toArray 77 (0, 0))) := below_heap hb (lt_of_heap GQ.out) GQ.out
  replace MQ : Hid (Marks.MI w6.heap.size w7.heap.size (w7.alloc (.cells #[.slice (some ⟨q, 0, none⟩) cs0.length cs0.length, .slice (some ⟨qi, 0, none⟩) is0.length is0.length] 36)) qi (is0.map fun p => p.2.2.length)) := MQ.out.below hb
  have XQ : Hid ((w7.alloc (.cells #[.slice (some ⟨q, 0, none⟩) cs0.length cs0.length, .slice (some ⟨qi, 0, none⟩) is0.length is0.length] 36)).heap[w7.heap.size]? = some (.cells #[.slice (some ⟨q, 0, none⟩) cs0.length cs0.length, .slice (some ⟨qi, 0, none⟩) is0.length is0.length] 36 (0, 0))) := heap_alloc_new _ _
  clear hb
  generalize w7.alloc (.cells #[.slice (some ⟨q, 0, none⟩) cs0.length cs0.length, .slice (some ⟨qi, 0, none⟩) is0.length is0.length] 36) = w8 at *
  generalize w7.heap.size = b8 at *
  have hxq : b8 < w8.heap.size := lt_of_heap XQ.out
  refine wp_region_any (by kernel_rfl) ?_
  change wpAny _ _ _ _ _ _ _ (World.drew _)
  have hb : Below w8.heap.size w8 w8.drew := below_drew1 (Below.refl _ _)
  replace B : Hid (Below w.heap.size w w8.drew) := B.out.trans (hb.mono B.out.size)
  replace X1 : Hid (w8.drew.heap[w.heap.size]? = some (.cells #[.slice a cs0.length cap, .slice b is0.length cap2] 25 (0, 0))) := below_heap hb (lt_of_heap X1.out) X1.out
  replace X2 : Hid (w8.drew.heap[w.heap.size + 1]? = some (.cells #[.string ⟨x.toArray⟩, .string ⟨y.toArray⟩] 27 (0, 0))) := below_heap hb (lt_of_heap X2.out) X2.out
  replace R0 : Hid (WR w8.drew (.agg #[.slice a cs0.length cap, .slice b is0.length cap2]) cs0 is0) := R0.out.below hb
  replace Sv1 : Hid (World.ownsRow w8.drew w5.heap.size 3 1 v1 xs.length (ListS.ints xs)) := ListS.row_below hb Sv1.out
  replace Pq : Hid (SP w8.drew (.slice (some ⟨q, 0, none⟩) cs0.length cs0.length) cs0) := Pq.out.below hb
  replace Iq : Hid (SI w8.drew (.slice (some ⟨qi, 0, none⟩) is0.length is0.length) is0) := Iq.out.below hb
  replace GQ : Hid ((w8.drew).heap[q]? = some (.cells (flat cs0).toArray 77 (0, 0))) := below_heap hb (lt_of_heap GQ.out) GQ.out
  replace MQ : Hid (Marks.MI w6.heap.size b8 w8.drew qi (is0.map fun p => p.2.2.length)) := MQ.out.below hb
  replace XQ : Hid (w8.drew.heap[b8]? = some (.cells #[.slice (some ⟨q, 0, none⟩) cs0.length cs0.length, .slice (some ⟨qi, 0, none⟩) is0.length is0.length] 36 (0, 0))) := below_heap hb (lt_of_heap XQ.out) XQ.out
  clear hb
  generalize w8.drew = w9 at *
  refine wpAny_of_T (S := fun X => X.cell? ⟨w.heap.size, 0, none⟩ = some (.slice a cs0.length cap) ∧ X.cell? ⟨w.heap.size, 1, none⟩ = some (.slice b is0.length cap2) ∧ X.cell? ⟨w.heap.size + 1, 0, none⟩ = some (.string ⟨x.toArray⟩) ∧ X.cell? ⟨w.heap.size + 1, 1, none⟩ = some (.string ⟨y.toArray⟩) ∧ X.cell? ⟨b8, 0, none⟩ = some (.slice (some ⟨q, 0, none⟩) cs0.length cs0.length) ∧ X.cell? ⟨b8, 1, none⟩ = some (.slice (some ⟨qi, 0, none⟩) is0.length is0.length)) (m := 9) _ _ _ _ ?_
  refine wpAnyT_take (i := 0) (v := .agg #[.slice (some ⟨q, 0, none⟩) cs0.length cs0.length, .slice (some ⟨qi, 0, none⟩) is0.length is0.length]) rfl (by kernel_rfl) (by kernel_rfl) (by kernel_rfl) (by kernel_rfl) (fun _ _ _ h => h) (Or.inl ⟨by kernel_rfl, fun X hS => by obtain ⟨e0, e1, e2, e3, e4, e5⟩ := hS; go_simp⟩) ⟨heap_cell X1.out 0, heap_cell X1.out 1, heap_cell X2.out 0, heap_cell X2.out 1, heap_cell XQ.out 0, heap_cell XQ.out 1⟩ ?_
  try go_simp
  refine wpAnyT_take (i := 1) (v := .agg #[.string ⟨x.toArray⟩, .string ⟨y.toArray⟩]) rfl (by kernel_rfl) (by kernel_rfl) (by kernel_rfl) (by kernel_rfl) (fun _ _ _ h => h) (Or.inl ⟨by kernel_rfl, fun X hS => by obtain ⟨e0, e1, e2, e3, e4, e5⟩ := hS; go_simp⟩) ⟨heap_cell X1.out 0, heap_cell X1.out 1, heap_cell X2.out 0, heap_cell X2.out 1, heap_cell XQ.out 0, heap_cell XQ.out 1⟩ ?_
  try go_simp
  refine wpAnyT_one 2 rfl (by kernel_rfl) (fun K hK => ?_)
  go_simp
  refine (toNeed_any ⟨x.toArray⟩ ⟨y.toArray⟩ w9).mono ?_
  rintro e w10 ⟨rfl, hb⟩
  replace B : Hid (Below w.heap.size w w10) := B.out.trans (hb.mono B.out.size)
  replace X1 : Hid (w10.heap[w.heap.size]? = some (.cells #[.slice a cs0.length cap, .slice b is0.length cap2] 25 (0, 0))) := below_heap hb (lt_of_heap X1.out) X1.out
  replace X2 : Hid (w10.heap[w.heap.size + 1]? = some (.cells #[.string ⟨x.toArray⟩, .string ⟨y.toArray⟩] 27 (0, 0))) := below_heap hb (lt_of_heap X2.out) X2.out
  replace R0 : Hid (WR w10 (.agg #[.slice a cs0.length cap, .slice b is0.length cap2]) cs0 is0) := R0.out.below hb
  replace Sv1 : Hid (World.ownsRow w10 w5.heap.size 3 1 v1 xs.length (ListS.ints xs)) := ListS.row_below hb Sv1.out
  replace Pq : Hid (SP w10 (.slice (some ⟨q, 0, none⟩) cs0.length cs0.length) cs0) := Pq.out.below hb
  replace Iq : Hid (SI w10 (.slice (some ⟨qi, 0, none⟩) is0.length is0.length) is0) := Iq.out.below hb
  replace GQ : Hid ((w10).heap[q]? = some (.cells (flat cs0).toArray 77 (0, 0))) := below_heap hb (lt_of_heap GQ.out) GQ.out
  replace MQ : Hid (Marks.MI w6.heap.size b8 w10 qi (is0.map fun p => p.2.2.length)) := MQ.out.below hb
  replace XQ : Hid (w10.heap[b8]? = some (.cells #[.slice (some ⟨q, 0, none⟩) cs0.length cs0.length, .slice (some ⟨qi, 0, none⟩) is0.length is0.length] 36 (0, 0))) := below_heap hb (lt_of_heap XQ.out) XQ.out
  clear hb 
  refine hK _ _ (fun _ => ⟨heap_cell X1.out 0, heap_cell X1.out 1, heap_cell X2.out 0, heap_cell X2.out 1, heap_cell XQ.out 0, heap_cell XQ.out 1⟩) ?_
  clear hK K
  have hxq2 := lt_of_heap XQ.out
  have hx12 := lt_of_heap X1.out
  have hx22 := lt_of_heap X2.out
  refine wpAnyT_one 3 rfl (by kernel_rfl) (fun K hK => ?_)
  go_simp
  refine (show Calls Try.prog _ _ _ (Among.LB _ xs okb) from by rw [HXS.out, HOK.out]; exact May.MayMatch_impl (some ⟨q, 0, none⟩) (some ⟨qi, 0, none⟩) cs0.length is0.length cs0 is0 ⟨x.toArray⟩ y w10 hy1 h0.out h1.out (Nat.le_refl _) Pq.out Iq.out).mono ?_
  rintro e w11 ⟨v2, rfl, hr, hb⟩
  have Sv2 := hid hr
  have Ov2 := hid (ListS.row_own hr)
  have hzv2 := hb.size
  replace B : Hid (Below w.heap.size w w11) := B.out.trans (hb.mono B.out.size)
  replace X1 : Hid (w11.heap[w.heap.size]? = some (.cells #[.slice a cs0.length cap, .slice b is0.length cap2] 25 (0, 0))) := below_heap hb (lt_of_heap X1.out) X1.out
  replace X2 : Hid (w11.heap[w.heap.size + 1]? = some (.cells #[.string ⟨x.toArray⟩, .string ⟨y.toArray⟩] 27 (0, 0))) := below_heap hb (lt_of_heap X2.out) X2.out
  replace R0 : Hid (WR w11 (.agg #[.slice a cs0.length cap, .slice b is0.length cap2]) cs0 is0) := R0.out.below hb
  replace Sv1 : Hid (World.ownsRow w11 w5.heap.size 3 1 v1 xs.length (ListS.ints xs)) := ListS.row_below hb Sv1.out
  replace Pq : Hid (SP w11 (.slice (some ⟨q, 0, none⟩) cs0.length cs0.length) cs0) := Pq.out.below hb
  replace Iq : Hid (SI w11 (.slice (some ⟨qi, 0, none⟩) is0.length is0.length) is0) := Iq.out.below hb
  replace GQ : Hid ((w11).heap[q]? = some (.cells (flat cs0).toArray 77 (0, 0))) := below_heap hb (lt_of_heap GQ.out) GQ.out
  replace MQ : Hid (Marks.MI w6.heap.size b8 w11 qi (is0.map fun p => p.2.2.length)) := MQ.out.below hb
  replace XQ : Hid (w11.heap[b8]? = some (.cells #[.slice (some ⟨q, 0, none⟩) cs0.length cs0.length, .slice (some ⟨qi, 0, none⟩) is0.length is0.length] 36 (0, 0))) := below_heap hb (lt_of_heap XQ.out) XQ.out
  clear hb hr
  refine hK _ _ (fun _ => ⟨heap_cell X1.out 0, heap_cell X1.out 1, heap_cell X2.out 0, heap_cell X2.out 1, heap_cell XQ.out 0, heap_cell XQ.out 1⟩) ?_
  clear hK K
  refine wpAnyT_take (i := 4) (v := .tuple #[v2, .bool okb]) rfl (by kernel_rfl) (by kernel_rfl) (by kernel_rfl) (by kernel_rfl) (fun _ _ _ h => h) (Or.inl ⟨by kernel_rfl, fun X hS => by clear hS; go_simp⟩) ⟨heap_cell X1.out 0, heap_cell X1.out 1, heap_cell X2.out 0, heap_cell X2.out 1, heap_cell XQ.out 0, heap_cell XQ.out 1⟩ ?_
  try go_simp
  refine wpAnyT_take (i := 5) (v := v2) rfl (by kernel_rfl) (by kernel_rfl) (by kernel_rfl) (by kernel_rfl) (fun _ _ _ h => h) (Or.inl ⟨by kernel_rfl, fun X hS => by clear hS; go_simp⟩) ⟨heap_cell X1.out 0, heap_cell X1.out 1, heap_cell X2.out 0, heap_cell X2.out 1, heap_cell XQ.out 0, heap_cell XQ.out 1⟩ ?_
  try go_simp
  refine wpAnyT_take (i := 6) (v := .bool okb) rfl (by kernel_rfl) (by kernel_rfl) (by kernel_rfl) (by kernel_rfl) (fun _ _ _ h => h) (Or.inl ⟨by kernel_rfl, fun X hS => by clear hS; go_simp⟩) ⟨heap_cell X1.out 0, heap_cell X1.out 1, heap_cell X2.out 0, heap_cell X2.out 1, heap_cell XQ.out 0, heap_cell XQ.out 1⟩ ?_
  try go_simp
  refine wpAnyT_one 7 rfl (by kernel_rfl) (fun K hK => ?_)
  go_simp
  refine hK _ _ (fun _ => ⟨heap_cell X1.out 0, heap_cell X1.out 1, heap_cell X2.out 0, heap_cell X2.out 1, heap_cell XQ.out 0, heap_cell XQ.out 1⟩) ?_
  clear hK K
  refine wpAnyT_one 8 rfl (by kernel_rfl) (fun K hK => ?_)
  go_simp
  refine hK _ _ (fun _ => ⟨heap_cell X1.out 0, heap_cell X1.out 1, heap_cell X2.out 0, heap_cell X2.out 1, heap_cell XQ.out 0, heap_cell XQ.out 1⟩) ?_
  clear hK K
  refine wpAnyT_drop _ 9 _ _ _ (by decide) (by kernel_rfl) ?_
  change wpList _ _ _ [] _ _
  have kX1_0 : w11.cell? ⟨w.heap.size, 0, none⟩ = some (.slice a cs0.length cap) := heap_cell X1.out 0
  have kX1_1 : w11.cell? ⟨w.heap.size, 1, none⟩ = some (.slice b is0.length cap2) := heap_cell X1.out 1
  have lX1 : w.heap.size < w11.heap.size := lt_of_heap X1.out
  have kX2_0 : w11.cell? ⟨w.heap.size + 1, 0, none⟩ = some (.string ⟨x.toArray⟩) := heap_cell X2.out 0
  have kX2_1 : w11.cell? ⟨w.heap.size + 1, 1, none⟩ = some (.string ⟨y.toArray⟩) := heap_cell X2.out 1
  have lX2 : w.heap.size + 1 < w11.heap.size := lt_of_heap X2.out
  have kXQ_0 : w11.cell? ⟨b8, 0, none⟩ = some (.slice (some ⟨q, 0, none⟩) cs0.length cs0.length) := heap_cell XQ.out 0
  have kXQ_1 : w11.cell? ⟨b8, 1, none⟩ = some (.slice (some ⟨qi, 0, none⟩) is0.length is0.length) := heap_cell XQ.out 1
  have lXQ : b8 < w11.heap.size := lt_of_heap XQ.out
  go_wp2_with fail
  clear kX1_0 kX1_1 lX1 kX2_0 kX2_1 lX2 kXQ_0 kXQ_1 lXQ
  refine (Among.eqInt_b v2 v1 xs w11 _ _ hxn.out Sv2.out Sv1.out).mono ?_
  rintro e w12 ⟨rfl, hb⟩
  replace B : Hid (Below w.heap.size w w12) := B.out.trans (hb.mono B.out.size)
  replace X1 : Hid (w12.heap[w.heap.size]? = some (.cells #[.slice a cs0.length cap, .slice b is0.length cap2] 25 (0, 0))) := below_heap hb (lt_of_heap X1.out) X1.out
  replace X2 : Hid (w12.heap[w.heap.size + 1]? = some (.cells #[.string ⟨x.toArray⟩, .string ⟨y.toArray⟩] 27 (0, 0))) := below_heap hb (lt_of_heap X2.out) X2.out
  replace R0 : Hid (WR w12 (.agg #[.slice a cs0.length cap, .slice b is0.length cap2]) cs0 is0) := R0.out.below hb
  replace Sv1 : Hid (World.ownsRow w12 w5.heap.size 3 1 v1 xs.length (ListS.ints xs)) := ListS.row_below hb Sv1.out
  replace Pq : Hid (SP w12 (.slice (some ⟨q, 0, none⟩) cs0.length cs0.length) cs0) := Pq.out.below hb
  replace Iq : Hid (SI w12 (.slice (some ⟨qi, 0, none⟩) is0.length is0.length) is0) := Iq.out.below hb
  replace GQ : Hid ((w12).heap[q]? = some (.cells (flat cs0).toArray 77 (0, 0))) := below_heap hb (lt_of_heap GQ.out) GQ.out
  replace MQ : Hid (Marks.MI w6.heap.size b8 w12 qi (is0.map fun p => p.2.2.length)) := MQ.out.below hb
  replace XQ : Hid (w12.heap[b8]? = some (.cells #[.slice (some ⟨q, 0, none⟩) cs0.length cs0.length, .slice (some ⟨qi, 0, none⟩) is0.length is0.length] 36 (0, 0))) := below_heap hb (lt_of_heap XQ.out) XQ.out
  replace Sv2 : Hid (World.ownsRow w12 w10.heap.size 3 1 v2 xs.length (ListS.ints xs)) := ListS.row_below hb Sv2.out
  clear hb 
  have kX1_0 : w12.cell? ⟨w.heap.size, 0, none⟩ = some (.slice a cs0.length cap) := heap_cell X1.out 0
  have kX1_1 : w12.cell? ⟨w.heap.size, 1, none⟩ = some (.slice b is0.length cap2) := heap_cell X1.out 1
  have lX1 : w.heap.size < w12.heap.size := lt_of_heap X1.out
  have kX2_0 : w12.cell? ⟨w.heap.size + 1, 0, none⟩ = some (.string ⟨x.toArray⟩) := heap_cell X2.out 0
  have kX2_1 : w12.cell? ⟨w.heap.size + 1, 1, none⟩ = some (.string ⟨y.toArray⟩) := heap_cell X2.out 1
  have lX2 : w.heap.size + 1 < w12.heap.size := lt_of_heap X2.out
  have kXQ_0 : w12.cell? ⟨b8, 0, none⟩ = some (.slice (some ⟨q, 0, none⟩) cs0.length cs0.length) := heap_cell XQ.out 0
  have kXQ_1 : w12.cell? ⟨b8, 1, none⟩ = some (.slice (some ⟨qi, 0, none⟩) is0.length is0.length) := heap_cell XQ.out 1
  have lXQ : b8 < w12.heap.size := lt_of_heap XQ.out
  go_wp2_with fail
  clear kX1_0 kX1_1 lX1 kX2_0 kX2_1 lX2 kXQ_0 kXQ_1 lXQ
  refine wp_region_any (by kernel_rfl) ?_
  change wpAny _ _ _ _ _ _ _ (World.drew _)
  have hb : Below w12.heap.size w12 w12.drew := below_drew1 (Below.refl _ _)
  replace B : Hid (Below w.heap.size w w12.drew) := B.out.trans (hb.mono B.out.size)
  replace X1 : Hid (w12.drew.heap[w.heap.size]? = some (.cells #[.slice a cs0.length cap, .slice b is0.length cap2] 25 (0, 0))) := below_heap hb (lt_of_heap X1.out) X1.out
  replace X2 : Hid (w12.drew.heap[w.heap.size + 1]? = some (.cells #[.string ⟨x.toArray⟩, .string ⟨y.toArray⟩] 27 (0, 0))) := below_heap hb (lt_of_heap X2.out) X2.out
  replace R0 : Hid (WR w12.drew (.agg #[.slice a cs0.length cap, .slice b is0.length cap2]) cs0 is0) := R0.out.below hb
  replace Sv1 : Hid (World.ownsRow w12.drew w5.heap.size 3 1 v1 xs.length (ListS.ints xs)) := ListS.row_below hb Sv1.out
  replace Pq : Hid (SP w12.drew (.slice (some ⟨q, 0, none⟩) cs0.length cs0.length) cs0) := Pq.out.below hb
  replace Iq : Hid (SI w12.drew (.slice (some ⟨qi, 0, none⟩) is0.length is0.length) is0) := Iq.out.below hb
  replace GQ : Hid ((w12.drew).heap[q]? = some (.cells (flat cs0).toArray 77 (0, 0))) := below_heap hb (lt_of_heap GQ.out) GQ.out
  replace MQ : Hid (Marks.MI w6.heap.size b8 w12.drew qi (is0.map fun p => p.2.2.length)) := MQ.out.below hb
  replace XQ : Hid (w12.drew.heap[b8]? = some (.cells #[.slice (some ⟨q, 0, none⟩) cs0.length cs0.length, .slice (some ⟨qi, 0, none⟩) is0.length is0.length] 36 (0, 0))) := below_heap hb (lt_of_heap XQ.out) XQ.out
  replace Sv2 : Hid (World.ownsRow w12.drew w10.heap.size 3 1 v2 xs.length (ListS.ints xs)) := ListS.row_below hb Sv2.out
  clear hb
  generalize w12.drew = w13 at *
  refine wpAny_of_T (S := fun X => X.cell? ⟨w.heap.size, 0, none⟩ = some (.slice a cs0.length cap) ∧ X.cell? ⟨w.heap.size, 1, none⟩ = some (.slice b is0.length cap2) ∧ X.cell? ⟨w.heap.size + 1, 0, none⟩ = some (.string ⟨x.toArray⟩) ∧ X.cell? ⟨w.heap.size + 1, 1, none⟩ = some (.string ⟨y.toArray⟩) ∧ X.cell? ⟨b8, 0, none⟩ = some (.slice (some ⟨q, 0, none⟩) cs0.length cs0.length) ∧ X.cell? ⟨b8, 1, none⟩ = some (.slice (some ⟨qi, 0, none⟩) is0.length is0.length)) (m := 5) _ _ _ _ ?_
  refine wpAnyT_take (i := 0) (v := .agg #[.slice (some ⟨q, 0, none⟩) cs0.length cs0.length, .slice (some ⟨qi, 0, none⟩) is0.length is0.length]) rfl (by kernel_rfl) (by kernel_rfl) (by kernel_rfl) (by kernel_rfl) (fun _ _ _ h => h) (Or.inl ⟨by kernel_rfl, fun X hS => by obtain ⟨e0, e1, e2, e3, e4, e5⟩ := hS; go_simp⟩) ⟨heap_cell X1.out 0, heap_cell X1.out 1, heap_cell X2.out 0, heap_cell X2.out 1, heap_cell XQ.out 0, heap_cell XQ.out 1⟩ ?_
  try go_simp
  refine wpAnyT_take (i := 1) (v := .agg #[.slice a cs0.length cap, .slice b is0.length cap2]) rfl (by kernel_rfl) (by kernel_rfl) (by kernel_rfl) (by kernel_rfl) (fun _ _ _ h => h) (Or.inl ⟨by kernel_rfl, fun X hS => by obtain ⟨e0, e1, e2, e3, e4, e5⟩ := hS; go_simp⟩) ⟨heap_cell X1.out 0, heap_cell X1.out 1, heap_cell X2.out 0, heap_cell X2.out 1, heap_cell XQ.out 0, heap_cell XQ.out 1⟩ ?_
  try go_simp
  refine wpAnyT_one 2 rfl (by kernel_rfl) (fun K hK => ?_)
  go_simp
  refine (toWorld_any _ cs0 is0 w13 hcl hil hnb.out R0.out).mono ?_
  rintro e w14 ⟨r, ri, rfl, hsp, hsi, -, hb⟩
  replace B : Hid (Below w.heap.size w w14) := B.out.trans (hb.mono B.out.size)
  replace X1 : Hid (w14.heap[w.heap.size]? = some (.cells #[.slice a cs0.length cap, .slice b is0.length cap2] 25 (0, 0))) := below_heap hb (lt_of_heap X1.out) X1.out
  replace X2 : Hid (w14.heap[w.heap.size + 1]? = some (.cells #[.string ⟨x.toArray⟩, .string ⟨y.toArray⟩] 27 (0, 0))) := below_heap hb (lt_of_heap X2.out) X2.out
  replace R0 : Hid (WR w14 (.agg #[.slice a cs0.length cap, .slice b is0.length cap2]) cs0 is0) := R0.out.below hb
  replace Sv1 : Hid (World.ownsRow w14 w5.heap.size 3 1 v1 xs.length (ListS.ints xs)) := ListS.row_below hb Sv1.out
  replace Pq : Hid (SP w14 (.slice (some ⟨q, 0, none⟩) cs0.length cs0.length) cs0) := Pq.out.below hb
  replace Iq : Hid (SI w14 (.slice (some ⟨qi, 0, none⟩) is0.length is0.length) is0) := Iq.out.below hb
  replace GQ : Hid ((w14).heap[q]? = some (.cells (flat cs0).toArray 77 (0, 0))) := below_heap hb (lt_of_heap GQ.out) GQ.out
  replace MQ : Hid (Marks.MI w6.heap.size b8 w14 qi (is0.map fun p => p.2.2.length)) := MQ.out.below hb
  replace XQ : Hid (w14.heap[b8]? = some (.cells #[.slice (some ⟨q, 0, none⟩) cs0.length cs0.length, .slice (some ⟨qi, 0, none⟩) is0.length is0.length] 36 (0, 0))) := below_heap hb (lt_of_heap XQ.out) XQ.out
  replace Sv2 : Hid (World.ownsRow w14 w10.heap.size 3 1 v2 xs.length (ListS.ints xs)) := ListS.row_below hb Sv2.out
  have Pr : Hid (SP w14 (.slice (some ⟨r, 0, none⟩) cs0.length cs0.length) cs0) := hsp
  have Ir : Hid (SI w14 (.slice (some ⟨ri, 0, none⟩) is0.length is0.length) is0) := hsi
  clear hb hsp hsi
  refine hK _ _ (fun _ => ⟨heap_cell X1.out 0, heap_cell X1.out 1, heap_cell X2.out 0, heap_cell X2.out 1, heap_cell XQ.out 0, heap_cell XQ.out 1⟩) ?_
  clear hK K
  refine wpAnyT_one 3 rfl (by kernel_rfl) (fun K hK => ?_)
  go_simp
  refine (eqWorld_same _ _ cs0 is0 w14 ⟨_, _, rfl, Pq.out, Iq.out⟩ ⟨_, _, rfl, Pr.out, Ir.out⟩).mono ?_
  rintro e w15 ⟨rfl, hb⟩
  replace B : Hid (Below w.heap.size w w15) := B.out.trans (hb.mono B.out.size)
  replace X1 : Hid (w15.heap[w.heap.size]? = some (.cells #[.slice a cs0.length cap, .slice b is0.length cap2] 25 (0, 0))) := below_heap hb (lt_of_heap X1.out) X1.out
  replace X2 : Hid (w15.heap[w.heap.size + 1]? = some (.cells #[.string ⟨x.toArray⟩, .string ⟨y.toArray⟩] 27 (0, 0))) := below_heap hb (lt_of_heap X2.out) X2.out
  replace R0 : Hid (WR w15 (.agg #[.slice a cs0.length cap, .slice b is0.length cap2]) cs0 is0) := R0.out.below hb
  replace Sv1 : Hid (World.ownsRow w15 w5.heap.size 3 1 v1 xs.length (ListS.ints xs)) := ListS.row_below hb Sv1.out
  replace Pq : Hid (SP w15 (.slice (some ⟨q, 0, none⟩) cs0.length cs0.length) cs0) := Pq.out.below hb
  replace Iq : Hid (SI w15 (.slice (some ⟨qi, 0, none⟩) is0.length is0.length) is0) := Iq.out.below hb
  replace GQ : Hid ((w15).heap[q]? = some (.cells (flat cs0).toArray 77 (0, 0))) := below_heap hb (lt_of_heap GQ.out) GQ.out
  replace MQ : Hid (Marks.MI w6.heap.size b8 w15 qi (is0.map fun p => p.2.2.length)) := MQ.out.below hb
  replace XQ : Hid (w15.heap[b8]? = some (.cells #[.slice (some ⟨q, 0, none⟩) cs0.length cs0.length, .slice (some ⟨qi, 0, none⟩) is0.length is0.length] 36 (0, 0))) := below_heap hb (lt_of_heap XQ.out) XQ.out
  replace Sv2 : Hid (World.ownsRow w15 w10.heap.size 3 1 v2 xs.length (ListS.ints xs)) := ListS.row_below hb Sv2.out
  replace Pr : Hid (SP w15 (.slice (some ⟨r, 0, none⟩) cs0.length cs0.length) cs0) := Pr.out.below hb
  replace Ir : Hid (SI w15 (.slice (some ⟨ri, 0, none⟩) is0.length is0.length) is0) := Ir.out.below hb
  clear hb 
  refine hK _ _ (fun _ => ⟨heap_cell X1.out 0, heap_cell X1.out 1, heap_cell X2.out 0, heap_cell X2.out 1, heap_cell XQ.out 0, heap_cell XQ.out 1⟩) ?_
  clear hK K
  refine wpAnyT_take (i := 4) (v := .bool false) rfl (by kernel_rfl) (by kernel_rfl) (by kernel_rfl) (by kernel_rfl) (fun _ _ _ h => h) (Or.inl ⟨by kernel_rfl, fun X hS => by clear hS; go_simp⟩) ⟨heap_cell X1.out 0, heap_cell X1.out 1, heap_cell X2.out 0, heap_cell X2.out 1, heap_cell XQ.out 0, heap_cell XQ.out 1⟩ ?_
  try go_simp
  refine wpAnyT_drop _ 5 _ _ _ (by decide) (by kernel_rfl) ?_
  change wpList _ _ _ [] _ _
  clear Pr Ir R0
  have kX1_0 : w15.cell? ⟨w.heap.size, 0, none⟩ = some (.slice a cs0.length cap) := heap_cell X1.out 0
  have kX1_1 : w15.cell? ⟨w.heap.size, 1, none⟩ = some (.slice b is0.length cap2) := heap_cell X1.out 1
  have lX1 : w.heap.size < w15.heap.size := lt_of_heap X1.out
  have kX2_0 : w15.cell? ⟨w.heap.size + 1, 0, none⟩ = some (.string ⟨x.toArray⟩) := heap_cell X2.out 0
  have kX2_1 : w15.cell? ⟨w.heap.size + 1, 1, none⟩ = some (.string ⟨y.toArray⟩) := heap_cell X2.out 1
  have lX2 : w.heap.size + 1 < w15.heap.size := lt_of_heap X2.out
  have kXQ_0 : w15.cell? ⟨b8, 0, none⟩ = some (.slice (some ⟨q, 0, none⟩) cs0.length cs0.length) := heap_cell XQ.out 0
  have kXQ_1 : w15.cell? ⟨b8, 1, none⟩ = some (.slice (some ⟨qi, 0, none⟩) is0.length is0.length) := heap_cell XQ.out 1
  have lXQ : b8 < w15.heap.size := lt_of_heap XQ.out
  go_wp2_with fail
  clear kX1_0 kX1_1 lX1 kX2_0 kX2_1 lX2 kXQ_0 kXQ_1 lXQ
  have hmw := Marks.markWorld_any w6.heap.size b8 q qi cs0.length is0.length 1 cs0.length (flat cs0).toArray (is0.map fun p => p.2.2.length) w15 (by omega) (by omega) hcl (fun i hi => by
    have : Marks.mk (is0.map fun p => p.2.2.length) i ≤ 2 * i + 2 * itot is0 := HMK.out i
    rw [List.length_map] at hi
    have h11 := h1.out
    omega) (fun i n hi => by
    rw [List.getElem?_map] at hi
    obtain ⟨p, hp, rfl⟩ := Option.map_eq_some_iff.1 hi
    have := (WV.ibnd h1.out i p hp).2.2
    omega) (by rw [List.length_map]; omega) hq1 (by omega) (by omega) GQ.out (by simp [flat_len]) MQ.out
  rw [List.length_map] at hmw
  refine hmw.mono ?_
  clear hmw
  rintro e w16 ⟨rfl, ht⟩
  replace B : Hid (Below w.heap.size w w16) := Marks.Touch.toBelow B.out ht hlob B.out.size
  replace X1 : Hid (w16.heap[w.heap.size]? = some (.cells #[.slice a cs0.length cap, .slice b is0.length cap2] 25 (0, 0))) := Marks.heap_touch ht X1.out (by first | (left; omega) | (right; omega))
  replace X2 : Hid (w16.heap[w.heap.size + 1]? = some (.cells #[.string ⟨x.toArray⟩, .string ⟨y.toArray⟩] 27 (0, 0))) := Marks.heap_touch ht X2.out (by first | (left; omega) | (right; omega))
  replace Sv1 : Hid (World.ownsRow w16 w5.heap.size 3 1 v1 xs.length (ListS.ints xs)) := Marks.row_touch ht Sv1.out (fun g h => .inl (by have := (Ov1.out g h).2; omega))
  replace Sv2 : Hid (World.ownsRow w16 w10.heap.size 3 1 v2 xs.length (ListS.ints xs)) := Marks.row_touch ht Sv2.out (fun g h => .inr (by have := (Ov2.out g h).1; omega))
  have hzw16 := ht.size
  clear ht
  clear Pq Iq GQ MQ XQ
  have R0 : Hid (WR w16 (.agg #[.slice a cs0.length cap, .slice b is0.length cap2]) cs0 is0) := RA.out.below B.out
  obtain ⟨kw, hkw⟩ : ∃ v, v = 1 + cs0.length * 2 + Marks.mk (is0.map fun p => p.2.2.length) is0.length := ⟨_, rfl⟩
  rw [← hkw]
  clear hkw
  have hkn : ¬ ((kw : Int) < 0) := by omega
  have kX1_0 : w16.cell? ⟨w.heap.size, 0, none⟩ = some (.slice a cs0.length cap) := heap_cell X1.out 0
  have kX1_1 : w16.cell? ⟨w.heap.size, 1, none⟩ = some (.slice b is0.length cap2) := heap_cell X1.out 1
  have lX1 : w.heap.size < w16.heap.size := lt_of_heap X1.out
  have kX2_0 : w16.cell? ⟨w.heap.size + 1, 0, none⟩ = some (.string ⟨x.toArray⟩) := heap_cell X2.out 0
  have kX2_1 : w16.cell? ⟨w.heap.size + 1, 1, none⟩ = some (.string ⟨y.toArray⟩) := heap_cell X2.out 1
  have lX2 : w.heap.size + 1 < w16.heap.size := lt_of_heap X2.out
  go_wp2_with fail
  clear kX1_0 kX1_1 lX1 kX2_0 kX2_1 lX2
  refine (Among.eqInt_b v2 v1 xs w16 _ _ hxn.out Sv2.out Sv1.out).mono ?_
  rintro e w17 ⟨rfl, hb⟩
  replace B : Hid (Below w.heap.size w w17) := B.out.trans (hb.mono B.out.size)
  replace X1 : Hid (w17.heap[w.heap.size]? = some (.cells #[.slice a cs0.length cap, .slice b is0.length cap2] 25 (0, 0))) := below_heap hb (lt_of_heap X1.out) X1.out
  replace X2 : Hid (w17.heap[w.heap.size + 1]? = some (.cells #[.string ⟨x.toArray⟩, .string ⟨y.toArray⟩] 27 (0, 0))) := below_heap hb (lt_of_heap X2.out) X2.out
  replace Sv1 : Hid (World.ownsRow w17 w5.heap.size 3 1 v1 xs.length (ListS.ints xs)) := ListS.row_below hb Sv1.out
  replace Sv2 : Hid (World.ownsRow w17 w10.heap.size 3 1 v2 xs.length (ListS.ints xs)) := ListS.row_below hb Sv2.out
  replace R0 : Hid (WR w17 (.agg #[.slice a cs0.length cap, .slice b is0.length cap2]) cs0 is0) := R0.out.below hb
  clear hb 
  have kX1_0 : w17.cell? ⟨w.heap.size, 0, none⟩ = some (.slice a cs0.length cap) := heap_cell X1.out 0
  have kX1_1 : w17.cell? ⟨w.heap.size, 1, none⟩ = some (.slice b is0.length cap2) := heap_cell X1.out 1
  have lX1 : w.heap.size < w17.heap.size := lt_of_heap X1.out
  have kX2_0 : w17.cell? ⟨w.heap.size + 1, 0, none⟩ = some (.string ⟨x.toArray⟩) := heap_cell X2.out 0
  have kX2_1 : w17.cell? ⟨w.heap.size + 1, 1, none⟩ = some (.string ⟨y.toArray⟩) := heap_cell X2.out 1
  have lX2 : w.heap.size + 1 < w17.heap.size := lt_of_heap X2.out
  go_wp2_with fail
  clear kX1_0 kX1_1 lX1 kX2_0 kX2_1 lX2
  have hmk := ListS.markIntS_any v2 (ListS.ints xs) 1 w17 (by decide) (by rw [ListS.ints_len]; exact hxn.out) (by have h := row_mono Sv2.out (Nat.zero_le _); rw [ListS.ints_len]; exact h)
  rw [ListS.ints_len] at hmk
  refine hmk.mono ?_
  clear hmk
  rintro e w18 ⟨rfl, hm, hg⟩
  have M2 := hid hm
  have hzw18 := hg.size
  replace X1 : Hid (w18.heap[w.heap.size]? = some (.cells #[.slice a cs0.length cap, .slice b is0.length cap2] 25 (0, 0))) := grown_keep hg X1.out (fun e => by have := (Ov2.out _ e.symm).1; omega)
  replace X2 : Hid (w18.heap[w.heap.size + 1]? = some (.cells #[.string ⟨x.toArray⟩, .string ⟨y.toArray⟩] 27 (0, 0))) := grown_keep hg X2.out (fun e => by have := (Ov2.out _ e.symm).1; omega)
  replace Sv1 : Hid (World.ownsRow w18 w5.heap.size 3 1 v1 xs.length (ListS.ints xs)) := ListS.row_grown hg Sv1.out (fun g h e => by have h1 := (Ov1.out g h).2; have h2 := (Ov2.out g e).1; omega)
  replace B : Hid (Below w.heap.size w w18) := B.out.grown hg B.out.size (fun g h => by have := (Ov2.out g h).1; omega)
  have hneg : ¬ (((1 + xs.length : Nat) : Int) < 0) := by omega
  have hsame : (((1 + xs.length : Nat) : Int) != ((1 + xs.length : Nat) : Int)) = false := by simp
  clear hm hg
  clear R0 Sv2
  have R0 : Hid (WR w18 (.agg #[.slice a cs0.length cap, .slice b is0.length cap2]) cs0 is0) := RA.out.below B.out
  have kX1_0 : w18.cell? ⟨w.heap.size, 0, none⟩ = some (.slice a cs0.length cap) := heap_cell X1.out 0
  have kX1_1 : w18.cell? ⟨w.heap.size, 1, none⟩ = some (.slice b is0.length cap2) := heap_cell X1.out 1
  have lX1 : w.heap.size < w18.heap.size := lt_of_heap X1.out
  have kX2_0 : w18.cell? ⟨w.heap.size + 1, 0, none⟩ = some (.string ⟨x.toArray⟩) := heap_cell X2.out 0
  have kX2_1 : w18.cell? ⟨w.heap.size + 1, 1, none⟩ = some (.string ⟨y.toArray⟩) := heap_cell X2.out 1
  have lX2 : w.heap.size + 1 < w18.heap.size := lt_of_heap X2.out
  go_wp2_with fail
  clear kX1_0 kX1_1 lX1 kX2_0 kX2_1 lX2
  refine (ListS.heldIntS_same v2 1 xs.length w18 _ (by decide) hxn.out M2.out).mono ?_
  rintro e wz ⟨rfl, rfl⟩
  have kX1_0 : w18.cell? ⟨w.heap.size, 0, none⟩ = some (.slice a cs0.length cap) := heap_cell X1.out 0
  have kX1_1 : w18.cell? ⟨w.heap.size, 1, none⟩ = some (.slice b is0.length cap2) := heap_cell X1.out 1
  have lX1 : w.heap.size < w18.heap.size := lt_of_heap X1.out
  have kX2_0 : w18.cell? ⟨w.heap.size + 1, 0, none⟩ = some (.string ⟨x.toArray⟩) := heap_cell X2.out 0
  have kX2_1 : w18.cell? ⟨w.heap.size + 1, 1, none⟩ = some (.string ⟨y.toArray⟩) := heap_cell X2.out 1
  have lX2 : w.heap.size + 1 < w18.heap.size := lt_of_heap X2.out
  go_wp2_with fail
  clear kX1_0 kX1_1 lX1 kX2_0 kX2_1 lX2
  refine wp_region_any (by kernel_rfl) ?_
  change wpAny _ _ _ _ _ _ _ (World.drew _)
  have hb : Below w18.heap.size w18 w18.drew := below_drew1 (Below.refl _ _)
  replace B : Hid (Below w.heap.size w w18.drew) := B.out.trans (hb.mono B.out.size)
  replace X1 : Hid (w18.drew.heap[w.heap.size]? = some (.cells #[.slice a cs0.length cap, .slice b is0.length cap2] 25 (0, 0))) := below_heap hb (lt_of_heap X1.out) X1.out
  replace X2 : Hid (w18.drew.heap[w.heap.size + 1]? = some (.cells #[.string ⟨x.toArray⟩, .string ⟨y.toArray⟩] 27 (0, 0))) := below_heap hb (lt_of_heap X2.out) X2.out
  replace Sv1 : Hid (World.ownsRow w18.drew w5.heap.size 3 1 v1 xs.length (ListS.ints xs)) := ListS.row_below hb Sv1.out
  replace R0 : Hid (WR w18.drew (.agg #[.slice a cs0.length cap, .slice b is0.length cap2]) cs0 is0) := R0.out.below hb
  replace M2 : Hid (World.ownsRow w18.drew 0 3 1 v2 xs.length (ListS.marksI 1 xs.length)) := ListS.row_below hb M2.out
  clear hb
  generalize w18.drew = w19 at *
  refine wpAny_of_T (S := fun X => X.cell? ⟨w.heap.size, 0, none⟩ = some (.slice a cs0.length cap) ∧ X.cell? ⟨w.heap.size, 1, none⟩ = some (.slice b is0.length cap2) ∧ X.cell? ⟨w.heap.size + 1, 0, none⟩ = some (.string ⟨x.toArray⟩) ∧ X.cell? ⟨w.heap.size + 1, 1, none⟩ = some (.string ⟨y.toArray⟩)) (m := 10) _ _ _ _ ?_
  refine wpAnyT_take (i := 0) (v := .agg #[.slice a cs0.length cap, .slice b is0.length cap2]) rfl (by kernel_rfl) (by kernel_rfl) (by kernel_rfl) (by kernel_rfl) (fun _ _ _ h => h) (Or.inl ⟨by kernel_rfl, fun X hS => by obtain ⟨e0, e1, e2, e3⟩ := hS; go_simp⟩) ⟨heap_cell X1.out 0, heap_cell X1.out 1, heap_cell X2.out 0, heap_cell X2.out 1⟩ ?_
  try go_simp
  refine wpAnyT_take (i := 2) (v := .agg #[.string ⟨x.toArray⟩, .string ⟨y.toArray⟩]) rfl (by kernel_rfl) (by kernel_rfl) (by kernel_rfl) (by kernel_rfl) (fun _ _ _ h => h) (Or.inl ⟨by kernel_rfl, fun X hS => by obtain ⟨e0, e1, e2, e3⟩ := hS; go_simp⟩) ⟨heap_cell X1.out 0, heap_cell X1.out 1, heap_cell X2.out 0, heap_cell X2.out 1⟩ ?_
  try go_simp
  refine wpAnyT_one 1 rfl (by kernel_rfl) (fun K hK => ?_)
  go_simp
  refine (toWorld_any _ cs0 is0 w19 hcl hil hnb.out R0.out).mono ?_
  rintro e w20 ⟨s, si, rfl, hsp, hsi, -, hb⟩
  replace B : Hid (Below w.heap.size w w20) := B.out.trans (hb.mono B.out.size)
  replace X1 : Hid (w20.heap[w.heap.size]? = some (.cells #[.slice a cs0.length cap, .slice b is0.length cap2] 25 (0, 0))) := below_heap hb (lt_of_heap X1.out) X1.out
  replace X2 : Hid (w20.heap[w.heap.size + 1]? = some (.cells #[.string ⟨x.toArray⟩, .string ⟨y.toArray⟩] 27 (0, 0))) := below_heap hb (lt_of_heap X2.out) X2.out
  replace Sv1 : Hid (World.ownsRow w20 w5.heap.size 3 1 v1 xs.length (ListS.ints xs)) := ListS.row_below hb Sv1.out
  replace R0 : Hid (WR w20 (.agg #[.slice a cs0.length cap, .slice b is0.length cap2]) cs0 is0) := R0.out.below hb
  replace M2 : Hid (World.ownsRow w20 0 3 1 v2 xs.length (ListS.marksI 1 xs.length)) := ListS.row_below hb M2.out
  have Ps : Hid (SP w20 (.slice (some ⟨s, 0, none⟩) cs0.length cs0.length) cs0) := hsp
  have Is : Hid (SI w20 (.slice (some ⟨si, 0, none⟩) is0.length is0.length) is0) := hsi
  clear hb hsp hsi
  refine hK _ _ (fun _ => ⟨heap_cell X1.out 0, heap_cell X1.out 1, heap_cell X2.out 0, heap_cell X2.out 1⟩) ?_
  clear hK K
  refine wpAnyT_one 3 rfl (by kernel_rfl) (fun K hK => ?_)
  go_simp
  refine (toNeed_any ⟨x.toArray⟩ ⟨y.toArray⟩ w20).mono ?_
  rintro e w21 ⟨rfl, hb⟩
  replace B : Hid (Below w.heap.size w w21) := B.out.trans (hb.mono B.out.size)
  replace X1 : Hid (w21.heap[w.heap.size]? = some (.cells #[.slice a cs0.length cap, .slice b is0.length cap2] 25 (0, 0))) := below_heap hb (lt_of_heap X1.out) X1.out
  replace X2 : Hid (w21.heap[w.heap.size + 1]? = some (.cells #[.string ⟨x.toArray⟩, .string ⟨y.toArray⟩] 27 (0, 0))) := below_heap hb (lt_of_heap X2.out) X2.out
  replace Sv1 : Hid (World.ownsRow w21 w5.heap.size 3 1 v1 xs.length (ListS.ints xs)) := ListS.row_below hb Sv1.out
  replace R0 : Hid (WR w21 (.agg #[.slice a cs0.length cap, .slice b is0.length cap2]) cs0 is0) := R0.out.below hb
  replace M2 : Hid (World.ownsRow w21 0 3 1 v2 xs.length (ListS.marksI 1 xs.length)) := ListS.row_below hb M2.out
  replace Ps : Hid (SP w21 (.slice (some ⟨s, 0, none⟩) cs0.length cs0.length) cs0) := Ps.out.below hb
  replace Is : Hid (SI w21 (.slice (some ⟨si, 0, none⟩) is0.length is0.length) is0) := Is.out.below hb
  clear hb 
  refine hK _ _ (fun _ => ⟨heap_cell X1.out 0, heap_cell X1.out 1, heap_cell X2.out 0, heap_cell X2.out 1⟩) ?_
  clear hK K
  refine wpAnyT_one 4 rfl (by kernel_rfl) (fun K hK => ?_)
  go_simp
  refine (show Calls Try.prog _ _ _ (Among.LB _ xs okb) from by rw [HXS.out, HOK.out]; exact May.MayMatch_impl (some ⟨s, 0, none⟩) (some ⟨si, 0, none⟩) cs0.length is0.length cs0 is0 ⟨x.toArray⟩ y w21 hy1 h0.out h1.out (Nat.le_refl _) Ps.out Is.out).mono ?_
  rintro e w22 ⟨v3, rfl, hr, hb⟩
  have Sv3 := hid hr
  have Ov3 := hid (ListS.row_own hr)
  have hzv3 := hb.size
  replace B : Hid (Below w.heap.size w w22) := B.out.trans (hb.mono B.out.size)
  replace X1 : Hid (w22.heap[w.heap.size]? = some (.cells #[.slice a cs0.length cap, .slice b is0.length cap2] 25 (0, 0))) := below_heap hb (lt_of_heap X1.out) X1.out
  replace X2 : Hid (w22.heap[w.heap.size + 1]? = some (.cells #[.string ⟨x.toArray⟩, .string ⟨y.toArray⟩] 27 (0, 0))) := below_heap hb (lt_of_heap X2.out) X2.out
  replace Sv1 : Hid (World.ownsRow w22 w5.heap.size 3 1 v1 xs.length (ListS.ints xs)) := ListS.row_below hb Sv1.out
  replace R0 : Hid (WR w22 (.agg #[.slice a cs0.length cap, .slice b is0.length cap2]) cs0 is0) := R0.out.below hb
  replace M2 : Hid (World.ownsRow w22 0 3 1 v2 xs.length (ListS.marksI 1 xs.length)) := ListS.row_below hb M2.out
  replace Ps : Hid (SP w22 (.slice (some ⟨s, 0, none⟩) cs0.length cs0.length) cs0) := Ps.out.below hb
  replace Is : Hid (SI w22 (.slice (some ⟨si, 0, none⟩) is0.length is0.length) is0) := Is.out.below hb
  clear hb hr
  refine hK _ _ (fun _ => ⟨heap_cell X1.out 0, heap_cell X1.out 1, heap_cell X2.out 0, heap_cell X2.out 1⟩) ?_
  clear hK K
  refine wpAnyT_take (i := 5) (v := .tuple #[v3, .bool okb]) rfl (by kernel_rfl) (by kernel_rfl) (by kernel_rfl) (by kernel_rfl) (fun _ _ _ h => h) (Or.inl ⟨by kernel_rfl, fun X hS => by clear hS; go_simp⟩) ⟨heap_cell X1.out 0, heap_cell X1.out 1, heap_cell X2.out 0, heap_cell X2.out 1⟩ ?_
  try go_simp
  refine wpAnyT_take (i := 6) (v := v3) rfl (by kernel_rfl) (by kernel_rfl) (by kernel_rfl) (by kernel_rfl) (fun _ _ _ h => h) (Or.inl ⟨by kernel_rfl, fun X hS => by clear hS; go_simp⟩) ⟨heap_cell X1.out 0, heap_cell X1.out 1, heap_cell X2.out 0, heap_cell X2.out 1⟩ ?_
  try go_simp
  refine wpAnyT_take (i := 7) (v := .bool okb) rfl (by kernel_rfl) (by kernel_rfl) (by kernel_rfl) (by kernel_rfl) (fun _ _ _ h => h) (Or.inl ⟨by kernel_rfl, fun X hS => by clear hS; go_simp⟩) ⟨heap_cell X1.out 0, heap_cell X1.out 1, heap_cell X2.out 0, heap_cell X2.out 1⟩ ?_
  try go_simp
  refine wpAnyT_one 8 rfl (by kernel_rfl) (fun K hK => ?_)
  go_simp
  refine hK _ _ (fun _ => ⟨heap_cell X1.out 0, heap_cell X1.out 1, heap_cell X2.out 0, heap_cell X2.out 1⟩) ?_
  clear hK K
  refine wpAnyT_one 9 rfl (by kernel_rfl) (fun K hK => ?_)
  go_simp
  refine hK _ _ (fun _ => ⟨heap_cell X1.out 0, heap_cell X1.out 1, heap_cell X2.out 0, heap_cell X2.out 1⟩) ?_
  clear hK K
  refine wpAnyT_drop _ 10 _ _ _ (by decide) (by kernel_rfl) ?_
  change wpList _ _ _ [] _ _
  have kX1_0 : w22.cell? ⟨w.heap.size, 0, none⟩ = some (.slice a cs0.length cap) := heap_cell X1.out 0
  have kX1_1 : w22.cell? ⟨w.heap.size, 1, none⟩ = some (.slice b is0.length cap2) := heap_cell X1.out 1
  have lX1 : w.heap.size < w22.heap.size := lt_of_heap X1.out
  have kX2_0 : w22.cell? ⟨w.heap.size + 1, 0, none⟩ = some (.string ⟨x.toArray⟩) := heap_cell X2.out 0
  have kX2_1 : w22.cell? ⟨w.heap.size + 1, 1, none⟩ = some (.string ⟨y.toArray⟩) := heap_cell X2.out 1
  have lX2 : w.heap.size + 1 < w22.heap.size := lt_of_heap X2.out
  go_wp2_with fail
  clear kX1_0 kX1_1 lX1 kX2_0 kX2_1 lX2
  refine (Among.eqInt_b v3 v1 xs w22 _ _ hxn.out Sv3.out Sv1.out).mono ?_
  rintro e w23 ⟨rfl, hb⟩
  replace B : Hid (Below w.heap.size w w23) := B.out.trans (hb.mono B.out.size)
  replace X1 : Hid (w23.heap[w.heap.size]? = some (.cells #[.slice a cs0.length cap, .slice b is0.length cap2] 25 (0, 0))) := below_heap hb (lt_of_heap X1.out) X1.out
  replace X2 : Hid (w23.heap[w.heap.size + 1]? = some (.cells #[.string ⟨x.toArray⟩, .string ⟨y.toArray⟩] 27 (0, 0))) := below_heap hb (lt_of_heap X2.out) X2.out
  replace Sv1 : Hid (World.ownsRow w23 w5.heap.size 3 1 v1 xs.length (ListS.ints xs)) := ListS.row_below hb Sv1.out
  replace R0 : Hid (WR w23 (.agg #[.slice a cs0.length cap, .slice b is0.length cap2]) cs0 is0) := R0.out.below hb
  replace M2 : Hid (World.ownsRow w23 0 3 1 v2 xs.length (ListS.marksI 1 xs.length)) := ListS.row_below hb M2.out
  replace Ps : Hid (SP w23 (.slice (some ⟨s, 0, none⟩) cs0.length cs0.length) cs0) := Ps.out.below hb
  replace Is : Hid (SI w23 (.slice (some ⟨si, 0, none⟩) is0.length is0.length) is0) := Is.out.below hb
  replace Sv3 : Hid (World.ownsRow w23 w21.heap.size 3 1 v3 xs.length (ListS.ints xs)) := ListS.row_below hb Sv3.out
  clear hb 
  have kX1_0 : w23.cell? ⟨w.heap.size, 0, none⟩ = some (.slice a cs0.length cap) := heap_cell X1.out 0
  have kX1_1 : w23.cell? ⟨w.heap.size, 1, none⟩ = some (.slice b is0.length cap2) := heap_cell X1.out 1
  have lX1 : w.heap.size < w23.heap.size := lt_of_heap X1.out
  have kX2_0 : w23.cell? ⟨w.heap.size + 1, 0, none⟩ = some (.string ⟨x.toArray⟩) := heap_cell X2.out 0
  have kX2_1 : w23.cell? ⟨w.heap.size + 1, 1, none⟩ = some (.string ⟨y.toArray⟩) := heap_cell X2.out 1
  have lX2 : w.heap.size + 1 < w23.heap.size := lt_of_heap X2.out
  go_wp2_with fail
  clear kX1_0 kX1_1 lX1 kX2_0 kX2_1 lX2
  refine (ListS.heldIntS_same v2 1 xs.length w23 _ (by decide) hxn.out M2.out).mono ?_
  rintro e wz ⟨rfl, rfl⟩
  go_wp2
  go_ret
  exact ⟨rfl, B.out⟩

theorem lifted (os : Os) (started : os.Started) (H : Type) (enc : TypeId × Value → H) :
    ReturnsInHanded {} Try.checked os 3 .any (Rows.fnExactMayMatchSpec.pre6 enc Try.prog Try.f3 Rows.fnExactMayMatchRow.domain false) (Rows.fnExactMayMatchSpec.post enc Try.prog Try.f3 false true false false) := by
  refine returnsInHanded_of_change (C := Try.checked) own started (by kernel_rfl) Try.func3
    (ChangeSpec.witness6 (enc := enc) (C := Try.checked) false ⟨#[], #[.agg #[.slice none 0 0, .slice none 0 0], .agg #[.string ByteArray.empty, .string ByteArray.empty]], []⟩ 8 (by kernel_rfl) (by kernel_rfl) (by kernel_rfl) (by kernel_rfl)) ?_
  intro W base args ds gs before hval0 hW hcnd _
  have hval : ∀ (j : Nat) t v, Try.f3.params[j]? = some t → args[j]? = some v → Value.okWide Try.prog W .any base t v := hval0
  have hW' := hW
  obtain ⟨p, q, hA0, hV, rfl, hfz, hnd⟩ := hW
  have hA : DataW.TrodAll enc Try.prog W 0 (fun _ => true) true Try.f3.params.toList args.toList ds p := hA0
  rw [Try.params3] at hA hval
  have hL := DataW.TrodAll.lt hA
  obtain ⟨v0, vs0, d0, ds0, p0, q0, hargs, rfl, rfl, h0, r0⟩ := trodAll_cons hA
  obtain ⟨v1, vs1, d1, ds1, p1, q1, rfl, rfl, rfl, h1, r1⟩ := trodAll_cons r0
  obtain ⟨rfl, rfl, rfl⟩ := trodAll_nil r1
  obtain rfl : args = #[v0, v1] := by cases args; simp_all
  obtain ⟨rfl, rfl⟩ := trodVars_none hV
  have k0 := h0
  have l0 : ∀ x ∈ p0, x.block < W.heap.size := fun x hx => hL x (by simp [hx])
  have k1 := h1
  have l1 : ∀ x ∈ p1, x.block < W.heap.size := fun x hx => hL x (by simp [hx])
  obtain ⟨cs0, is0, s0⟩ := open_world Try.underlying25 (by kernel_rfl) rfl rfl (by kernel_rfl) (by kernel_rfl) Try.underlying22 Try.underlying23 Try.underlying62 (by kernel_rfl) rfl rfl (by kernel_rfl) (by kernel_rfl) (by kernel_rfl) (by kernel_rfl) Try.underlying66 (by kernel_rfl) rfl rfl (by kernel_rfl) (by kernel_rfl) Try.underlying27 rfl rfl (by kernel_rfl) (by kernel_rfl) (by kernel_rfl) (by kernel_rfl) Try.underlying64 (hval 0 25 v0 rfl rfl) h0
  obtain ⟨c1, e1, y1, z1, m1, rfl, -, -, hy1, hz1⟩ := open_agg2 Try.underlying27 (by kernel_rfl) (by kernel_rfl) (hval 1 27 v1 rfl rfl) h1
  obtain ⟨a1, f1, -, w1⟩ := DataW.trod_string Try.underlying9 hy1
  obtain ⟨b1, g1, -, u1⟩ := DataW.trod_string Try.underlying9 hz1
  obtain rfl : c1 = .string a1 := by simpa using f1
  obtain rfl : e1 = .string b1 := by simpa using g1
  clear hA0 hval0
  simp only [List.append_nil] at hW'
  refine (walk W _ _ _ s0 a1 b1 w1 u1).mono fun e W' ⟨he, bel⟩ => ?_
  subst he
  exact ⟨_, rfl, _, _, _, [], _, [], hW', (trodAll_cons_mk (shut_bool Try.underlying4 _) trodAll_mk0), (trodAll_cons_mk (Below.trod laidOut (by kernel_rfl) (of_decide_eq_true (by kernel_rfl)) k0 bel l0) (trodAll_cons_mk (Below.trod laidOut (by kernel_rfl) (of_decide_eq_true (by kernel_rfl)) k1 bel l1) trodAll_mk0)), rfl, bel.frame _, fun h => by cases h⟩
theorem e1 : Rows.fnExactMayMatchRow.lifted = Rows.fnExactMayMatchRow.lifted := rfl
theorem e2 : Rows.fnExactMayMatchRow.make = Rows.fnExactMayMatchRow.make := rfl
theorem e3 : Rows.fnExactMayMatchRow.plainKeys = Rows.fnExactMayMatchRow.plainKeys := rfl
theorem facts : joinedFacts Try.pinned.checked.prog 3 Try.f3 Rows.fnExactMayMatchSpec Rows.fnExactMayMatchRow = true := by
  refine Facts.joined e1 e2 e3 ?_ ?_ ?_ ?_ ?_ ?_ ?_ ?_ ?_ ?_ ?_ ?_ ?_ ?_ ?_ ?_ ?_ ?_ ?_ ?_ ?_ ?_ ?_
  all_goals as_aux_lemma => kernel_rfl
theorem over : Rows.fnExactMayMatchRow.holds Try.pinned (OpenSpec.ofChange Rows.fnExactMayMatchSpec) :=
  OpenClaim.holds_of_wide 3 Try.f3 rfl rfl rfl rfl rfl rfl rfl ⟨rfl, rfl, rfl, rfl, rfl⟩ rfl rfl rfl rfl rfl (by kernel_rfl) Try.func3 facts
    (of_decide_eq_true (by kernel_rfl)) (by unfold Func.isWrapper; first | (rw [if_pos (by decide +kernel)]; kernel_rfl) | (rw [if_neg (by decide +kernel)]; exact ⟨rfl, rfl⟩))
    (fun os started H enc _ => lifted os started H enc)
end Go.Proofs.Ytcjalnianamlaaa.fnExactMayMatch
namespace Go.Proofs.Ytcjalnianamlaaa
theorem fnExactMayMatch_holds : Rows.FnExactMayMatchSaid := fnExactMayMatch.over
end Go.Proofs.Ytcjalnianamlaaa
