/- FnExactSupersOf answers true for every input: the program's SupersOf returns what the reference's returns. Conditions: none. -/
import Derived.Test.YtaijklafgcocmaaSup
import Derived.Test.YtaijklafgcocmaaReg2
import Derived.Test.YtaijklafgcocmaaRows
import Derived.Test.YtaijklafgcocmaaFacts
import Derived.WalkKit
import Derived.ProofKit
import Derived.OpenShut
import Derived.ShutString
import Derived.ChangeOld
import Derived.Below
import Derived.Carry
import Derived.Lib.SmallJoins
set_option linter.unusedVariables false
set_option linter.unusedSimpArgs false
set_option maxRecDepth 100000
namespace Go.Proofs.Ytaijklafgcocmaa.fnExactSupersOf
open Go.ChangeShapes Go.WideShapes Go.ChangeAt Go.RowKit Go.Joins Ty Known Classes IV WV
open Go.ChangeMaps (open_string shut_string)

theorem own : ownKnob Try.prog.godebug = none := by kernel_rfl
theorem laidOut : laidOutB Try.prog = true := by kernel_rfl
theorem bytes (s : ByteArray) : ∃ l : List UInt8, s = ⟨l.toArray⟩ ∧ s.size = l.length := ⟨s.data.toList, rfl, by simp⟩
set_option maxHeartbeats 4000000 in
theorem walk (w : World) (v0 : Value) (cs0 : List BB) (is0 : List II) (s0 : WR w v0 cs0 is0) (a1 : ByteArray) (w1 : a1.size ≤ maxLen) :
    Calls Try.prog 7 #[v0, .string a1] w fun e w' => e = .returned (.bool true) ∧ Below w.heap.size w w' := by
  obtain ⟨x0, y0, rfl, hs, hi⟩ := s0
  obtain ⟨a, cap, rfl⟩ := sp_slice hs
  obtain ⟨b, cap2, rfl⟩ := si_slice hi
  have B : Hid (Below w.heap.size w (w.alloc (.cells #[.slice a cs0.length cap, .slice b is0.length cap2] 25))) := (Below.refl _ _).alloc (Nat.le_refl _) _
  have X1 : Hid ((w.alloc (.cells #[.slice a cs0.length cap, .slice b is0.length cap2] 25)).heap[w.heap.size]? = some (.cells #[.slice a cs0.length cap, .slice b is0.length cap2] 25 (0, 0))) := heap_alloc_new _ _
  have R0 : Hid (WR (w.alloc (.cells #[.slice a cs0.length cap, .slice b is0.length cap2] 25)) (.agg #[.slice a cs0.length cap, .slice b is0.length cap2]) cs0 is0) := WR.below ⟨_, _, rfl, hs, hi⟩ B.out
  have H00 := hid (hs.sizes.1)
  clear hs hi H00
  by_cases hxs : a1.size ≤ 1048576
  case neg =>
    have hxs2 : ¬ ((a1.size : Int) ≤ 1048576) := by omega
    clear X1 R0 B
    unfold maxLen at w1
    go_enter Try.func7, Try.ntmps7
    go_wp2_with fail
    go_ret
    exact ⟨rfl, (Below.refl _ _).alloc (Nat.le_refl _) _⟩
  by_cases hsz : cs0.length + tot cs0 + is0.length + itot is0 ≤ 1048576
  case neg =>
    have HZ : Hid (szW cs0 is0 1048576 = -1) := by show _ = _; unfold szW; rw [if_neg (by omega)]
    clear hsz
    go_enter Try.func7, Try.ntmps7
    go_wp2_with fail
    generalize w.alloc (.cells #[.slice a cs0.length cap, .slice b is0.length cap2] 25) = w0 at *
    refine (szWorld_any _ cs0 is0 _ w0 (by omega) (by omega) R0.out).mono ?_
    rintro e w1 ⟨rfl, hb⟩
    replace B : Hid (Below w.heap.size w w1) := B.out.trans (hb.mono B.out.size)
    clear hb
    rw [HZ.out]
    go_wp2
    go_ret
    exact ⟨rfl, B.out⟩
  have hcl : cs0.length ≤ 1048576 := by omega
  have hil : is0.length ≤ 1048576 := by omega
  have h0 : Hid (tot cs0 + cs0.length ≤ 1048576) := by show _ ≤ _; omega
  have h1 : Hid (itot is0 + is0.length ≤ 1048576) := by show _ ≤ _; omega
  have hnb : Hid (∀ p ∈ is0, p.2.2.length ≤ 1048576) := fun p hp => by
    obtain ⟨k, hk, hh⟩ := List.mem_iff_getElem.1 hp
    have := (WV.ibnd h1.out k p (by rw [List.getElem?_eq_getElem hk, hh])).2.2
    omega
  obtain ⟨m, hm, HZ⟩ : ∃ m : Nat, cs0.length + tot cs0 + is0.length + itot is0 + m = 1048576 ∧ Hid (szW cs0 is0 1048576 = m) := ⟨1048576 - (cs0.length + tot cs0 + is0.length + itot is0), by omega, by show _ = _; unfold szW; rw [if_pos (by omega)]; omega⟩
  clear hsz
  have HM : Hid (cs0.length + tot cs0 + is0.length + itot is0 + m = 1048576) := hm
  have hm2 : m ≤ 1048576 := by omega
  clear hm
  go_enter Try.func7, Try.ntmps7
  go_wp2_with fail
  generalize w.alloc (.cells #[.slice a cs0.length cap, .slice b is0.length cap2] 25) = w0 at *
  refine (szWorld_any _ cs0 is0 _ w0 (by omega) (by omega) R0.out).mono ?_
  rintro e w1 ⟨rfl, hb⟩
  replace B : Hid (Below w.heap.size w w1) := B.out.trans (hb.mono B.out.size)
  replace X1 : Hid (w1.heap[w.heap.size]? = some (.cells #[.slice a cs0.length cap, .slice b is0.length cap2] 25 (0, 0))) := below_heap hb (lt_of_heap X1.out) X1.out
  replace R0 : Hid (WR w1 (.agg #[.slice a cs0.length cap, .slice b is0.length cap2]) cs0 is0) := R0.out.below hb
  clear hb
  rw [HZ.out]
  have kX1_0 : w1.cell? ⟨w.heap.size, 0, none⟩ = some (.slice a cs0.length cap) := heap_cell X1.out 0
  have kX1_1 : w1.cell? ⟨w.heap.size, 1, none⟩ = some (.slice b is0.length cap2) := heap_cell X1.out 1
  have lX1 : w.heap.size < w1.heap.size := lt_of_heap X1.out
  go_wp2_with fail
  clear kX1_0 kX1_1 lX1
  refine (toWorld_any _ cs0 is0 w1 hcl hil hnb.out R0.out).mono ?_
  rintro e w2 ⟨p, pi, rfl, hsp, hsi, -, hb⟩
  replace B : Hid (Below w.heap.size w w2) := B.out.trans (hb.mono B.out.size)
  replace X1 : Hid (w2.heap[w.heap.size]? = some (.cells #[.slice a cs0.length cap, .slice b is0.length cap2] 25 (0, 0))) := below_heap hb (lt_of_heap X1.out) X1.out
  replace R0 : Hid (WR w2 (.agg #[.slice a cs0.length cap, .slice b is0.length cap2]) cs0 is0) := R0.out.below hb
  have Pp : Hid (SP w2 (.slice (some ⟨p, 0, none⟩) cs0.length cs0.length) cs0) := hsp
  have Ip : Hid (SI w2 (.slice (some ⟨pi, 0, none⟩) is0.length is0.length) is0) := hsi
  clear hb hsp hsi
  have kX1_0 : w2.cell? ⟨w.heap.size, 0, none⟩ = some (.slice a cs0.length cap) := heap_cell X1.out 0
  have kX1_1 : w2.cell? ⟨w.heap.size, 1, none⟩ = some (.slice b is0.length cap2) := heap_cell X1.out 1
  have lX1 : w.heap.size < w2.heap.size := lt_of_heap X1.out
  go_wp2_with fail
  clear kX1_0 kX1_1 lX1
  refine (Sup.SupersOf_spec (some ⟨p, 0, none⟩) (some ⟨pi, 0, none⟩) cs0.length is0.length cs0 is0 a1 w2 h0.out h1.out (Nat.le_refl _) Pp.out Ip.out).mono ?_
  rintro e w3 ⟨rfl, hb⟩
  replace B : Hid (Below w.heap.size w w3) := B.out.trans (hb.mono B.out.size)
  replace X1 : Hid (w3.heap[w.heap.size]? = some (.cells #[.slice a cs0.length cap, .slice b is0.length cap2] 25 (0, 0))) := below_heap hb (lt_of_heap X1.out) X1.out
  replace R0 : Hid (WR w3 (.agg #[.slice a cs0.length cap, .slice b is0.length cap2]) cs0 is0) := R0.out.below hb
  replace Pp : Hid (SP w3 (.slice (some ⟨p, 0, none⟩) cs0.length cs0.length) cs0) := Pp.out.below hb
  replace Ip : Hid (SI w3 (.slice (some ⟨pi, 0, none⟩) is0.length is0.length) is0) := Ip.out.below hb
  clear hb 
  clear Pp Ip
  have kX1_0 : w3.cell? ⟨w.heap.size, 0, none⟩ = some (.slice a cs0.length cap) := heap_cell X1.out 0
  have kX1_1 : w3.cell? ⟨w.heap.size, 1, none⟩ = some (.slice b is0.length cap2) := heap_cell X1.out 1
  have lX1 : w.heap.size < w3.heap.size := lt_of_heap X1.out
  go_wp2_with fail
  clear kX1_0 kX1_1 lX1
  refine (toWorld_any _ cs0 is0 w3 hcl hil hnb.out R0.out).mono ?_
  rintro e w4 ⟨q, qi, rfl, hsp, hsi, -, hb⟩
  replace B : Hid (Below w.heap.size w w4) := B.out.trans (hb.mono B.out.size)
  replace X1 : Hid (w4.heap[w.heap.size]? = some (.cells #[.slice a cs0.length cap, .slice b is0.length cap2] 25 (0, 0))) := below_heap hb (lt_of_heap X1.out) X1.out
  replace R0 : Hid (WR w4 (.agg #[.slice a cs0.length cap, .slice b is0.length cap2]) cs0 is0) := R0.out.below hb
  have Pq : Hid (SP w4 (.slice (some ⟨q, 0, none⟩) cs0.length cs0.length) cs0) := hsp
  have Iq : Hid (SI w4 (.slice (some ⟨qi, 0, none⟩) is0.length is0.length) is0) := hsi
  clear hb hsp hsi
  have kX1_0 : w4.cell? ⟨w.heap.size, 0, none⟩ = some (.slice a cs0.length cap) := heap_cell X1.out 0
  have kX1_1 : w4.cell? ⟨w.heap.size, 1, none⟩ = some (.slice b is0.length cap2) := heap_cell X1.out 1
  have lX1 : w.heap.size < w4.heap.size := lt_of_heap X1.out
  go_wp2_with fail
  clear kX1_0 kX1_1 lX1
  have hb : Below w4.heap.size w4 (w4.alloc (.cells #[.slice (some ⟨q, 0, none⟩) cs0.length cs0.length, .slice (some ⟨qi, 0, none⟩) is0.length is0.length] 37)) := (Below.refl _ _).alloc (Nat.le_refl _) _
  replace B : Hid (Below w.heap.size w (w4.alloc (.cells #[.slice (some ⟨q, 0, none⟩) cs0.length cs0.length, .slice (some ⟨qi, 0, none⟩) is0.length is0.length] 37))) := B.out.trans (hb.mono B.out.size)
  replace X1 : Hid ((w4.alloc (.cells #[.slice (some ⟨q, 0, none⟩) cs0.length cs0.length, .slice (some ⟨qi, 0, none⟩) is0.length is0.length] 37)).heap[w.heap.size]? = some (.cells #[.slice a cs0.length cap, .slice b is0.length cap2] 25 (0, 0))) := below_heap hb (lt_of_heap X1.out) X1.out
  replace R0 : Hid (WR (w4.alloc (.cells #[.slice (some ⟨q, 0, none⟩) cs0.length cs0.length, .slice (some ⟨qi, 0, none⟩) is0.length is0.length] 37)) (.agg #[.slice a cs0.length cap, .slice b is0.length cap2]) cs0 is0) := R0.out.below hb
  replace Pq : Hid (SP (w4.alloc (.cells #[.slice (some ⟨q, 0, none⟩) cs0.length cs0.length, .slice (some ⟨qi, 0, none⟩) is0.length is0.length] 37)) (.slice (some ⟨q, 0, none⟩) cs0.length cs0.length) cs0) := Pq.out.below hb
  replace Iq : Hid (SI (w4.alloc (.cells #[.slice (some ⟨q, 0, none⟩) cs0.length cs0.length, .slice (some ⟨qi, 0, none⟩) is0.length is0.length] 37)) (.slice (some ⟨qi, 0, none⟩) is0.length is0.length) is0) := Iq.out.below hb
  have XQ : Hid ((w4.alloc (.cells #[.slice (some ⟨q, 0, none⟩) cs0.length cs0.length, .slice (some ⟨qi, 0, none⟩) is0.length is0.length] 37)).heap[w4.heap.size]? = some (.cells #[.slice (some ⟨q, 0, none⟩) cs0.length cs0.length, .slice (some ⟨qi, 0, none⟩) is0.length is0.length] 37 (0, 0))) := heap_alloc_new _ _
  clear hb
  generalize w4.alloc (.cells #[.slice (some ⟨q, 0, none⟩) cs0.length cs0.length, .slice (some ⟨qi, 0, none⟩) is0.length is0.length] 37) = w5 at *
  generalize w4.heap.size = b5 at *
  refine (Sup.SupersOf_impl (some ⟨q, 0, none⟩) (some ⟨qi, 0, none⟩) cs0.length is0.length cs0 is0 a1 w5 h0.out h1.out (Nat.le_refl _) Pq.out Iq.out).mono ?_
  rintro e w6 ⟨rfl, hb⟩
  replace B : Hid (Below w.heap.size w w6) := B.out.trans (hb.mono B.out.size)
  replace X1 : Hid (w6.heap[w.heap.size]? = some (.cells #[.slice a cs0.length cap, .slice b is0.length cap2] 25 (0, 0))) := below_heap hb (lt_of_heap X1.out) X1.out
  replace R0 : Hid (WR w6 (.agg #[.slice a cs0.length cap, .slice b is0.length cap2]) cs0 is0) := R0.out.below hb
  replace Pq : Hid (SP w6 (.slice (some ⟨q, 0, none⟩) cs0.length cs0.length) cs0) := Pq.out.below hb
  replace Iq : Hid (SI w6 (.slice (some ⟨qi, 0, none⟩) is0.length is0.length) is0) := Iq.out.below hb
  replace XQ : Hid (w6.heap[b5]? = some (.cells #[.slice (some ⟨q, 0, none⟩) cs0.length cs0.length, .slice (some ⟨qi, 0, none⟩) is0.length is0.length] 37 (0, 0))) := below_heap hb (lt_of_heap XQ.out) XQ.out
  clear hb 
  have kX1_0 : w6.cell? ⟨w.heap.size, 0, none⟩ = some (.slice a cs0.length cap) := heap_cell X1.out 0
  have kX1_1 : w6.cell? ⟨w.heap.size, 1, none⟩ = some (.slice b is0.length cap2) := heap_cell X1.out 1
  have lX1 : w.heap.size < w6.heap.size := lt_of_heap X1.out
  have kXQ_0 : w6.cell? ⟨b5, 0, none⟩ = some (.slice (some ⟨q, 0, none⟩) cs0.length cs0.length) := heap_cell XQ.out 0
  have kXQ_1 : w6.cell? ⟨b5, 1, none⟩ = some (.slice (some ⟨qi, 0, none⟩) is0.length is0.length) := heap_cell XQ.out 1
  have lXQ : b5 < w6.heap.size := lt_of_heap XQ.out
  go_wp2_with fail
  clear kX1_0 kX1_1 lX1 kXQ_0 kXQ_1 lXQ
  refine wp_region_any (by kernel_rfl) ?_
  change wpAny _ _ _ _ _ _ _ (World.drew _)
  have hb : Below w6.heap.size w6 w6.drew := below_drew1 (Below.refl _ _)
  replace B : Hid (Below w.heap.size w w6.drew) := B.out.trans (hb.mono B.out.size)
  replace X1 : Hid (w6.drew.heap[w.heap.size]? = some (.cells #[.slice a cs0.length cap, .slice b is0.length cap2] 25 (0, 0))) := below_heap hb (lt_of_heap X1.out) X1.out
  replace R0 : Hid (WR w6.drew (.agg #[.slice a cs0.length cap, .slice b is0.length cap2]) cs0 is0) := R0.out.below hb
  replace Pq : Hid (SP w6.drew (.slice (some ⟨q, 0, none⟩) cs0.length cs0.length) cs0) := Pq.out.below hb
  replace Iq : Hid (SI w6.drew (.slice (some ⟨qi, 0, none⟩) is0.length is0.length) is0) := Iq.out.below hb
  replace XQ : Hid (w6.drew.heap[b5]? = some (.cells #[.slice (some ⟨q, 0, none⟩) cs0.length cs0.length, .slice (some ⟨qi, 0, none⟩) is0.length is0.length] 37 (0, 0))) := below_heap hb (lt_of_heap XQ.out) XQ.out
  clear hb
  generalize w6.drew = w7 at *
  refine wpAny_of_T (S := fun X => X.cell? ⟨w.heap.size, 0, none⟩ = some (.slice a cs0.length cap) ∧ X.cell? ⟨w.heap.size, 1, none⟩ = some (.slice b is0.length cap2) ∧ X.cell? ⟨b5, 0, none⟩ = some (.slice (some ⟨q, 0, none⟩) cs0.length cs0.length) ∧ X.cell? ⟨b5, 1, none⟩ = some (.slice (some ⟨qi, 0, none⟩) is0.length is0.length)) (m := 5) _ _ _ _ ?_
  refine wpAnyT_take (i := 0) (v := .agg #[.slice (some ⟨q, 0, none⟩) cs0.length cs0.length, .slice (some ⟨qi, 0, none⟩) is0.length is0.length]) rfl (by kernel_rfl) (by kernel_rfl) (by kernel_rfl) (by kernel_rfl) (fun _ _ _ h => h) (Or.inl ⟨by kernel_rfl, fun X hS => by obtain ⟨e0, e1, e2, e3⟩ := hS; go_simp⟩) ⟨heap_cell X1.out 0, heap_cell X1.out 1, heap_cell XQ.out 0, heap_cell XQ.out 1⟩ ?_
  try go_simp
  refine wpAnyT_take (i := 1) (v := .agg #[.slice a cs0.length cap, .slice b is0.length cap2]) rfl (by kernel_rfl) (by kernel_rfl) (by kernel_rfl) (by kernel_rfl) (fun _ _ _ h => h) (Or.inl ⟨by kernel_rfl, fun X hS => by obtain ⟨e0, e1, e2, e3⟩ := hS; go_simp⟩) ⟨heap_cell X1.out 0, heap_cell X1.out 1, heap_cell XQ.out 0, heap_cell XQ.out 1⟩ ?_
  try go_simp
  refine wpAnyT_one 2 rfl (by kernel_rfl) (fun K hK => ?_)
  go_simp
  refine (toWorld_any _ cs0 is0 w7 hcl hil hnb.out R0.out).mono ?_
  rintro e w8 ⟨r, ri, rfl, hsp, hsi, -, hb⟩
  replace B : Hid (Below w.heap.size w w8) := B.out.trans (hb.mono B.out.size)
  replace X1 : Hid (w8.heap[w.heap.size]? = some (.cells #[.slice a cs0.length cap, .slice b is0.length cap2] 25 (0, 0))) := below_heap hb (lt_of_heap X1.out) X1.out
  replace R0 : Hid (WR w8 (.agg #[.slice a cs0.length cap, .slice b is0.length cap2]) cs0 is0) := R0.out.below hb
  replace Pq : Hid (SP w8 (.slice (some ⟨q, 0, none⟩) cs0.length cs0.length) cs0) := Pq.out.below hb
  replace Iq : Hid (SI w8 (.slice (some ⟨qi, 0, none⟩) is0.length is0.length) is0) := Iq.out.below hb
  replace XQ : Hid (w8.heap[b5]? = some (.cells #[.slice (some ⟨q, 0, none⟩) cs0.length cs0.length, .slice (some ⟨qi, 0, none⟩) is0.length is0.length] 37 (0, 0))) := below_heap hb (lt_of_heap XQ.out) XQ.out
  have Pr : Hid (SP w8 (.slice (some ⟨r, 0, none⟩) cs0.length cs0.length) cs0) := hsp
  have Ir : Hid (SI w8 (.slice (some ⟨ri, 0, none⟩) is0.length is0.length) is0) := hsi
  clear hb hsp hsi
  refine hK _ _ (fun _ => ⟨heap_cell X1.out 0, heap_cell X1.out 1, heap_cell XQ.out 0, heap_cell XQ.out 1⟩) ?_
  clear hK K
  refine wpAnyT_one 3 rfl (by kernel_rfl) (fun K hK => ?_)
  go_simp
  refine (eqWorld_same _ _ cs0 is0 w8 ⟨_, _, rfl, Pq.out, Iq.out⟩ ⟨_, _, rfl, Pr.out, Ir.out⟩).mono ?_
  rintro e w9 ⟨rfl, hb⟩
  replace B : Hid (Below w.heap.size w w9) := B.out.trans (hb.mono B.out.size)
  replace X1 : Hid (w9.heap[w.heap.size]? = some (.cells #[.slice a cs0.length cap, .slice b is0.length cap2] 25 (0, 0))) := below_heap hb (lt_of_heap X1.out) X1.out
  replace R0 : Hid (WR w9 (.agg #[.slice a cs0.length cap, .slice b is0.length cap2]) cs0 is0) := R0.out.below hb
  replace Pq : Hid (SP w9 (.slice (some ⟨q, 0, none⟩) cs0.length cs0.length) cs0) := Pq.out.below hb
  replace Iq : Hid (SI w9 (.slice (some ⟨qi, 0, none⟩) is0.length is0.length) is0) := Iq.out.below hb
  replace XQ : Hid (w9.heap[b5]? = some (.cells #[.slice (some ⟨q, 0, none⟩) cs0.length cs0.length, .slice (some ⟨qi, 0, none⟩) is0.length is0.length] 37 (0, 0))) := below_heap hb (lt_of_heap XQ.out) XQ.out
  replace Pr : Hid (SP w9 (.slice (some ⟨r, 0, none⟩) cs0.length cs0.length) cs0) := Pr.out.below hb
  replace Ir : Hid (SI w9 (.slice (some ⟨ri, 0, none⟩) is0.length is0.length) is0) := Ir.out.below hb
  clear hb 
  refine hK _ _ (fun _ => ⟨heap_cell X1.out 0, heap_cell X1.out 1, heap_cell XQ.out 0, heap_cell XQ.out 1⟩) ?_
  clear hK K
  refine wpAnyT_take (i := 4) (v := .bool false) rfl (by kernel_rfl) (by kernel_rfl) (by kernel_rfl) (by kernel_rfl) (fun _ _ _ h => h) (Or.inl ⟨by kernel_rfl, fun X hS => by clear hS; go_simp⟩) ⟨heap_cell X1.out 0, heap_cell X1.out 1, heap_cell XQ.out 0, heap_cell XQ.out 1⟩ ?_
  try go_simp
  refine wpAnyT_drop _ 5 _ _ _ (by decide) (by kernel_rfl) ?_
  change wpList _ _ _ [] _ _
  go_wp2
  go_ret
  exact ⟨rfl, B.out⟩

theorem lifted (os : Os) (started : os.Started) (H : Type) (enc : TypeId × Value → H) :
    ReturnsInHanded {} Try.checked os 7 .any (Rows.fnExactSupersOfSpec.pre6 enc Try.prog Try.f7 Rows.fnExactSupersOfRow.domain false) (Rows.fnExactSupersOfSpec.post enc Try.prog Try.f7 false true false false) := by
  refine returnsInHanded_of_change (C := Try.checked) own started (by kernel_rfl) Try.func7
    (ChangeSpec.witness6 (enc := enc) (C := Try.checked) false ⟨#[], #[.agg #[.slice none 0 0, .slice none 0 0], .string ByteArray.empty], []⟩ 8 (by kernel_rfl) (by kernel_rfl) (by kernel_rfl) (by kernel_rfl)) ?_
  intro W base args ds gs before hval0 hW hcnd _
  have hval : ∀ (j : Nat) t v, Try.f7.params[j]? = some t → args[j]? = some v → Value.okWide Try.prog W .any base t v := hval0
  have hW' := hW
  obtain ⟨p, q, hA0, hV, rfl, hfz, hnd⟩ := hW
  have hA : DataW.TrodAll enc Try.prog W 0 (fun _ => true) true Try.f7.params.toList args.toList ds p := hA0
  rw [Try.params7] at hA hval
  have hL := DataW.TrodAll.lt hA
  obtain ⟨v0, vs0, d0, ds0, p0, q0, hargs, rfl, rfl, h0, r0⟩ := trodAll_cons hA
  obtain ⟨v1, vs1, d1, ds1, p1, q1, rfl, rfl, rfl, h1, r1⟩ := trodAll_cons r0
  obtain ⟨rfl, rfl, rfl⟩ := trodAll_nil r1
  obtain rfl : args = #[v0, v1] := by cases args; simp_all
  obtain ⟨rfl, rfl⟩ := trodVars_none hV
  have k0 := h0
  have l0 : ∀ x ∈ p0, x.block < W.heap.size := fun x hx => hL x (by simp [hx])
  have k1 := h1
  have l1 : ∀ x ∈ p1, x.block < W.heap.size := fun x hx => hL x (by simp [hx])
  obtain ⟨cs0, is0, s0⟩ := open_world Try.underlying25 (by kernel_rfl) rfl rfl (by kernel_rfl) (by kernel_rfl) Try.underlying22 Try.underlying23 Try.underlying93 (by kernel_rfl) rfl rfl (by kernel_rfl) (by kernel_rfl) (by kernel_rfl) (by kernel_rfl) Try.underlying30 (by kernel_rfl) rfl rfl (by kernel_rfl) (by kernel_rfl) Try.underlying27 rfl rfl (by kernel_rfl) (by kernel_rfl) (by kernel_rfl) (by kernel_rfl) Try.underlying28 (hval 0 25 v0 rfl rfl) h0
  obtain ⟨a1, rfl, -, -, w1⟩ := open_string Try.underlying9 (hval 1 9 v1 rfl rfl) h1
  clear hA0 hval0
  simp only [List.append_nil] at hW'
  refine (walk W _ _ _ s0 a1 w1).mono fun e W' ⟨he, bel⟩ => ?_
  subst he
  exact ⟨_, rfl, _, _, _, [], _, [], hW', (trodAll_cons_mk (shut_bool Try.underlying4 _) trodAll_mk0), (trodAll_cons_mk (Below.trod laidOut (by kernel_rfl) (of_decide_eq_true (by kernel_rfl)) k0 bel l0) (trodAll_cons_mk (Below.trod laidOut (by kernel_rfl) (of_decide_eq_true (by kernel_rfl)) k1 bel l1) trodAll_mk0)), rfl, bel.frame _, fun h => by cases h⟩
theorem e1 : Rows.fnExactSupersOfRow.lifted = Rows.fnExactInstanceValidRow.lifted := rfl
theorem e2 : Rows.fnExactSupersOfRow.make = Rows.fnExactInstanceValidRow.make := rfl
theorem e3 : Rows.fnExactSupersOfRow.plainKeys = Rows.fnExactInstanceValidRow.plainKeys := rfl
theorem facts : joinedFacts Try.pinned.checked.prog 7 Try.f7 Rows.fnExactSupersOfSpec Rows.fnExactSupersOfRow = true := by
  refine Facts.joined e1 e2 e3 ?_ ?_ ?_ ?_ ?_ ?_ ?_ ?_ ?_ ?_ ?_ ?_ ?_ ?_ ?_ ?_ ?_ ?_ ?_ ?_ ?_ ?_ ?_
  all_goals as_aux_lemma => kernel_rfl
theorem over : Rows.fnExactSupersOfRow.holds Try.pinned (OpenSpec.ofChange Rows.fnExactSupersOfSpec) :=
  OpenClaim.holds_of_wide 7 Try.f7 rfl rfl rfl rfl rfl rfl rfl ⟨rfl, rfl, rfl, rfl, rfl⟩ rfl rfl rfl rfl rfl (by kernel_rfl) Try.func7 facts
    (of_decide_eq_true (by kernel_rfl)) (by unfold Func.isWrapper; first | (rw [if_pos (by decide +kernel)]; kernel_rfl) | (rw [if_neg (by decide +kernel)]; exact ⟨rfl, rfl⟩))
    (fun os started H enc _ => lifted os started H enc)
end Go.Proofs.Ytaijklafgcocmaa.fnExactSupersOf
namespace Go.Proofs.Ytaijklafgcocmaa
theorem fnExactSupersOf_holds : Rows.FnExactSupersOfSaid := fnExactSupersOf.over
end Go.Proofs.Ytaijklafgcocmaa
