/- FnExactInstanceValid answers true for every input: the program's InstanceValid returns what the reference's returns. Conditions: none. -/
import Derived.Test.YtaijklafgcocmaaHC
import Derived.Test.YtaijklafgcocmaaReg2
import Derived.Test.YtaijklafgcocmaaRows
import Derived.Test.YtaijklafgcocmaaFacts
import Derived.WalkKit
import Derived.ProofKit
import Derived.OpenShut
import Derived.ShutString
import Derived.ChangeOld
import Derived.Below
import Derived.Carry
import Derived.Lib.SmallJoins
set_option linter.unusedVariables false
set_option linter.unusedSimpArgs false
set_option maxRecDepth 100000
namespace Go.Proofs.Ytaijklafgcocmaa.fnExactInstanceValid
open Go.ChangeShapes Go.WideShapes Go.ChangeAt Go.RowKit Go.Joins Ty Known Classes IV WV
open Go.ChangeMaps (open_string shut_string)

theorem own : ownKnob Try.prog.godebug = none := by kernel_rfl
theorem laidOut : laidOutB Try.prog = true := by kernel_rfl
theorem bytes (s : ByteArray) : ∃ l : List UInt8, s = ⟨l.toArray⟩ ∧ s.size = l.length := ⟨s.data.toList, rfl, by simp⟩
set_option maxHeartbeats 4000000 in
theorem walk (w : World) (v0 : Value) (cs0 : List BB) (is0 : List II) (s0 : WR w v0 cs0 is0) (a1 b1 : ByteArray) (v1 : Value) (xs1 : List BB) (w1 : a1.size ≤ maxLen) (u1 : b1.size ≤ maxLen) (s1 : SP w v1 xs1) :
    Calls Try.prog 3 #[v0, .agg #[.string a1, .string b1, v1]] w fun e w' => e = .returned (.bool true) ∧ Below w.heap.size w w' := by
  obtain ⟨x0, y0, rfl, hs, hi⟩ := s0
  obtain ⟨a, cap, rfl⟩ := sp_slice hs
  obtain ⟨b, cap2, rfl⟩ := si_slice hi
  obtain ⟨x, rfl, hxl⟩ := bytes a1
  obtain ⟨y, rfl, hyl⟩ := bytes b1
  obtain ⟨d, capd, rfl⟩ := sp_slice s1
  have B : Hid (Below w.heap.size w ((w.alloc (.cells #[.slice a cs0.length cap, .slice b is0.length cap2] 25)).alloc (.cells #[.string ⟨x.toArray⟩, .string ⟨y.toArray⟩, .slice d xs1.length capd] 30))) := ((Below.refl _ _).alloc (Nat.le_refl _) _).alloc (by simp) _
  have X1 : Hid (((w.alloc (.cells #[.slice a cs0.length cap, .slice b is0.length cap2] 25)).alloc (.cells #[.string ⟨x.toArray⟩, .string ⟨y.toArray⟩, .slice d xs1.length capd] 30)).heap[w.heap.size]? = some (.cells #[.slice a cs0.length cap, .slice b is0.length cap2] 25 (0, 0))) := hb_alloc (heap_alloc_new _ _) _
  have X2 : Hid (((w.alloc (.cells #[.slice a cs0.length cap, .slice b is0.length cap2] 25)).alloc (.cells #[.string ⟨x.toArray⟩, .string ⟨y.toArray⟩, .slice d xs1.length capd] 30)).heap[w.heap.size + 1]? = some (.cells #[.string ⟨x.toArray⟩, .string ⟨y.toArray⟩, .slice d xs1.length capd] 30 (0, 0))) := heap_alloc2_new _ _ _
  have R0 : Hid (WR ((w.alloc (.cells #[.slice a cs0.length cap, .slice b is0.length cap2] 25)).alloc (.cells #[.string ⟨x.toArray⟩, .string ⟨y.toArray⟩, .slice d xs1.length capd] 30)) (.agg #[.slice a cs0.length cap, .slice b is0.length cap2]) cs0 is0) := WR.below ⟨_, _, rfl, hs, hi⟩ B.out
  have H00 := hid (hs.sizes.1)
  clear hs hi H00
  have S1 : Hid (SP ((w.alloc (.cells #[.slice a cs0.length cap, .slice b is0.length cap2] 25)).alloc (.cells #[.string ⟨x.toArray⟩, .string ⟨y.toArray⟩, .slice d xs1.length capd] 30)) (.slice d xs1.length capd) xs1) := s1.below B.out
  clear s1
  by_cases hsz : cs0.length + tot cs0 + is0.length + itot is0 ≤ 1048576
  case neg =>
    have HZ : Hid (szW cs0 is0 1048576 = -1) := by show _ = _; unfold szW; rw [if_neg (by omega)]
    clear hsz
    go_enter Try.func3, Try.ntmps3
    go_wp2_with fail
    generalize (w.alloc (.cells #[.slice a cs0.length cap, .slice b is0.length cap2] 25)).alloc (.cells #[.string ⟨x.toArray⟩, .string ⟨y.toArray⟩, .slice d xs1.length capd] 30) = w0 at *
    refine (szWorld_any _ cs0 is0 _ w0 (by omega) (by omega) R0.out).mono ?_
    rintro e w1 ⟨rfl, hb⟩
    replace B : Hid (Below w.heap.size w w1) := B.out.trans (hb.mono B.out.size)
    clear hb
    rw [HZ.out]
    go_wp2
    go_ret
    exact ⟨rfl, B.out⟩
  have hcl : cs0.length ≤ 1048576 := by omega
  have hil : is0.length ≤ 1048576 := by omega
  have h0 : Hid (tot cs0 + cs0.length ≤ 1048576) := by show _ ≤ _; omega
  have h1 : Hid (itot is0 + is0.length ≤ 1048576) := by show _ ≤ _; omega
  have hnb : Hid (∀ p ∈ is0, p.2.2.length ≤ 1048576) := fun p hp => by
    obtain ⟨k, hk, hh⟩ := List.mem_iff_getElem.1 hp
    have := (WV.ibnd h1.out k p (by rw [List.getElem?_eq_getElem hk, hh])).2.2
    omega
  obtain ⟨m, hm, HZ⟩ : ∃ m : Nat, cs0.length + tot cs0 + is0.length + itot is0 + m = 1048576 ∧ Hid (szW cs0 is0 1048576 = m) := ⟨1048576 - (cs0.length + tot cs0 + is0.length + itot is0), by omega, by show _ = _; unfold szW; rw [if_pos (by omega)]; omega⟩
  clear hsz
  have HM : Hid (cs0.length + tot cs0 + is0.length + itot is0 + m = 1048576) := hm
  have hm2 : m ≤ 1048576 := by omega
  clear hm
  by_cases hc : (x.length : Int) + y.length + xs1.length + tot xs1 ≤ m
  case neg =>
    have HQ : Hid (szI ⟨x.toArray⟩ ⟨y.toArray⟩ xs1 m = -1) := by show _ = _; unfold szI; rw [if_neg (by simp only [ByteArray.size, List.size_toArray]; omega)]
    clear hc
    go_enter Try.func3, Try.ntmps3
    go_wp2_with fail
    generalize (w.alloc (.cells #[.slice a cs0.length cap, .slice b is0.length cap2] 25)).alloc (.cells #[.string ⟨x.toArray⟩, .string ⟨y.toArray⟩, .slice d xs1.length capd] 30) = w0 at *
    refine (szWorld_any _ cs0 is0 _ w0 (by omega) (by omega) R0.out).mono ?_
    rintro e w1 ⟨rfl, hb⟩
    replace B : Hid (Below w.heap.size w w1) := B.out.trans (hb.mono B.out.size)
    replace X1 : Hid (w1.heap[w.heap.size]? = some (.cells #[.slice a cs0.length cap, .slice b is0.length cap2] 25 (0, 0))) := below_heap hb (lt_of_heap X1.out) X1.out
    replace X2 : Hid (w1.heap[w.heap.size + 1]? = some (.cells #[.string ⟨x.toArray⟩, .string ⟨y.toArray⟩, .slice d xs1.length capd] 30 (0, 0))) := below_heap hb (lt_of_heap X2.out) X2.out
    replace R0 : Hid (WR w1 (.agg #[.slice a cs0.length cap, .slice b is0.length cap2]) cs0 is0) := R0.out.below hb
    replace S1 : Hid (SP w1 (.slice d xs1.length capd) xs1) := S1.out.below hb
    clear hb
    rw [HZ.out]
    have kX1_0 : w1.cell? ⟨w.heap.size, 0, none⟩ = some (.slice a cs0.length cap) := heap_cell X1.out 0
    have kX1_1 : w1.cell? ⟨w.heap.size, 1, none⟩ = some (.slice b is0.length cap2) := heap_cell X1.out 1
    have lX1 : w.heap.size < w1.heap.size := lt_of_heap X1.out
    have kX2_0 : w1.cell? ⟨w.heap.size + 1, 0, none⟩ = some (.string ⟨x.toArray⟩) := heap_cell X2.out 0
    have kX2_1 : w1.cell? ⟨w.heap.size + 1, 1, none⟩ = some (.string ⟨y.toArray⟩) := heap_cell X2.out 1
    have kX2_2 : w1.cell? ⟨w.heap.size + 1, 2, none⟩ = some (.slice d xs1.length capd) := heap_cell X2.out 2
    have lX2 : w.heap.size + 1 < w1.heap.size := lt_of_heap X2.out
    go_wp2_with fail
    clear kX1_0 kX1_1 lX1 kX2_0 kX2_1 kX2_2 lX2
    refine (szInstance_any ⟨x.toArray⟩ ⟨y.toArray⟩ _ xs1 _ w1 (by omega) (by omega) (by unfold maxLen at *; simp only [ByteArray.size, List.size_toArray]; omega) (by unfold maxLen at *; simp only [ByteArray.size, List.size_toArray]; omega) S1.out).mono ?_
    rintro e w2 ⟨rfl, hb⟩
    replace B : Hid (Below w.heap.size w w2) := B.out.trans (hb.mono B.out.size)
    replace X1 : Hid (w2.heap[w.heap.size]? = some (.cells #[.slice a cs0.length cap, .slice b is0.length cap2] 25 (0, 0))) := below_heap hb (lt_of_heap X1.out) X1.out
    replace X2 : Hid (w2.heap[w.heap.size + 1]? = some (.cells #[.string ⟨x.toArray⟩, .string ⟨y.toArray⟩, .slice d xs1.length capd] 30 (0, 0))) := below_heap hb (lt_of_heap X2.out) X2.out
    replace R0 : Hid (WR w2 (.agg #[.slice a cs0.length cap, .slice b is0.length cap2]) cs0 is0) := R0.out.below hb
    replace S1 : Hid (SP w2 (.slice d xs1.length capd) xs1) := S1.out.below hb
    clear hb 
    rw [HQ.out]
    go_wp2
    go_ret
    exact ⟨rfl, B.out⟩
  have hx1 : x.length ≤ 1048576 := by omega
  have hy1 : y.length ≤ 1048576 := by omega
  have hxn : tot xs1 + xs1.length ≤ 1048576 := by omega
  have hxn2 : xs1.length ≤ 1048576 := by omega
  have HXN := hid hxn
  obtain ⟨m2, hm3, HQ⟩ : ∃ m2 : Nat, m2 ≤ 1048576 ∧ Hid (szI ⟨x.toArray⟩ ⟨y.toArray⟩ xs1 m = m2) := ⟨m - (x.length + y.length + xs1.length + tot xs1), by omega, by show _ = _; unfold szI; rw [if_pos (by simp only [ByteArray.size, List.size_toArray]; omega)]; simp only [ByteArray.size, List.size_toArray]; omega⟩
  clear hc hxn
  go_enter Try.func3, Try.ntmps3
  go_wp2_with fail
  generalize (w.alloc (.cells #[.slice a cs0.length cap, .slice b is0.length cap2] 25)).alloc (.cells #[.string ⟨x.toArray⟩, .string ⟨y.toArray⟩, .slice d xs1.length capd] 30) = w0 at *
  refine (szWorld_any _ cs0 is0 _ w0 (by omega) (by omega) R0.out).mono ?_
  rintro e w1 ⟨rfl, hb⟩
  replace B : Hid (Below w.heap.size w w1) := B.out.trans (hb.mono B.out.size)
  replace X1 : Hid (w1.heap[w.heap.size]? = some (.cells #[.slice a cs0.length cap, .slice b is0.length cap2] 25 (0, 0))) := below_heap hb (lt_of_heap X1.out) X1.out
  replace X2 : Hid (w1.heap[w.heap.size + 1]? = some (.cells #[.string ⟨x.toArray⟩, .string ⟨y.toArray⟩, .slice d xs1.length capd] 30 (0, 0))) := below_heap hb (lt_of_heap X2.out) X2.out
  replace R0 : Hid (WR w1 (.agg #[.slice a cs0.length cap, .slice b is0.length cap2]) cs0 is0) := R0.out.below hb
  replace S1 : Hid (SP w1 (.slice d xs1.length capd) xs1) := S1.out.below hb
  clear hb
  rw [HZ.out]
  have kX1_0 : w1.cell? ⟨w.heap.size, 0, none⟩ = some (.slice a cs0.length cap) := heap_cell X1.out 0
  have kX1_1 : w1.cell? ⟨w.heap.size, 1, none⟩ = some (.slice b is0.length cap2) := heap_cell X1.out 1
  have lX1 : w.heap.size < w1.heap.size := lt_of_heap X1.out
  have kX2_0 : w1.cell? ⟨w.heap.size + 1, 0, none⟩ = some (.string ⟨x.toArray⟩) := heap_cell X2.out 0
  have kX2_1 : w1.cell? ⟨w.heap.size + 1, 1, none⟩ = some (.string ⟨y.toArray⟩) := heap_cell X2.out 1
  have kX2_2 : w1.cell? ⟨w.heap.size + 1, 2, none⟩ = some (.slice d xs1.length capd) := heap_cell X2.out 2
  have lX2 : w.heap.size + 1 < w1.heap.size := lt_of_heap X2.out
  go_wp2_with fail
  clear kX1_0 kX1_1 lX1 kX2_0 kX2_1 kX2_2 lX2
  refine (szInstance_any ⟨x.toArray⟩ ⟨y.toArray⟩ _ xs1 _ w1 (by omega) (by omega) (by unfold maxLen at *; simp only [ByteArray.size, List.size_toArray]; omega) (by unfold maxLen at *; simp only [ByteArray.size, List.size_toArray]; omega) S1.out).mono ?_
  rintro e w2 ⟨rfl, hb⟩
  replace B : Hid (Below w.heap.size w w2) := B.out.trans (hb.mono B.out.size)
  replace X1 : Hid (w2.heap[w.heap.size]? = some (.cells #[.slice a cs0.length cap, .slice b is0.length cap2] 25 (0, 0))) := below_heap hb (lt_of_heap X1.out) X1.out
  replace X2 : Hid (w2.heap[w.heap.size + 1]? = some (.cells #[.string ⟨x.toArray⟩, .string ⟨y.toArray⟩, .slice d xs1.length capd] 30 (0, 0))) := below_heap hb (lt_of_heap X2.out) X2.out
  replace R0 : Hid (WR w2 (.agg #[.slice a cs0.length cap, .slice b is0.length cap2]) cs0 is0) := R0.out.below hb
  replace S1 : Hid (SP w2 (.slice d xs1.length capd) xs1) := S1.out.below hb
  clear hb 
  rw [HQ.out]
  have kX1_0 : w2.cell? ⟨w.heap.size, 0, none⟩ = some (.slice a cs0.length cap) := heap_cell X1.out 0
  have kX1_1 : w2.cell? ⟨w.heap.size, 1, none⟩ = some (.slice b is0.length cap2) := heap_cell X1.out 1
  have lX1 : w.heap.size < w2.heap.size := lt_of_heap X1.out
  have kX2_0 : w2.cell? ⟨w.heap.size + 1, 0, none⟩ = some (.string ⟨x.toArray⟩) := heap_cell X2.out 0
  have kX2_1 : w2.cell? ⟨w.heap.size + 1, 1, none⟩ = some (.string ⟨y.toArray⟩) := heap_cell X2.out 1
  have kX2_2 : w2.cell? ⟨w.heap.size + 1, 2, none⟩ = some (.slice d xs1.length capd) := heap_cell X2.out 2
  have lX2 : w.heap.size + 1 < w2.heap.size := lt_of_heap X2.out
  go_wp2_with fail
  clear kX1_0 kX1_1 lX1 kX2_0 kX2_1 kX2_2 lX2
  refine wp_region_any (by kernel_rfl) ?_
  change wpAny _ _ _ _ _ _ _ (World.drew _)
  have hb : Below w2.heap.size w2 w2.drew := below_drew1 (Below.refl _ _)
  replace B : Hid (Below w.heap.size w w2.drew) := B.out.trans (hb.mono B.out.size)
  replace X1 : Hid (w2.drew.heap[w.heap.size]? = some (.cells #[.slice a cs0.length cap, .slice b is0.length cap2] 25 (0, 0))) := below_heap hb (lt_of_heap X1.out) X1.out
  replace X2 : Hid (w2.drew.heap[w.heap.size + 1]? = some (.cells #[.string ⟨x.toArray⟩, .string ⟨y.toArray⟩, .slice d xs1.length capd] 30 (0, 0))) := below_heap hb (lt_of_heap X2.out) X2.out
  replace R0 : Hid (WR w2.drew (.agg #[.slice a cs0.length cap, .slice b is0.length cap2]) cs0 is0) := R0.out.below hb
  replace S1 : Hid (SP w2.drew (.slice d xs1.length capd) xs1) := S1.out.below hb
  clear hb
  generalize w2.drew = w3 at *
  refine wpAny_of_T (S := fun X => X.cell? ⟨w.heap.size, 0, none⟩ = some (.slice a cs0.length cap) ∧ X.cell? ⟨w.heap.size, 1, none⟩ = some (.slice b is0.length cap2) ∧ X.cell? ⟨w.heap.size + 1, 0, none⟩ = some (.string ⟨x.toArray⟩) ∧ X.cell? ⟨w.heap.size + 1, 1, none⟩ = some (.string ⟨y.toArray⟩) ∧ X.cell? ⟨w.heap.size + 1, 2, none⟩ = some (.slice d xs1.length capd)) (m := 6) _ _ _ _ ?_
  refine wpAnyT_take (i := 0) (v := .agg #[.slice a cs0.length cap, .slice b is0.length cap2]) rfl (by kernel_rfl) (by kernel_rfl) (by kernel_rfl) (by kernel_rfl) (fun _ _ _ h => h) (Or.inl ⟨by kernel_rfl, fun X hS => by obtain ⟨e0, e1, e2, e3, e4⟩ := hS; go_simp⟩) ⟨heap_cell X1.out 0, heap_cell X1.out 1, heap_cell X2.out 0, heap_cell X2.out 1, heap_cell X2.out 2⟩ ?_
  try go_simp
  refine wpAnyT_take (i := 2) (v := .agg #[.string ⟨x.toArray⟩, .string ⟨y.toArray⟩, .slice d xs1.length capd]) rfl (by kernel_rfl) (by kernel_rfl) (by kernel_rfl) (by kernel_rfl) (fun _ _ _ h => h) (Or.inl ⟨by kernel_rfl, fun X hS => by obtain ⟨e0, e1, e2, e3, e4⟩ := hS; go_simp⟩) ⟨heap_cell X1.out 0, heap_cell X1.out 1, heap_cell X2.out 0, heap_cell X2.out 1, heap_cell X2.out 2⟩ ?_
  try go_simp
  refine wpAnyT_one 1 rfl (by kernel_rfl) (fun K hK => ?_)
  go_simp
  refine (toWorld_any _ cs0 is0 w3 hcl hil hnb.out R0.out).mono ?_
  rintro e w4 ⟨p, pi, rfl, hsp, hsi, -, hb⟩
  replace B : Hid (Below w.heap.size w w4) := B.out.trans (hb.mono B.out.size)
  replace X1 : Hid (w4.heap[w.heap.size]? = some (.cells #[.slice a cs0.length cap, .slice b is0.length cap2] 25 (0, 0))) := below_heap hb (lt_of_heap X1.out) X1.out
  replace X2 : Hid (w4.heap[w.heap.size + 1]? = some (.cells #[.string ⟨x.toArray⟩, .string ⟨y.toArray⟩, .slice d xs1.length capd] 30 (0, 0))) := below_heap hb (lt_of_heap X2.out) X2.out
  replace R0 : Hid (WR w4 (.agg #[.slice a cs0.length cap, .slice b is0.length cap2]) cs0 is0) := R0.out.below hb
  replace S1 : Hid (SP w4 (.slice d xs1.length capd) xs1) := S1.out.below hb
  have Pp : Hid (SP w4 (.slice (some ⟨p, 0, none⟩) cs0.length cs0.length) cs0) := hsp
  have Ip : Hid (SI w4 (.slice (some ⟨pi, 0, none⟩) is0.length is0.length) is0) := hsi
  clear hb hsp hsi
  refine hK _ _ (fun _ => ⟨heap_cell X1.out 0, heap_cell X1.out 1, heap_cell X2.out 0, heap_cell X2.out 1, heap_cell X2.out 2⟩) ?_
  clear hK K
  refine wpAnyT_one 3 rfl (by kernel_rfl) (fun K hK => ?_)
  go_simp
  refine (toInstance_any ⟨x.toArray⟩ ⟨y.toArray⟩ _ xs1 w4 hxn2 S1.out).mono ?_
  rintro e w5 ⟨u, rfl, -, -, hsq, hb⟩
  replace B : Hid (Below w.heap.size w w5) := B.out.trans (hb.mono B.out.size)
  replace X1 : Hid (w5.heap[w.heap.size]? = some (.cells #[.slice a cs0.length cap, .slice b is0.length cap2] 25 (0, 0))) := below_heap hb (lt_of_heap X1.out) X1.out
  replace X2 : Hid (w5.heap[w.heap.size + 1]? = some (.cells #[.string ⟨x.toArray⟩, .string ⟨y.toArray⟩, .slice d xs1.length capd] 30 (0, 0))) := below_heap hb (lt_of_heap X2.out) X2.out
  replace R0 : Hid (WR w5 (.agg #[.slice a cs0.length cap, .slice b is0.length cap2]) cs0 is0) := R0.out.below hb
  replace S1 : Hid (SP w5 (.slice d xs1.length capd) xs1) := S1.out.below hb
  replace Pp : Hid (SP w5 (.slice (some ⟨p, 0, none⟩) cs0.length cs0.length) cs0) := Pp.out.below hb
  replace Ip : Hid (SI w5 (.slice (some ⟨pi, 0, none⟩) is0.length is0.length) is0) := Ip.out.below hb
  have Su : Hid (SP w5 (.slice (some ⟨u, 0, none⟩) xs1.length xs1.length) xs1) := hsq
  clear hb hsq
  refine hK _ _ (fun _ => ⟨heap_cell X1.out 0, heap_cell X1.out 1, heap_cell X2.out 0, heap_cell X2.out 1, heap_cell X2.out 2⟩) ?_
  clear hK K
  refine wpAnyT_one 4 rfl (by kernel_rfl) (fun K hK => ?_)
  go_simp
  refine (IV.InstanceValid_spec (some ⟨p, 0, none⟩) (some ⟨u, 0, none⟩) cs0.length (some ⟨pi, 0, none⟩) is0.length is0.length xs1.length cs0 x y xs1 w5 h0.out (Nat.le_refl _) hx1 hy1 HXN.out Pp.out Su.out).mono ?_
  rintro e w6 ⟨rfl, hb⟩
  replace B : Hid (Below w.heap.size w w6) := B.out.trans (hb.mono B.out.size)
  replace X1 : Hid (w6.heap[w.heap.size]? = some (.cells #[.slice a cs0.length cap, .slice b is0.length cap2] 25 (0, 0))) := below_heap hb (lt_of_heap X1.out) X1.out
  replace X2 : Hid (w6.heap[w.heap.size + 1]? = some (.cells #[.string ⟨x.toArray⟩, .string ⟨y.toArray⟩, .slice d xs1.length capd] 30 (0, 0))) := below_heap hb (lt_of_heap X2.out) X2.out
  replace R0 : Hid (WR w6 (.agg #[.slice a cs0.length cap, .slice b is0.length cap2]) cs0 is0) := R0.out.below hb
  replace S1 : Hid (SP w6 (.slice d xs1.length capd) xs1) := S1.out.below hb
  replace Pp : Hid (SP w6 (.slice (some ⟨p, 0, none⟩) cs0.length cs0.length) cs0) := Pp.out.below hb
  replace Ip : Hid (SI w6 (.slice (some ⟨pi, 0, none⟩) is0.length is0.length) is0) := Ip.out.below hb
  replace Su : Hid (SP w6 (.slice (some ⟨u, 0, none⟩) xs1.length xs1.length) xs1) := Su.out.below hb
  clear hb 
  refine hK _ _ (fun _ => ⟨heap_cell X1.out 0, heap_cell X1.out 1, heap_cell X2.out 0, heap_cell X2.out 1, heap_cell X2.out 2⟩) ?_
  clear hK K
  obtain ⟨nv, hnv⟩ : ∃ v, v = IV.ivB cs0 (⟨x.toArray⟩, ⟨y.toArray⟩, xs1) := ⟨_, rfl⟩
  rw [← hnv]
  have HNV := hid hnv
  clear hnv
  refine wpAnyT_take (i := 5) (v := .bool nv) rfl (by kernel_rfl) (by kernel_rfl) (by kernel_rfl) (by kernel_rfl) (fun _ _ _ h => h) (Or.inl ⟨by kernel_rfl, fun X hS => by clear hS; go_simp⟩) ⟨heap_cell X1.out 0, heap_cell X1.out 1, heap_cell X2.out 0, heap_cell X2.out 1, heap_cell X2.out 2⟩ ?_
  try go_simp
  refine wpAnyT_drop _ 6 _ _ _ (by decide) (by kernel_rfl) ?_
  change wpList _ _ _ [] _ _
  clear Pp Ip Su
  have kX1_0 : w6.cell? ⟨w.heap.size, 0, none⟩ = some (.slice a cs0.length cap) := heap_cell X1.out 0
  have kX1_1 : w6.cell? ⟨w.heap.size, 1, none⟩ = some (.slice b is0.length cap2) := heap_cell X1.out 1
  have lX1 : w.heap.size < w6.heap.size := lt_of_heap X1.out
  have kX2_0 : w6.cell? ⟨w.heap.size + 1, 0, none⟩ = some (.string ⟨x.toArray⟩) := heap_cell X2.out 0
  have kX2_1 : w6.cell? ⟨w.heap.size + 1, 1, none⟩ = some (.string ⟨y.toArray⟩) := heap_cell X2.out 1
  have kX2_2 : w6.cell? ⟨w.heap.size + 1, 2, none⟩ = some (.slice d xs1.length capd) := heap_cell X2.out 2
  have lX2 : w.heap.size + 1 < w6.heap.size := lt_of_heap X2.out
  go_wp2_with fail
  clear kX1_0 kX1_1 lX1 kX2_0 kX2_1 kX2_2 lX2
  refine (toWorld_any _ cs0 is0 w6 hcl hil hnb.out R0.out).mono ?_
  rintro e w7 ⟨q, qi, rfl, hsp, hsi, -, hb⟩
  replace B : Hid (Below w.heap.size w w7) := B.out.trans (hb.mono B.out.size)
  replace X1 : Hid (w7.heap[w.heap.size]? = some (.cells #[.slice a cs0.length cap, .slice b is0.length cap2] 25 (0, 0))) := below_heap hb (lt_of_heap X1.out) X1.out
  replace X2 : Hid (w7.heap[w.heap.size + 1]? = some (.cells #[.string ⟨x.toArray⟩, .string ⟨y.toArray⟩, .slice d xs1.length capd] 30 (0, 0))) := below_heap hb (lt_of_heap X2.out) X2.out
  replace R0 : Hid (WR w7 (.agg #[.slice a cs0.length cap, .slice b is0.length cap2]) cs0 is0) := R0.out.below hb
  replace S1 : Hid (SP w7 (.slice d xs1.length capd) xs1) := S1.out.below hb
  have Pq : Hid (SP w7 (.slice (some ⟨q, 0, none⟩) cs0.length cs0.length) cs0) := hsp
  have Iq : Hid (SI w7 (.slice (some ⟨qi, 0, none⟩) is0.length is0.length) is0) := hsi
  clear hb hsp hsi
  have kX1_0 : w7.cell? ⟨w.heap.size, 0, none⟩ = some (.slice a cs0.length cap) := heap_cell X1.out 0
  have kX1_1 : w7.cell? ⟨w.heap.size, 1, none⟩ = some (.slice b is0.length cap2) := heap_cell X1.out 1
  have lX1 : w.heap.size < w7.heap.size := lt_of_heap X1.out
  have kX2_0 : w7.cell? ⟨w.heap.size + 1, 0, none⟩ = some (.string ⟨x.toArray⟩) := heap_cell X2.out 0
  have kX2_1 : w7.cell? ⟨w.heap.size + 1, 1, none⟩ = some (.string ⟨y.toArray⟩) := heap_cell X2.out 1
  have kX2_2 : w7.cell? ⟨w.heap.size + 1, 2, none⟩ = some (.slice d xs1.length capd) := heap_cell X2.out 2
  have lX2 : w.heap.size + 1 < w7.heap.size := lt_of_heap X2.out
  go_wp2_with fail
  clear kX1_0 kX1_1 lX1 kX2_0 kX2_1 kX2_2 lX2
  have hb : Below w7.heap.size w7 (w7.alloc (.cells #[.slice (some ⟨q, 0, none⟩) cs0.length cs0.length, .slice (some ⟨qi, 0, none⟩) is0.length is0.length] 37)) := (Below.refl _ _).alloc (Nat.le_refl _) _
  replace B : Hid (Below w.heap.size w (w7.alloc (.cells #[.slice (some ⟨q, 0, none⟩) cs0.length cs0.length, .slice (some ⟨qi, 0, none⟩) is0.length is0.length] 37))) := B.out.trans (hb.mono B.out.size)
  replace X1 : Hid ((w7.alloc (.cells #[.slice (some ⟨q, 0, none⟩) cs0.length cs0.length, .slice (some ⟨qi, 0, none⟩) is0.length is0.length] 37)).heap[w.heap.size]? = some (.cells #[.slice a cs0.length cap, .slice b is0.length cap2] 25 (0, 0))) := below_heap hb (lt_of_heap X1.out) X1.out
  replace X2 : Hid ((w7.alloc (.cells #[.slice (some ⟨q, 0, none⟩) cs0.length cs0.length, .slice (some ⟨qi, 0, none⟩) is0.length is0.length] 37)).heap[w.heap.size + 1]? = some (.cells #[.string ⟨x.toArray⟩, .string ⟨y.toArray⟩, .slice d xs1.length capd] 30 (0, 0))) := below_heap hb (lt_of_heap X2.out) X2.out
  replace R0 : Hid (WR (w7.alloc (.cells #[.slice (some ⟨q, 0, none⟩) cs0.length cs0.length, .slice (some ⟨qi, 0, none⟩) is0.length is0.length] 37)) (.agg #[.slice a cs0.length cap, .slice b is0.length cap2]) cs0 is0) := R0.out.below hb
  replace S1 : Hid (SP (w7.alloc (.cells #[.slice (some ⟨q, 0, none⟩) cs0.length cs0.length, .slice (some ⟨qi, 0, none⟩) is0.length is0.length] 37)) (.slice d xs1.length capd) xs1) := S1.out.below hb
  replace Pq : Hid (SP (w7.alloc (.cells #[.slice (some ⟨q, 0, none⟩) cs0.length cs0.length, .slice (some ⟨qi, 0, none⟩) is0.length is0.length] 37)) (.slice (some ⟨q, 0, none⟩) cs0.length cs0.length) cs0) := Pq.out.below hb
  replace Iq : Hid (SI (w7.alloc (.cells #[.slice (some ⟨q, 0, none⟩) cs0.length cs0.length, .slice (some ⟨qi, 0, none⟩) is0.length is0.length] 37)) (.slice (some ⟨qi, 0, none⟩) is0.length is0.length) is0) := Iq.out.below hb
  have XQ : Hid ((w7.alloc (.cells #[.slice (some ⟨q, 0, none⟩) cs0.length cs0.length, .slice (some ⟨qi, 0, none⟩) is0.length is0.length] 37)).heap[w7.heap.size]? = some (.cells #[.slice (some ⟨q, 0, none⟩) cs0.length cs0.length, .slice (some ⟨qi, 0, none⟩) is0.length is0.length] 37 (0, 0))) := heap_alloc_new _ _
  clear hb
  generalize w7.alloc (.cells #[.slice (some ⟨q, 0, none⟩) cs0.length cs0.length, .slice (some ⟨qi, 0, none⟩) is0.length is0.length] 37) = w8 at *
  generalize w7.heap.size = b8 at *
  refine (toInstance_any ⟨x.toArray⟩ ⟨y.toArray⟩ _ xs1 w8 hxn2 S1.out).mono ?_
  rintro e w9 ⟨z, rfl, -, -, hsq, hb⟩
  replace B : Hid (Below w.heap.size w w9) := B.out.trans (hb.mono B.out.size)
  replace X1 : Hid (w9.heap[w.heap.size]? = some (.cells #[.slice a cs0.length cap, .slice b is0.length cap2] 25 (0, 0))) := below_heap hb (lt_of_heap X1.out) X1.out
  replace X2 : Hid (w9.heap[w.heap.size + 1]? = some (.cells #[.string ⟨x.toArray⟩, .string ⟨y.toArray⟩, .slice d xs1.length capd] 30 (0, 0))) := below_heap hb (lt_of_heap X2.out) X2.out
  replace R0 : Hid (WR w9 (.agg #[.slice a cs0.length cap, .slice b is0.length cap2]) cs0 is0) := R0.out.below hb
  replace S1 : Hid (SP w9 (.slice d xs1.length capd) xs1) := S1.out.below hb
  replace Pq : Hid (SP w9 (.slice (some ⟨q, 0, none⟩) cs0.length cs0.length) cs0) := Pq.out.below hb
  replace Iq : Hid (SI w9 (.slice (some ⟨qi, 0, none⟩) is0.length is0.length) is0) := Iq.out.below hb
  replace XQ : Hid (w9.heap[b8]? = some (.cells #[.slice (some ⟨q, 0, none⟩) cs0.length cs0.length, .slice (some ⟨qi, 0, none⟩) is0.length is0.length] 37 (0, 0))) := below_heap hb (lt_of_heap XQ.out) XQ.out
  have Sz : Hid (SP w9 (.slice (some ⟨z, 0, none⟩) xs1.length xs1.length) xs1) := hsq
  clear hb hsq
  have kX1_0 : w9.cell? ⟨w.heap.size, 0, none⟩ = some (.slice a cs0.length cap) := heap_cell X1.out 0
  have kX1_1 : w9.cell? ⟨w.heap.size, 1, none⟩ = some (.slice b is0.length cap2) := heap_cell X1.out 1
  have lX1 : w.heap.size < w9.heap.size := lt_of_heap X1.out
  have kX2_0 : w9.cell? ⟨w.heap.size + 1, 0, none⟩ = some (.string ⟨x.toArray⟩) := heap_cell X2.out 0
  have kX2_1 : w9.cell? ⟨w.heap.size + 1, 1, none⟩ = some (.string ⟨y.toArray⟩) := heap_cell X2.out 1
  have kX2_2 : w9.cell? ⟨w.heap.size + 1, 2, none⟩ = some (.slice d xs1.length capd) := heap_cell X2.out 2
  have lX2 : w.heap.size + 1 < w9.heap.size := lt_of_heap X2.out
  have kXQ_0 : w9.cell? ⟨b8, 0, none⟩ = some (.slice (some ⟨q, 0, none⟩) cs0.length cs0.length) := heap_cell XQ.out 0
  have kXQ_1 : w9.cell? ⟨b8, 1, none⟩ = some (.slice (some ⟨qi, 0, none⟩) is0.length is0.length) := heap_cell XQ.out 1
  have lXQ : b8 < w9.heap.size := lt_of_heap XQ.out
  go_wp2_with fail
  clear kX1_0 kX1_1 lX1 kX2_0 kX2_1 kX2_2 lX2 kXQ_0 kXQ_1 lXQ
  have hb : Below w9.heap.size w9 (w9.alloc (.cells #[.string ⟨x.toArray⟩, .string ⟨y.toArray⟩, .slice (some ⟨z, 0, none⟩) xs1.length xs1.length] 42)) := (Below.refl _ _).alloc (Nat.le_refl _) _
  replace B : Hid (Below w.heap.size w (w9.alloc (.cells #[.string ⟨x.toArray⟩, .string ⟨y.toArray⟩, .slice (some ⟨z, 0, none⟩) xs1.length xs1.length] 42))) := B.out.trans (hb.mono B.out.size)
  replace X1 : Hid ((w9.alloc (.cells #[.string ⟨x.toArray⟩, .string ⟨y.toArray⟩, .slice (some ⟨z, 0, none⟩) xs1.length xs1.length] 42)).heap[w.heap.size]? = some (.cells #[.slice a cs0.length cap, .slice b is0.length cap2] 25 (0, 0))) := below_heap hb (lt_of_heap X1.out) X1.out
  replace X2 : Hid ((w9.alloc (.cells #[.string ⟨x.toArray⟩, .string ⟨y.toArray⟩, .slice (some ⟨z, 0, none⟩) xs1.length xs1.length] 42)).heap[w.heap.size + 1]? = some (.cells #[.string ⟨x.toArray⟩, .string ⟨y.toArray⟩, .slice d xs1.length capd] 30 (0, 0))) := below_heap hb (lt_of_heap X2.out) X2.out
  replace R0 : Hid (WR (w9.alloc (.cells #[.string ⟨x.toArray⟩, .string ⟨y.toArray⟩, .slice (some ⟨z, 0, none⟩) xs1.length xs1.length] 42)) (.agg #[.slice a cs0.length cap, .slice b is0.length cap2]) cs0 is0) := R0.out.below hb
  replace S1 : Hid (SP (w9.alloc (.cells #[.string ⟨x.toArray⟩, .string ⟨y.toArray⟩, .slice (some ⟨z, 0, none⟩) xs1.length xs1.length] 42)) (.slice d xs1.length capd) xs1) := S1.out.below hb
  replace Pq : Hid (SP (w9.alloc (.cells #[.string ⟨x.toArray⟩, .string ⟨y.toArray⟩, .slice (some ⟨z, 0, none⟩) xs1.length xs1.length] 42)) (.slice (some ⟨q, 0, none⟩) cs0.length cs0.length) cs0) := Pq.out.below hb
  replace Iq : Hid (SI (w9.alloc (.cells #[.string ⟨x.toArray⟩, .string ⟨y.toArray⟩, .slice (some ⟨z, 0, none⟩) xs1.length xs1.length] 42)) (.slice (some ⟨qi, 0, none⟩) is0.length is0.length) is0) := Iq.out.below hb
  replace XQ : Hid ((w9.alloc (.cells #[.string ⟨x.toArray⟩, .string ⟨y.toArray⟩, .slice (some ⟨z, 0, none⟩) xs1.length xs1.length] 42)).heap[b8]? = some (.cells #[.slice (some ⟨q, 0, none⟩) cs0.length cs0.length, .slice (some ⟨qi, 0, none⟩) is0.length is0.length] 37 (0, 0))) := below_heap hb (lt_of_heap XQ.out) XQ.out
  replace Sz : Hid (SP (w9.alloc (.cells #[.string ⟨x.toArray⟩, .string ⟨y.toArray⟩, .slice (some ⟨z, 0, none⟩) xs1.length xs1.length] 42)) (.slice (some ⟨z, 0, none⟩) xs1.length xs1.length) xs1) := Sz.out.below hb
  have XZ : Hid ((w9.alloc (.cells #[.string ⟨x.toArray⟩, .string ⟨y.toArray⟩, .slice (some ⟨z, 0, none⟩) xs1.length xs1.length] 42)).heap[w9.heap.size]? = some (.cells #[.string ⟨x.toArray⟩, .string ⟨y.toArray⟩, .slice (some ⟨z, 0, none⟩) xs1.length xs1.length] 42 (0, 0))) := heap_alloc_new _ _
  clear hb
  generalize w9.alloc (.cells #[.string ⟨x.toArray⟩, .string ⟨y.toArray⟩, .slice (some ⟨z, 0, none⟩) xs1.length xs1.length] 42) = w10 at *
  generalize w9.heap.size = b10 at *
  refine (IV.InstanceValid_impl (some ⟨q, 0, none⟩) (some ⟨z, 0, none⟩) cs0.length (some ⟨qi, 0, none⟩) is0.length is0.length xs1.length cs0 x y xs1 w10 h0.out (Nat.le_refl _) hx1 hy1 HXN.out Pq.out Sz.out).mono ?_
  rintro e w11 ⟨rfl, hb⟩
  replace B : Hid (Below w.heap.size w w11) := B.out.trans (hb.mono B.out.size)
  replace X1 : Hid (w11.heap[w.heap.size]? = some (.cells #[.slice a cs0.length cap, .slice b is0.length cap2] 25 (0, 0))) := below_heap hb (lt_of_heap X1.out) X1.out
  replace X2 : Hid (w11.heap[w.heap.size + 1]? = some (.cells #[.string ⟨x.toArray⟩, .string ⟨y.toArray⟩, .slice d xs1.length capd] 30 (0, 0))) := below_heap hb (lt_of_heap X2.out) X2.out
  replace R0 : Hid (WR w11 (.agg #[.slice a cs0.length cap, .slice b is0.length cap2]) cs0 is0) := R0.out.below hb
  replace S1 : Hid (SP w11 (.slice d xs1.length capd) xs1) := S1.out.below hb
  replace Pq : Hid (SP w11 (.slice (some ⟨q, 0, none⟩) cs0.length cs0.length) cs0) := Pq.out.below hb
  replace Iq : Hid (SI w11 (.slice (some ⟨qi, 0, none⟩) is0.length is0.length) is0) := Iq.out.below hb
  replace XQ : Hid (w11.heap[b8]? = some (.cells #[.slice (some ⟨q, 0, none⟩) cs0.length cs0.length, .slice (some ⟨qi, 0, none⟩) is0.length is0.length] 37 (0, 0))) := below_heap hb (lt_of_heap XQ.out) XQ.out
  replace Sz : Hid (SP w11 (.slice (some ⟨z, 0, none⟩) xs1.length xs1.length) xs1) := Sz.out.below hb
  replace XZ : Hid (w11.heap[b10]? = some (.cells #[.string ⟨x.toArray⟩, .string ⟨y.toArray⟩, .slice (some ⟨z, 0, none⟩) xs1.length xs1.length] 42 (0, 0))) := below_heap hb (lt_of_heap XZ.out) XZ.out
  clear hb 
  rw [← HNV.out]
  have kX1_0 : w11.cell? ⟨w.heap.size, 0, none⟩ = some (.slice a cs0.length cap) := heap_cell X1.out 0
  have kX1_1 : w11.cell? ⟨w.heap.size, 1, none⟩ = some (.slice b is0.length cap2) := heap_cell X1.out 1
  have lX1 : w.heap.size < w11.heap.size := lt_of_heap X1.out
  have kX2_0 : w11.cell? ⟨w.heap.size + 1, 0, none⟩ = some (.string ⟨x.toArray⟩) := heap_cell X2.out 0
  have kX2_1 : w11.cell? ⟨w.heap.size + 1, 1, none⟩ = some (.string ⟨y.toArray⟩) := heap_cell X2.out 1
  have kX2_2 : w11.cell? ⟨w.heap.size + 1, 2, none⟩ = some (.slice d xs1.length capd) := heap_cell X2.out 2
  have lX2 : w.heap.size + 1 < w11.heap.size := lt_of_heap X2.out
  have kXQ_0 : w11.cell? ⟨b8, 0, none⟩ = some (.slice (some ⟨q, 0, none⟩) cs0.length cs0.length) := heap_cell XQ.out 0
  have kXQ_1 : w11.cell? ⟨b8, 1, none⟩ = some (.slice (some ⟨qi, 0, none⟩) is0.length is0.length) := heap_cell XQ.out 1
  have lXQ : b8 < w11.heap.size := lt_of_heap XQ.out
  have kXZ_0 : w11.cell? ⟨b10, 0, none⟩ = some (.string ⟨x.toArray⟩) := heap_cell XZ.out 0
  have kXZ_1 : w11.cell? ⟨b10, 1, none⟩ = some (.string ⟨y.toArray⟩) := heap_cell XZ.out 1
  have kXZ_2 : w11.cell? ⟨b10, 2, none⟩ = some (.slice (some ⟨z, 0, none⟩) xs1.length xs1.length) := heap_cell XZ.out 2
  have lXZ : b10 < w11.heap.size := lt_of_heap XZ.out
  go_wp2_with fail
  clear kX1_0 kX1_1 lX1 kX2_0 kX2_1 kX2_2 lX2 kXQ_0 kXQ_1 lXQ kXZ_0 kXZ_1 kXZ_2 lXZ
  refine wp_region_any (by kernel_rfl) ?_
  change wpAny _ _ _ _ _ _ _ (World.drew _)
  have hb : Below w11.heap.size w11 w11.drew := below_drew1 (Below.refl _ _)
  replace B : Hid (Below w.heap.size w w11.drew) := B.out.trans (hb.mono B.out.size)
  replace X1 : Hid (w11.drew.heap[w.heap.size]? = some (.cells #[.slice a cs0.length cap, .slice b is0.length cap2] 25 (0, 0))) := below_heap hb (lt_of_heap X1.out) X1.out
  replace X2 : Hid (w11.drew.heap[w.heap.size + 1]? = some (.cells #[.string ⟨x.toArray⟩, .string ⟨y.toArray⟩, .slice d xs1.length capd] 30 (0, 0))) := below_heap hb (lt_of_heap X2.out) X2.out
  replace R0 : Hid (WR w11.drew (.agg #[.slice a cs0.length cap, .slice b is0.length cap2]) cs0 is0) := R0.out.below hb
  replace S1 : Hid (SP w11.drew (.slice d xs1.length capd) xs1) := S1.out.below hb
  replace Pq : Hid (SP w11.drew (.slice (some ⟨q, 0, none⟩) cs0.length cs0.length) cs0) := Pq.out.below hb
  replace Iq : Hid (SI w11.drew (.slice (some ⟨qi, 0, none⟩) is0.length is0.length) is0) := Iq.out.below hb
  replace XQ : Hid (w11.drew.heap[b8]? = some (.cells #[.slice (some ⟨q, 0, none⟩) cs0.length cs0.length, .slice (some ⟨qi, 0, none⟩) is0.length is0.length] 37 (0, 0))) := below_heap hb (lt_of_heap XQ.out) XQ.out
  replace Sz : Hid (SP w11.drew (.slice (some ⟨z, 0, none⟩) xs1.length xs1.length) xs1) := Sz.out.below hb
  replace XZ : Hid (w11.drew.heap[b10]? = some (.cells #[.string ⟨x.toArray⟩, .string ⟨y.toArray⟩, .slice (some ⟨z, 0, none⟩) xs1.length xs1.length] 42 (0, 0))) := below_heap hb (lt_of_heap XZ.out) XZ.out
  clear hb
  generalize w11.drew = w12 at *
  refine wpAny_of_T (S := fun X => X.cell? ⟨w.heap.size, 0, none⟩ = some (.slice a cs0.length cap) ∧ X.cell? ⟨w.heap.size, 1, none⟩ = some (.slice b is0.length cap2) ∧ X.cell? ⟨w.heap.size + 1, 0, none⟩ = some (.string ⟨x.toArray⟩) ∧ X.cell? ⟨w.heap.size + 1, 1, none⟩ = some (.string ⟨y.toArray⟩) ∧ X.cell? ⟨w.heap.size + 1, 2, none⟩ = some (.slice d xs1.length capd) ∧ X.cell? ⟨b8, 0, none⟩ = some (.slice (some ⟨q, 0, none⟩) cs0.length cs0.length) ∧ X.cell? ⟨b8, 1, none⟩ = some (.slice (some ⟨qi, 0, none⟩) is0.length is0.length) ∧ X.cell? ⟨b10, 0, none⟩ = some (.string ⟨x.toArray⟩) ∧ X.cell? ⟨b10, 1, none⟩ = some (.string ⟨y.toArray⟩) ∧ X.cell? ⟨b10, 2, none⟩ = some (.slice (some ⟨z, 0, none⟩) xs1.length xs1.length)) (m := 5) _ _ _ _ ?_
  refine wpAnyT_take (i := 0) (v := .agg #[.slice (some ⟨q, 0, none⟩) cs0.length cs0.length, .slice (some ⟨qi, 0, none⟩) is0.length is0.length]) rfl (by kernel_rfl) (by kernel_rfl) (by kernel_rfl) (by kernel_rfl) (fun _ _ _ h => h) (Or.inl ⟨by kernel_rfl, fun X hS => by obtain ⟨e0, e1, e2, e3, e4, e5, e6, e7, e8, e9⟩ := hS; go_simp⟩) ⟨heap_cell X1.out 0, heap_cell X1.out 1, heap_cell X2.out 0, heap_cell X2.out 1, heap_cell X2.out 2, heap_cell XQ.out 0, heap_cell XQ.out 1, heap_cell XZ.out 0, heap_cell XZ.out 1, heap_cell XZ.out 2⟩ ?_
  try go_simp
  refine wpAnyT_take (i := 1) (v := .agg #[.slice a cs0.length cap, .slice b is0.length cap2]) rfl (by kernel_rfl) (by kernel_rfl) (by kernel_rfl) (by kernel_rfl) (fun _ _ _ h => h) (Or.inl ⟨by kernel_rfl, fun X hS => by obtain ⟨e0, e1, e2, e3, e4, e5, e6, e7, e8, e9⟩ := hS; go_simp⟩) ⟨heap_cell X1.out 0, heap_cell X1.out 1, heap_cell X2.out 0, heap_cell X2.out 1, heap_cell X2.out 2, heap_cell XQ.out 0, heap_cell XQ.out 1, heap_cell XZ.out 0, heap_cell XZ.out 1, heap_cell XZ.out 2⟩ ?_
  try go_simp
  refine wpAnyT_one 2 rfl (by kernel_rfl) (fun K hK => ?_)
  go_simp
  refine (toWorld_any _ cs0 is0 w12 hcl hil hnb.out R0.out).mono ?_
  rintro e w13 ⟨r, ri, rfl, hsp, hsi, -, hb⟩
  replace B : Hid (Below w.heap.size w w13) := B.out.trans (hb.mono B.out.size)
  replace X1 : Hid (w13.heap[w.heap.size]? = some (.cells #[.slice a cs0.length cap, .slice b is0.length cap2] 25 (0, 0))) := below_heap hb (lt_of_heap X1.out) X1.out
  replace X2 : Hid (w13.heap[w.heap.size + 1]? = some (.cells #[.string ⟨x.toArray⟩, .string ⟨y.toArray⟩, .slice d xs1.length capd] 30 (0, 0))) := below_heap hb (lt_of_heap X2.out) X2.out
  replace R0 : Hid (WR w13 (.agg #[.slice a cs0.length cap, .slice b is0.length cap2]) cs0 is0) := R0.out.below hb
  replace S1 : Hid (SP w13 (.slice d xs1.length capd) xs1) := S1.out.below hb
  replace Pq : Hid (SP w13 (.slice (some ⟨q, 0, none⟩) cs0.length cs0.length) cs0) := Pq.out.below hb
  replace Iq : Hid (SI w13 (.slice (some ⟨qi, 0, none⟩) is0.length is0.length) is0) := Iq.out.below hb
  replace XQ : Hid (w13.heap[b8]? = some (.cells #[.slice (some ⟨q, 0, none⟩) cs0.length cs0.length, .slice (some ⟨qi, 0, none⟩) is0.length is0.length] 37 (0, 0))) := below_heap hb (lt_of_heap XQ.out) XQ.out
  replace Sz : Hid (SP w13 (.slice (some ⟨z, 0, none⟩) xs1.length xs1.length) xs1) := Sz.out.below hb
  replace XZ : Hid (w13.heap[b10]? = some (.cells #[.string ⟨x.toArray⟩, .string ⟨y.toArray⟩, .slice (some ⟨z, 0, none⟩) xs1.length xs1.length] 42 (0, 0))) := below_heap hb (lt_of_heap XZ.out) XZ.out
  have Pr : Hid (SP w13 (.slice (some ⟨r, 0, none⟩) cs0.length cs0.length) cs0) := hsp
  have Ir : Hid (SI w13 (.slice (some ⟨ri, 0, none⟩) is0.length is0.length) is0) := hsi
  clear hb hsp hsi
  refine hK _ _ (fun _ => ⟨heap_cell X1.out 0, heap_cell X1.out 1, heap_cell X2.out 0, heap_cell X2.out 1, heap_cell X2.out 2, heap_cell XQ.out 0, heap_cell XQ.out 1, heap_cell XZ.out 0, heap_cell XZ.out 1, heap_cell XZ.out 2⟩) ?_
  clear hK K
  refine wpAnyT_one 3 rfl (by kernel_rfl) (fun K hK => ?_)
  go_simp
  refine (eqWorld_same _ _ cs0 is0 w13 ⟨_, _, rfl, Pq.out, Iq.out⟩ ⟨_, _, rfl, Pr.out, Ir.out⟩).mono ?_
  rintro e w14 ⟨rfl, hb⟩
  replace B : Hid (Below w.heap.size w w14) := B.out.trans (hb.mono B.out.size)
  replace X1 : Hid (w14.heap[w.heap.size]? = some (.cells #[.slice a cs0.length cap, .slice b is0.length cap2] 25 (0, 0))) := below_heap hb (lt_of_heap X1.out) X1.out
  replace X2 : Hid (w14.heap[w.heap.size + 1]? = some (.cells #[.string ⟨x.toArray⟩, .string ⟨y.toArray⟩, .slice d xs1.length capd] 30 (0, 0))) := below_heap hb (lt_of_heap X2.out) X2.out
  replace R0 : Hid (WR w14 (.agg #[.slice a cs0.length cap, .slice b is0.length cap2]) cs0 is0) := R0.out.below hb
  replace S1 : Hid (SP w14 (.slice d xs1.length capd) xs1) := S1.out.below hb
  replace Pq : Hid (SP w14 (.slice (some ⟨q, 0, none⟩) cs0.length cs0.length) cs0) := Pq.out.below hb
  replace Iq : Hid (SI w14 (.slice (some ⟨qi, 0, none⟩) is0.length is0.length) is0) := Iq.out.below hb
  replace XQ : Hid (w14.heap[b8]? = some (.cells #[.slice (some ⟨q, 0, none⟩) cs0.length cs0.length, .slice (some ⟨qi, 0, none⟩) is0.length is0.length] 37 (0, 0))) := below_heap hb (lt_of_heap XQ.out) XQ.out
  replace Sz : Hid (SP w14 (.slice (some ⟨z, 0, none⟩) xs1.length xs1.length) xs1) := Sz.out.below hb
  replace XZ : Hid (w14.heap[b10]? = some (.cells #[.string ⟨x.toArray⟩, .string ⟨y.toArray⟩, .slice (some ⟨z, 0, none⟩) xs1.length xs1.length] 42 (0, 0))) := below_heap hb (lt_of_heap XZ.out) XZ.out
  replace Pr : Hid (SP w14 (.slice (some ⟨r, 0, none⟩) cs0.length cs0.length) cs0) := Pr.out.below hb
  replace Ir : Hid (SI w14 (.slice (some ⟨ri, 0, none⟩) is0.length is0.length) is0) := Ir.out.below hb
  clear hb 
  refine hK _ _ (fun _ => ⟨heap_cell X1.out 0, heap_cell X1.out 1, heap_cell X2.out 0, heap_cell X2.out 1, heap_cell X2.out 2, heap_cell XQ.out 0, heap_cell XQ.out 1, heap_cell XZ.out 0, heap_cell XZ.out 1, heap_cell XZ.out 2⟩) ?_
  clear hK K
  refine wpAnyT_take (i := 4) (v := .bool false) rfl (by kernel_rfl) (by kernel_rfl) (by kernel_rfl) (by kernel_rfl) (fun _ _ _ h => h) (Or.inl ⟨by kernel_rfl, fun X hS => by clear hS; go_simp⟩) ⟨heap_cell X1.out 0, heap_cell X1.out 1, heap_cell X2.out 0, heap_cell X2.out 1, heap_cell X2.out 2, heap_cell XQ.out 0, heap_cell XQ.out 1, heap_cell XZ.out 0, heap_cell XZ.out 1, heap_cell XZ.out 2⟩ ?_
  try go_simp
  refine wpAnyT_drop _ 5 _ _ _ (by decide) (by kernel_rfl) ?_
  change wpList _ _ _ [] _ _
  go_wp2
  have kX1_0 : w14.cell? ⟨w.heap.size, 0, none⟩ = some (.slice a cs0.length cap) := heap_cell X1.out 0
  have kX1_1 : w14.cell? ⟨w.heap.size, 1, none⟩ = some (.slice b is0.length cap2) := heap_cell X1.out 1
  have lX1 : w.heap.size < w14.heap.size := lt_of_heap X1.out
  have kX2_0 : w14.cell? ⟨w.heap.size + 1, 0, none⟩ = some (.string ⟨x.toArray⟩) := heap_cell X2.out 0
  have kX2_1 : w14.cell? ⟨w.heap.size + 1, 1, none⟩ = some (.string ⟨y.toArray⟩) := heap_cell X2.out 1
  have kX2_2 : w14.cell? ⟨w.heap.size + 1, 2, none⟩ = some (.slice d xs1.length capd) := heap_cell X2.out 2
  have lX2 : w.heap.size + 1 < w14.heap.size := lt_of_heap X2.out
  have kXQ_0 : w14.cell? ⟨b8, 0, none⟩ = some (.slice (some ⟨q, 0, none⟩) cs0.length cs0.length) := heap_cell XQ.out 0
  have kXQ_1 : w14.cell? ⟨b8, 1, none⟩ = some (.slice (some ⟨qi, 0, none⟩) is0.length is0.length) := heap_cell XQ.out 1
  have lXQ : b8 < w14.heap.size := lt_of_heap XQ.out
  have kXZ_0 : w14.cell? ⟨b10, 0, none⟩ = some (.string ⟨x.toArray⟩) := heap_cell XZ.out 0
  have kXZ_1 : w14.cell? ⟨b10, 1, none⟩ = some (.string ⟨y.toArray⟩) := heap_cell XZ.out 1
  have kXZ_2 : w14.cell? ⟨b10, 2, none⟩ = some (.slice (some ⟨z, 0, none⟩) xs1.length xs1.length) := heap_cell XZ.out 2
  have lXZ : b10 < w14.heap.size := lt_of_heap XZ.out
  go_wp2_with fail
  clear kX1_0 kX1_1 lX1 kX2_0 kX2_1 kX2_2 lX2 kXQ_0 kXQ_1 lXQ kXZ_0 kXZ_1 kXZ_2 lXZ
  refine wp_region_any (by kernel_rfl) ?_
  change wpAny _ _ _ _ _ _ _ (World.drew _)
  have hb : Below w14.heap.size w14 w14.drew := below_drew1 (Below.refl _ _)
  replace B : Hid (Below w.heap.size w w14.drew) := B.out.trans (hb.mono B.out.size)
  replace X1 : Hid (w14.drew.heap[w.heap.size]? = some (.cells #[.slice a cs0.length cap, .slice b is0.length cap2] 25 (0, 0))) := below_heap hb (lt_of_heap X1.out) X1.out
  replace X2 : Hid (w14.drew.heap[w.heap.size + 1]? = some (.cells #[.string ⟨x.toArray⟩, .string ⟨y.toArray⟩, .slice d xs1.length capd] 30 (0, 0))) := below_heap hb (lt_of_heap X2.out) X2.out
  replace R0 : Hid (WR w14.drew (.agg #[.slice a cs0.length cap, .slice b is0.length cap2]) cs0 is0) := R0.out.below hb
  replace S1 : Hid (SP w14.drew (.slice d xs1.length capd) xs1) := S1.out.below hb
  replace Pq : Hid (SP w14.drew (.slice (some ⟨q, 0, none⟩) cs0.length cs0.length) cs0) := Pq.out.below hb
  replace Iq : Hid (SI w14.drew (.slice (some ⟨qi, 0, none⟩) is0.length is0.length) is0) := Iq.out.below hb
  replace XQ : Hid (w14.drew.heap[b8]? = some (.cells #[.slice (some ⟨q, 0, none⟩) cs0.length cs0.length, .slice (some ⟨qi, 0, none⟩) is0.length is0.length] 37 (0, 0))) := below_heap hb (lt_of_heap XQ.out) XQ.out
  replace Sz : Hid (SP w14.drew (.slice (some ⟨z, 0, none⟩) xs1.length xs1.length) xs1) := Sz.out.below hb
  replace XZ : Hid (w14.drew.heap[b10]? = some (.cells #[.string ⟨x.toArray⟩, .string ⟨y.toArray⟩, .slice (some ⟨z, 0, none⟩) xs1.length xs1.length] 42 (0, 0))) := below_heap hb (lt_of_heap XZ.out) XZ.out
  replace Pr : Hid (SP w14.drew (.slice (some ⟨r, 0, none⟩) cs0.length cs0.length) cs0) := Pr.out.below hb
  replace Ir : Hid (SI w14.drew (.slice (some ⟨ri, 0, none⟩) is0.length is0.length) is0) := Ir.out.below hb
  clear hb
  generalize w14.drew = w15 at *
  refine wpAny_of_T (S := fun X => X.cell? ⟨w.heap.size, 0, none⟩ = some (.slice a cs0.length cap) ∧ X.cell? ⟨w.heap.size, 1, none⟩ = some (.slice b is0.length cap2) ∧ X.cell? ⟨w.heap.size + 1, 0, none⟩ = some (.string ⟨x.toArray⟩) ∧ X.cell? ⟨w.heap.size + 1, 1, none⟩ = some (.string ⟨y.toArray⟩) ∧ X.cell? ⟨w.heap.size + 1, 2, none⟩ = some (.slice d xs1.length capd) ∧ X.cell? ⟨b8, 0, none⟩ = some (.slice (some ⟨q, 0, none⟩) cs0.length cs0.length) ∧ X.cell? ⟨b8, 1, none⟩ = some (.slice (some ⟨qi, 0, none⟩) is0.length is0.length) ∧ X.cell? ⟨b10, 0, none⟩ = some (.string ⟨x.toArray⟩) ∧ X.cell? ⟨b10, 1, none⟩ = some (.string ⟨y.toArray⟩) ∧ X.cell? ⟨b10, 2, none⟩ = some (.slice (some ⟨z, 0, none⟩) xs1.length xs1.length)) (m := 5) _ _ _ _ ?_
  refine wpAnyT_take (i := 0) (v := .agg #[.string ⟨x.toArray⟩, .string ⟨y.toArray⟩, .slice (some ⟨z, 0, none⟩) xs1.length xs1.length]) rfl (by kernel_rfl) (by kernel_rfl) (by kernel_rfl) (by kernel_rfl) (fun _ _ _ h => h) (Or.inl ⟨by kernel_rfl, fun X hS => by obtain ⟨e0, e1, e2, e3, e4, e5, e6, e7, e8, e9⟩ := hS; go_simp⟩) ⟨heap_cell X1.out 0, heap_cell X1.out 1, heap_cell X2.out 0, heap_cell X2.out 1, heap_cell X2.out 2, heap_cell XQ.out 0, heap_cell XQ.out 1, heap_cell XZ.out 0, heap_cell XZ.out 1, heap_cell XZ.out 2⟩ ?_
  try go_simp
  refine wpAnyT_take (i := 1) (v := .agg #[.string ⟨x.toArray⟩, .string ⟨y.toArray⟩, .slice d xs1.length capd]) rfl (by kernel_rfl) (by kernel_rfl) (by kernel_rfl) (by kernel_rfl) (fun _ _ _ h => h) (Or.inl ⟨by kernel_rfl, fun X hS => by obtain ⟨e0, e1, e2, e3, e4, e5, e6, e7, e8, e9⟩ := hS; go_simp⟩) ⟨heap_cell X1.out 0, heap_cell X1.out 1, heap_cell X2.out 0, heap_cell X2.out 1, heap_cell X2.out 2, heap_cell XQ.out 0, heap_cell XQ.out 1, heap_cell XZ.out 0, heap_cell XZ.out 1, heap_cell XZ.out 2⟩ ?_
  try go_simp
  refine wpAnyT_one 2 rfl (by kernel_rfl) (fun K hK => ?_)
  go_simp
  refine (toInstance_any ⟨x.toArray⟩ ⟨y.toArray⟩ _ xs1 w15 hxn2 S1.out).mono ?_
  rintro e w16 ⟨t, rfl, -, -, hsq, hb⟩
  replace B : Hid (Below w.heap.size w w16) := B.out.trans (hb.mono B.out.size)
  replace X1 : Hid (w16.heap[w.heap.size]? = some (.cells #[.slice a cs0.length cap, .slice b is0.length cap2] 25 (0, 0))) := below_heap hb (lt_of_heap X1.out) X1.out
  replace X2 : Hid (w16.heap[w.heap.size + 1]? = some (.cells #[.string ⟨x.toArray⟩, .string ⟨y.toArray⟩, .slice d xs1.length capd] 30 (0, 0))) := below_heap hb (lt_of_heap X2.out) X2.out
  replace R0 : Hid (WR w16 (.agg #[.slice a cs0.length cap, .slice b is0.length cap2]) cs0 is0) := R0.out.below hb
  replace S1 : Hid (SP w16 (.slice d xs1.length capd) xs1) := S1.out.below hb
  replace Pq : Hid (SP w16 (.slice (some ⟨q, 0, none⟩) cs0.length cs0.length) cs0) := Pq.out.below hb
  replace Iq : Hid (SI w16 (.slice (some ⟨qi, 0, none⟩) is0.length is0.length) is0) := Iq.out.below hb
  replace XQ : Hid (w16.heap[b8]? = some (.cells #[.slice (some ⟨q, 0, none⟩) cs0.length cs0.length, .slice (some ⟨qi, 0, none⟩) is0.length is0.length] 37 (0, 0))) := below_heap hb (lt_of_heap XQ.out) XQ.out
  replace Sz : Hid (SP w16 (.slice (some ⟨z, 0, none⟩) xs1.length xs1.length) xs1) := Sz.out.below hb
  replace XZ : Hid (w16.heap[b10]? = some (.cells #[.string ⟨x.toArray⟩, .string ⟨y.toArray⟩, .slice (some ⟨z, 0, none⟩) xs1.length xs1.length] 42 (0, 0))) := below_heap hb (lt_of_heap XZ.out) XZ.out
  replace Pr : Hid (SP w16 (.slice (some ⟨r, 0, none⟩) cs0.length cs0.length) cs0) := Pr.out.below hb
  replace Ir : Hid (SI w16 (.slice (some ⟨ri, 0, none⟩) is0.length is0.length) is0) := Ir.out.below hb
  have St : Hid (SP w16 (.slice (some ⟨t, 0, none⟩) xs1.length xs1.length) xs1) := hsq
  clear hb hsq
  refine hK _ _ (fun _ => ⟨heap_cell X1.out 0, heap_cell X1.out 1, heap_cell X2.out 0, heap_cell X2.out 1, heap_cell X2.out 2, heap_cell XQ.out 0, heap_cell XQ.out 1, heap_cell XZ.out 0, heap_cell XZ.out 1, heap_cell XZ.out 2⟩) ?_
  clear hK K
  refine wpAnyT_one 3 rfl (by kernel_rfl) (fun K hK => ?_)
  go_simp
  refine (eqInstance_same ⟨x.toArray⟩ ⟨y.toArray⟩ _ _ xs1 w16 Sz.out St.out).mono ?_
  rintro e w17 ⟨rfl, hb⟩
  replace B : Hid (Below w.heap.size w w17) := B.out.trans (hb.mono B.out.size)
  replace X1 : Hid (w17.heap[w.heap.size]? = some (.cells #[.slice a cs0.length cap, .slice b is0.length cap2] 25 (0, 0))) := below_heap hb (lt_of_heap X1.out) X1.out
  replace X2 : Hid (w17.heap[w.heap.size + 1]? = some (.cells #[.string ⟨x.toArray⟩, .string ⟨y.toArray⟩, .slice d xs1.length capd] 30 (0, 0))) := below_heap hb (lt_of_heap X2.out) X2.out
  replace R0 : Hid (WR w17 (.agg #[.slice a cs0.length cap, .slice b is0.length cap2]) cs0 is0) := R0.out.below hb
  replace S1 : Hid (SP w17 (.slice d xs1.length capd) xs1) := S1.out.below hb
  replace Pq : Hid (SP w17 (.slice (some ⟨q, 0, none⟩) cs0.length cs0.length) cs0) := Pq.out.below hb
  replace Iq : Hid (SI w17 (.slice (some ⟨qi, 0, none⟩) is0.length is0.length) is0) := Iq.out.below hb
  replace XQ : Hid (w17.heap[b8]? = some (.cells #[.slice (some ⟨q, 0, none⟩) cs0.length cs0.length, .slice (some ⟨qi, 0, none⟩) is0.length is0.length] 37 (0, 0))) := below_heap hb (lt_of_heap XQ.out) XQ.out
  replace Sz : Hid (SP w17 (.slice (some ⟨z, 0, none⟩) xs1.length xs1.length) xs1) := Sz.out.below hb
  replace XZ : Hid (w17.heap[b10]? = some (.cells #[.string ⟨x.toArray⟩, .string ⟨y.toArray⟩, .slice (some ⟨z, 0, none⟩) xs1.length xs1.length] 42 (0, 0))) := below_heap hb (lt_of_heap XZ.out) XZ.out
  replace Pr : Hid (SP w17 (.slice (some ⟨r, 0, none⟩) cs0.length cs0.length) cs0) := Pr.out.below hb
  replace Ir : Hid (SI w17 (.slice (some ⟨ri, 0, none⟩) is0.length is0.length) is0) := Ir.out.below hb
  replace St : Hid (SP w17 (.slice (some ⟨t, 0, none⟩) xs1.length xs1.length) xs1) := St.out.below hb
  clear hb 
  refine hK _ _ (fun _ => ⟨heap_cell X1.out 0, heap_cell X1.out 1, heap_cell X2.out 0, heap_cell X2.out 1, heap_cell X2.out 2, heap_cell XQ.out 0, heap_cell XQ.out 1, heap_cell XZ.out 0, heap_cell XZ.out 1, heap_cell XZ.out 2⟩) ?_
  clear hK K
  refine wpAnyT_take (i := 4) (v := .bool false) rfl (by kernel_rfl) (by kernel_rfl) (by kernel_rfl) (by kernel_rfl) (fun _ _ _ h => h) (Or.inl ⟨by kernel_rfl, fun X hS => by clear hS; go_simp⟩) ⟨heap_cell X1.out 0, heap_cell X1.out 1, heap_cell X2.out 0, heap_cell X2.out 1, heap_cell X2.out 2, heap_cell XQ.out 0, heap_cell XQ.out 1, heap_cell XZ.out 0, heap_cell XZ.out 1, heap_cell XZ.out 2⟩ ?_
  try go_simp
  refine wpAnyT_drop _ 5 _ _ _ (by decide) (by kernel_rfl) ?_
  change wpList _ _ _ [] _ _
  go_wp2
  go_ret
  exact ⟨rfl, B.out⟩

theorem lifted (os : Os) (started : os.Started) (H : Type) (enc : TypeId × Value → H) :
    ReturnsInHanded {} Try.checked os 3 .any (Rows.fnExactInstanceValidSpec.pre6 enc Try.prog Try.f3 Rows.fnExactInstanceValidRow.domain false) (Rows.fnExactInstanceValidSpec.post enc Try.prog Try.f3 false true false false) := by
  refine returnsInHanded_of_change (C := Try.checked) own started (by kernel_rfl) Try.func3
    (ChangeSpec.witness6 (enc := enc) (C := Try.checked) false ⟨#[], #[.agg #[.slice none 0 0, .slice none 0 0], .agg #[.string ByteArray.empty, .string ByteArray.empty, .slice none 0 0]], []⟩ 8 (by kernel_rfl) (by kernel_rfl) (by kernel_rfl) (by kernel_rfl)) ?_
  intro W base args ds gs before hval0 hW hcnd _
  have hval : ∀ (j : Nat) t v, Try.f3.params[j]? = some t → args[j]? = some v → Value.okWide Try.prog W .any base t v := hval0
  have hW' := hW
  obtain ⟨p, q, hA0, hV, rfl, hfz, hnd⟩ := hW
  have hA : DataW.TrodAll enc Try.prog W 0 (fun _ => true) true Try.f3.params.toList args.toList ds p := hA0
  rw [Try.params3] at hA hval
  have hL := DataW.TrodAll.lt hA
  obtain ⟨v0, vs0, d0, ds0, p0, q0, hargs, rfl, rfl, h0, r0⟩ := trodAll_cons hA
  obtain ⟨v1, vs1, d1, ds1, p1, q1, rfl, rfl, rfl, h1, r1⟩ := trodAll_cons r0
  obtain ⟨rfl, rfl, rfl⟩ := trodAll_nil r1
  obtain rfl : args = #[v0, v1] := by cases args; simp_all
  obtain ⟨rfl, rfl⟩ := trodVars_none hV
  have k0 := h0
  have l0 : ∀ x ∈ p0, x.block < W.heap.size := fun x hx => hL x (by simp [hx])
  have k1 := h1
  have l1 : ∀ x ∈ p1, x.block < W.heap.size := fun x hx => hL x (by simp [hx])
  obtain ⟨cs0, is0, s0⟩ := open_world Try.underlying25 (by kernel_rfl) rfl rfl (by kernel_rfl) (by kernel_rfl) Try.underlying22 Try.underlying23 Try.underlying93 (by kernel_rfl) rfl rfl (by kernel_rfl) (by kernel_rfl) (by kernel_rfl) (by kernel_rfl) Try.underlying30 (by kernel_rfl) rfl rfl (by kernel_rfl) (by kernel_rfl) Try.underlying27 rfl rfl (by kernel_rfl) (by kernel_rfl) (by kernel_rfl) (by kernel_rfl) Try.underlying28 (hval 0 25 v0 rfl rfl) h0
  obtain ⟨a1, b1, vv1, xs1, rfl, w1, u1, s1⟩ := open_inst Try.underlying30 (by kernel_rfl) rfl rfl (by kernel_rfl) (by kernel_rfl) Try.underlying27 rfl rfl (by kernel_rfl) (by kernel_rfl) (by kernel_rfl) (by kernel_rfl) Try.underlying28 (hval 1 30 v1 rfl rfl) h1
  clear hA0 hval0
  simp only [List.append_nil] at hW'
  refine (walk W _ _ _ s0 _ _ _ _ w1 u1 s1).mono fun e W' ⟨he, bel⟩ => ?_
  subst he
  exact ⟨_, rfl, _, _, _, [], _, [], hW', (trodAll_cons_mk (shut_bool Try.underlying4 _) trodAll_mk0), (trodAll_cons_mk (Below.trod laidOut (by kernel_rfl) (of_decide_eq_true (by kernel_rfl)) k0 bel l0) (trodAll_cons_mk (Below.trod laidOut (by kernel_rfl) (of_decide_eq_true (by kernel_rfl)) k1 bel l1) trodAll_mk0)), rfl, bel.frame _, fun h => by cases h⟩
theorem e1 : Rows.fnExactInstanceValidRow.lifted = Rows.fnExactInstanceValidRow.lifted := rfl
theorem e2 : Rows.fnExactInstanceValidRow.make = Rows.fnExactInstanceValidRow.make := rfl
theorem e3 : Rows.fnExactInstanceValidRow.plainKeys = Rows.fnExactInstanceValidRow.plainKeys := rfl
theorem facts : joinedFacts Try.pinned.checked.prog 3 Try.f3 Rows.fnExactInstanceValidSpec Rows.fnExactInstanceValidRow = true := by
  refine Facts.joined e1 e2 e3 ?_ ?_ ?_ ?_ ?_ ?_ ?_ ?_ ?_ ?_ ?_ ?_ ?_ ?_ ?_ ?_ ?_ ?_ ?_ ?_ ?_ ?_ ?_
  all_goals as_aux_lemma => kernel_rfl
theorem over : Rows.fnExactInstanceValidRow.holds Try.pinned (OpenSpec.ofChange Rows.fnExactInstanceValidSpec) :=
  OpenClaim.holds_of_wide 3 Try.f3 rfl rfl rfl rfl rfl rfl rfl ⟨rfl, rfl, rfl, rfl, rfl⟩ rfl rfl rfl rfl rfl (by kernel_rfl) Try.func3 facts
    (of_decide_eq_true (by kernel_rfl)) (by unfold Func.isWrapper; first | (rw [if_pos (by decide +kernel)]; kernel_rfl) | (rw [if_neg (by decide +kernel)]; exact ⟨rfl, rfl⟩))
    (fun os started H enc _ => lifted os started H enc)
end Go.Proofs.Ytaijklafgcocmaa.fnExactInstanceValid
namespace Go.Proofs.Ytaijklafgcocmaa
theorem fnExactInstanceValid_holds : Rows.FnExactInstanceValidSaid := fnExactInstanceValid.over
end Go.Proofs.Ytaijklafgcocmaa
