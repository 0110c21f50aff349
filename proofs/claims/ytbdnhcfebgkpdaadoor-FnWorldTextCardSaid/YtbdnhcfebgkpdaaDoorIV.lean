/- What InstanceValid returns, of both sides; l3Within of the reference. Conditions: those typed. -/
import Derived.Test.YtbdnhcfebgkpdaaDoorClasses
import Derived.Test.YtbdnhcfebgkpdaaDoorVarsI
set_option linter.unusedVariables false
set_option linter.unusedSimpArgs false
set_option maxRecDepth 100000
namespace Go.Proofs.YtbdnhcfebgkpdaaDoor
open Go.RowKit Known Classes Ty
namespace IV
/-- a need of an instance whose type is t is as it must be -/
def needB (cs : List BB) (t : List UInt8) (p : BB) : Bool := knownB cs p.1 && ((ty p.2.data.toList).isSome && (decide (p.2.data.toList.length ≤ 20) && (varsI p.2.data.toList).all (fun v => t.contains v)))
/-- what InstanceValid returns -/
noncomputable def ivB (cs : List BB) (p : II) : Bool := clB cs && (knownB cs p.1 && ((ty p.2.1.data.toList).isSome && (decide (p.2.1.data.toList.length ≤ 20) && (!isVarL p.2.1.data.toList && (decide (p.2.2.length ≤ 3) && p.2.2.all (needB cs p.2.1.data.toList))))))
theorem iv1 {cs : List BB} {p : II} (h : clB cs = false) : ivB cs p = false := by unfold ivB; rw [h]; rfl
theorem iv2 {cs : List BB} {x t : List UInt8} {ns : List BB} (h : knownB cs ⟨x.toArray⟩ = false) : ivB cs (⟨x.toArray⟩, ⟨t.toArray⟩, ns) = false := by unfold ivB; simp [h]
theorem iv3 {cs : List BB} {x t : List UInt8} {ns : List BB} (h : (ty t).isSome = false) : ivB cs (⟨x.toArray⟩, ⟨t.toArray⟩, ns) = false := by unfold ivB; simp only [h]; simp
theorem iv4 {cs : List BB} {x t : List UInt8} {ns : List BB} (h : 20 < t.length) : ivB cs (⟨x.toArray⟩, ⟨t.toArray⟩, ns) = false := by unfold ivB; simp [show ¬ t.length ≤ 20 by omega]
theorem iv5 {cs : List BB} {x t : List UInt8} {ns : List BB} (h : isVarL t = true) : ivB cs (⟨x.toArray⟩, ⟨t.toArray⟩, ns) = false := by unfold ivB; simp [h]
theorem iv6 {cs : List BB} {x t : List UInt8} {ns : List BB} (h : 3 < ns.length) : ivB cs (⟨x.toArray⟩, ⟨t.toArray⟩, ns) = false := by unfold ivB; simp [show ¬ ns.length ≤ 3 by omega]
theorem iv7 {cs : List BB} {x t : List UInt8} {ns : List BB} {k : Nat} {p : BB} (hk : ns[k]? = some p) (h : needB cs t p = false) : ivB cs (⟨x.toArray⟩, ⟨t.toArray⟩, ns) = false := by
  have : ns.all (needB cs t) = false := by rw [List.all_eq_false]; exact ⟨p, List.mem_of_getElem? hk, by simp [h]⟩
  unfold ivB
  simp only [this]
  simp
theorem iv8 {cs : List BB} {x t : List UInt8} {ns : List BB} (h1 : clB cs = true) (h2 : knownB cs ⟨x.toArray⟩ = true) (h3 : (ty t).isSome = true) (h4 : t.length ≤ 20) (h5 : isVarL t = false) (h6 : ns.length ≤ 3) (h : ∀ (k : Nat) (p : BB), k < ns.length → ns[k]? = some p → needB cs t p = true) : ivB cs (⟨x.toArray⟩, ⟨t.toArray⟩, ns) = true := by
  have : ns.all (needB cs t) = true := by
    rw [List.all_eq_true]
    intro p hp
    obtain ⟨k, hk, hh⟩ := List.mem_iff_getElem.1 hp
    exact h k p hk (by rw [List.getElem?_eq_getElem hk, hh])
  unfold ivB
  simp only [this, h1, h2, h5]
  simp [h3, h4, h6]
theorem nd1 {cs : List BB} {t x y : List UInt8} (h : knownB cs ⟨x.toArray⟩ = false) : needB cs t (⟨x.toArray⟩, ⟨y.toArray⟩) = false := by unfold needB; simp [h]
theorem nd2 {cs : List BB} {t x y : List UInt8} (h : (ty y).isSome = false) : needB cs t (⟨x.toArray⟩, ⟨y.toArray⟩) = false := by unfold needB; simp only [h]; simp
theorem nd3 {cs : List BB} {t x y : List UInt8} (h : 20 < y.length) : needB cs t (⟨x.toArray⟩, ⟨y.toArray⟩) = false := by unfold needB; simp [show ¬ y.length ≤ 20 by omega]
theorem nd4 {cs : List BB} {t x y : List UInt8} {k : Nat} {v : UInt8} (hk : (varsI y)[k]? = some v) (h : t.contains v = false) : needB cs t (⟨x.toArray⟩, ⟨y.toArray⟩) = false := by
  have : (varsI y).all (fun v => t.contains v) = false := by rw [List.all_eq_false]; exact ⟨v, List.mem_of_getElem? hk, by rw [h]; simp⟩
  unfold needB
  simp only [this]
  simp
theorem nd5 {cs : List BB} {t x y : List UInt8} (h1 : knownB cs ⟨x.toArray⟩ = true) (h2 : (ty y).isSome = true) (h3 : y.length ≤ 20) (h : ∀ (k : Nat) (v : UInt8), (varsI y)[k]? = some v → t.contains v = true) : needB cs t (⟨x.toArray⟩, ⟨y.toArray⟩) = true := by
  have : (varsI y).all (fun v => t.contains v) = true := by
    rw [List.all_eq_true]
    intro p hp
    obtain ⟨k, hk, hh⟩ := List.mem_iff_getElem.1 hp
    exact h k p (by rw [List.getElem?_eq_getElem hk, hh])
  unfold needB
  simp only [this, h1]
  simp [h2, h3]
/-- what l3Within returns -/
def withinB (a b : List UInt8) : Bool := a.all (fun c => b.contains c)
theorem within_no {a b : List UInt8} {k : Nat} {v : UInt8} (hk : a[k]? = some v) (h : b.contains v = false) : withinB a b = false := by
  unfold withinB; rw [List.all_eq_false]; exact ⟨v, List.mem_of_getElem? hk, by rw [h]; simp⟩
theorem within_yes {a b : List UInt8} (h : ∀ (k : Nat) (v : UInt8), k < a.length → a[k]? = some v → b.contains v = true) : withinB a b = true := by
  unfold withinB
  rw [List.all_eq_true]
  intro p hp
  obtain ⟨k, hk, hh⟩ := List.mem_iff_getElem.1 hp
  exact h k p hk (by rw [List.getElem?_eq_getElem hk, hh])
/-- the reference's test of a need is the program's -/
theorem nd_same {cs : List BB} {t x y : List UInt8} (ht : (ty t).isSome = true) (h1 : knownB cs ⟨x.toArray⟩ = true) (h2 : (ty y).isSome = true) (h3 : y.length ≤ 20) : needB cs t (⟨x.toArray⟩, ⟨y.toArray⟩) = withinB (varsL y) (varsL t) := by
  rw [countI_pos ht, countI_pos h2]
  unfold needB withinB
  simp only [h1, h2]
  simp only [h3, decide_true, Bool.true_and]
  rw [Bool.eq_iff_iff, List.all_eq_true, List.all_eq_true]
  refine forall_congr' fun v => forall_congr' fun hv => ?_
  have hv2 : v ∈ vlist := by unfold varsI at hv; exact (List.mem_filter.1 hv).1
  unfold varsI
  simp [hv2]
theorem keep2 {W W1 : World} {b : Nat} {x y : Value} {e : TypeId} {fr : Nat × Nat} (h : W.heap[b]? = some (.cells #[x, y] e fr)) (hb : Below W.heap.size W W1) : W1.cell? ⟨b, 0, none⟩ = some x ∧ W1.cell? ⟨b, 1, none⟩ = some y := by
  have := below_heap hb (lt_of_heap h) h
  exact ⟨heap_cell this 0, heap_cell this 1⟩
theorem keep3 {W W1 : World} {b : Nat} {x y z : Value} {e : TypeId} {fr : Nat × Nat} (h : W.heap[b]? = some (.cells #[x, y, z] e fr)) (hb : Below W.heap.size W W1) : W1.cell? ⟨b, 0, none⟩ = some x ∧ W1.cell? ⟨b, 1, none⟩ = some y ∧ W1.cell? ⟨b, 2, none⟩ = some z := by
  have := below_heap hb (lt_of_heap h) h
  exact ⟨heap_cell this 0, heap_cell this 1, heap_cell this 2⟩
theorem l3Within_any (a b : List UInt8) (w : World) (ha : a.length ≤ 1048576) (hb : b.length ≤ 1048576) :
    Calls Tryd.prog 73 #[.string ⟨a.toArray⟩, .string ⟨b.toArray⟩] w fun e w' => e = .returned (.bool (withinB a b)) ∧ w = w' := by
  go_enter Tryd.func73, Tryd.ntmps73
  go_wp2_with fail
  go_loop [8] (fun i => ∃ k : Nat, k ≤ a.length ∧ i = .int .i64 k ∧ Hid (∀ (j : Nat) (v : UInt8), j < k → a[j]? = some v → b.contains v = true)) (fun i => a.length - (intOf i).toNat)
  case atStart => exact ⟨0, Nat.zero_le _, rfl, fun j v h => by omega⟩
  case round =>
    obtain ⟨k, hk, rfl, hgood⟩ := hrel
    by_cases hlt : k < a.length
    · obtain ⟨c, hc⟩ : ∃ c, a[k]? = some c := ⟨_, List.getElem?_eq_getElem hlt⟩
      have HC := hid hc
      obtain ⟨ix, hix⟩ : ∃ ix, ix = Lib.indexByte b c := ⟨_, rfl⟩
      have hcon := Lib.contains_iff_indexByte b c
      rw [← hix] at hcon
      have HIX := hid hix
      cases hb2 : b.contains c with
      | false =>
        have HR : Hid (withinB a b = false) := within_no HC.out hb2
        rw [hb2] at hcon
        have hneg : ix < 0 := by simpa using hcon.symm
        clear hc hix hcon hb2
        go_wp2_with fail
        rw [Classes.get_at a k c HC.out]
        refine (l13Find ⟨b.toArray⟩ c _ (by unfold maxLen; simp [ByteArray.size]; omega)).mono ?_
        rintro e w' ⟨rfl, rfl⟩
        rw [show Lib.indexByte (ByteArray.mk b.toArray).data.toList c = ix from HIX.out.symm]
        go_wp2
        go_ret
        exact ⟨ret_bool HR.out.symm, rfl⟩
      | true =>
        rw [hb2] at hcon
        have hneg : 0 ≤ ix := by simpa using hcon.symm
        have HG : Hid (∀ (j : Nat) (v : UInt8), j < k + 1 → a[j]? = some v → b.contains v = true) := fun j v hj hv => by
          by_cases e : j < k
          · exact hgood j v e hv
          · obtain rfl : j = k := by omega
            rw [HC.out] at hv; cases hv; exact hb2
        clear hc hix hcon hb2 hgood
        go_wp2_with fail
        rw [Classes.get_at a k c HC.out]
        refine (l13Find ⟨b.toArray⟩ c _ (by unfold maxLen; simp [ByteArray.size]; omega)).mono ?_
        rintro e w' ⟨rfl, rfl⟩
        rw [show Lib.indexByte (ByteArray.mk b.toArray).data.toList c = ix from HIX.out.symm]
        go_wp2
        go_round
        case rel => exact ⟨k + 1, by omega, by go_num, HG.out⟩
        case measure => simp [intOf]; omega
    · have hke : k = a.length := by omega
      have HR : Hid (withinB a b = true) := within_yes (by rw [← hke]; exact hgood)
      clear hke hgood
      go_wp2_with fail
      go_ret
      exact ⟨ret_bool HR.out.symm, rfl⟩
end IV
end Go.Proofs.YtbdnhcfebgkpdaaDoor
