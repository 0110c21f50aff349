/- The reference's l2Occurs. Conditions: none. -/
import Derived.Test.YtcjalnianamlaaaUniS
set_option linter.unusedVariables false
set_option linter.unusedSimpArgs false
set_option maxRecDepth 100000
namespace Go.Proofs.Ytcjalnianamlaaa
open Go.RowKit Ty ListS Parts MkType
namespace UniS
open MatP UniP
theorem snode_len {w : World} {t : Ty} {h : Value} {a : Option Addr} {n c : Nat} (hn : SNode 0 w t h (.slice a n c)) : n = t.parts.length := by
  obtain ⟨-, ps, hr, -⟩ := snode hn
  obtain ⟨a', c', e⟩ := row_slice hr
  simp at e
  exact e.2.1
/-- a part of a node that lies in w0, seen in a world that keeps w0 -/
theorem part_at {w0 w : World} {t u : Ty} {h : Value} {a : Option Addr} {n c : Nat} (hn : SNode 0 w0 t h (.slice a n c)) (hk : Keeps 0 w0 w) {j : Nat} (hj : t.parts[j]? = some u) (hz : w0.heap.size ≤ w.heap.size) :
    ∃ (g : Nat) (a' : Option Addr) (n' c' : Nat), a = some ⟨g, 0, none⟩ ∧ g < w0.heap.size ∧ w.cell? ⟨g, j * 2, none⟩ = some (.int .u8 u.head.toNat) ∧ w.cell? ⟨g, j * 2 + 1, none⟩ = some (.slice a' n' c') ∧ SNode 0 w0 u (.int .u8 u.head.toNat) (.slice a' n' c') := by
  obtain ⟨-, ps, hr, hp⟩ := snode hn
  obtain ⟨h1, s1, e1, e2, hu⟩ := hp j u hj
  obtain ⟨rfl, a', n', c', rfl⟩ := hu.form
  have hlen : 0 < t.parts.length := by have := (List.getElem?_eq_some_iff.1 hj).1; omega
  obtain ⟨g, cap, e, -, hg, cs, hc, hd⟩ := row_at hr hlen
  simp at e
  have hc2 := hk.heap (Nat.zero_le _) hc
  exact ⟨g, a', n', c', e.1, hg, (heap_cell hc2 _).trans (hd _ _ e1), (heap_cell hc2 _).trans (hd _ _ e2), hu⟩
theorem keeps_belowW {w0 w w' : World} (h : Keeps 0 w0 w) (hb : Below w.heap.size w w') (hz : w0.heap.size ≤ w.heap.size) : Keeps 0 w0 w' := fun k h1 hk => (hb.block k (by omega)).trans (h k h1 hk)
theorem u8_eq (c d : UInt8) : ((c.toNat : Int) == d.toNat) = decide (c = d) := by
  by_cases e : c = d
  · subst e; simp
  · rw [decide_eq_false e, beq_eq_false_iff_ne]
    intro h
    exact e (UInt8.toNat_inj.1 (by omega))
def OPost (w : World) (r : Bool) (e : Ending) (w' : World) : Prop := e = .returned (.bool r) ∧ Below w.heap.size w w'
abbrev OcAt (m : Sg) (v : UInt8) (t : Ty) (r : Bool) : Prop := ∀ (a : Option Addr) (n c : Nat) (w0 w : World) (mb : Nat), MapW w0 w mb m → Keeps 0 w0 w → w0.heap.size ≤ w.heap.size → SNode 0 w0 t (.int .u8 t.head.toNat) (.slice a n c) →
  Calls Try.prog 79 #[.pointer (some ⟨mb, 0, none⟩), .int .u8 v.toNat, .agg #[.int .u8 t.head.toNat, .slice a n c]] w (OPost w r)
theorem oc_here {m : Sg} {v : UInt8} {t u : Ty} (hw : Wk m t u) (hv : u.head = v) : OcAt m v t true := by
  subst hv
  intro a n c w0 w mb hmap hk hz hnode
  have HMAP := hid hmap
  have HN := hid hnode
  have HK := hid hk
  clear hmap hk hnode
  go_enter Try.func79, Try.ntmps79
  go_wp2_with fail
  refine (l2Walk_any t u a n c w0 _ mb m hw (HMAP.out.below ((Below.refl _ _).alloc (Nat.le_refl _) _)) HN.out).mono ?_
  rintro e w1 ⟨au, nu, cu, rfl, hn, hb⟩
  have HB1 : Hid (Below w.heap.size w w1) := ((Below.refl _ _).alloc (Nat.le_refl _) _).trans (hb.mono (by simp))
  have HBX := hid (below_heap hb (by simp) (heap_alloc_new w (.cells #[.int .u8 t.head.toNat, .slice a n c] 70)))
  have HU := hid hn
  have b0 := heap_cell HBX.out 0
  have b1 := heap_cell HBX.out 1
  have f0 := heap_free HBX.out 0
  have f1 := heap_free HBX.out 1
  have hl1 := lt_of_heap HBX.out
  have hnu := snode_len hn
  clear hb hn
  go_wp2_with fail
  go_ret
  exact ⟨rfl, (HB1.out.setCell (Nat.le_refl _) _).setCell (Nat.le_refl _) _⟩
theorem oc_none {m : Sg} {v : UInt8} {t u : Ty} (hw : Wk m t u) (hv : u.head ≠ v) (hpe : u.parts = []) : OcAt m v t false := by
  have heq : ((u.head.toNat : Int) == v.toNat) = false := by rw [u8_eq]; exact decide_eq_false hv
  intro a n c w0 w mb hmap hk hz hnode
  have HMAP := hid hmap
  have HN := hid hnode
  have HK := hid hk
  clear hmap hk hnode
  go_enter Try.func79, Try.ntmps79
  go_wp2_with fail
  refine (l2Walk_any t u a n c w0 _ mb m hw (HMAP.out.below ((Below.refl _ _).alloc (Nat.le_refl _) _)) HN.out).mono ?_
  rintro e w1 ⟨au, nu, cu, rfl, hn, hb⟩
  have HB1 : Hid (Below w.heap.size w w1) := ((Below.refl _ _).alloc (Nat.le_refl _) _).trans (hb.mono (by simp))
  have HBX := hid (below_heap hb (by simp) (heap_alloc_new w (.cells #[.int .u8 t.head.toNat, .slice a n c] 70)))
  have HU := hid hn
  have b0 := heap_cell HBX.out 0
  have b1 := heap_cell HBX.out 1
  have f0 := heap_free HBX.out 0
  have f1 := heap_free HBX.out 1
  have hl1 := lt_of_heap HBX.out
  have hnu := snode_len hn
  clear hb hn
  obtain rfl : nu = 0 := by rw [hnu, hpe]; rfl
  clear hnu
  go_wp2_with fail
  refine wp_loop_rounds 1 ?_
  rw [rounds_succ]
  go_wp2_with fail
  go_ret
  exact ⟨rfl, (HB1.out.setCell (Nat.le_refl _) _).setCell (Nat.le_refl _) _⟩
set_option maxHeartbeats 4000000 in
theorem oc_one {m : Sg} {v : UInt8} {t u p : Ty} {r : Bool} (hw : Wk m t u) (hv : u.head ≠ v) (hpe : u.parts = [p]) (ih : OcAt m v p r) : OcAt m v t r := by
  have heq : ((u.head.toNat : Int) == v.toNat) = false := by rw [u8_eq]; exact decide_eq_false hv
  intro a n c w0 w mb hmap hk hz hnode
  have HMAP := hid hmap
  have HN := hid hnode
  have HK := hid hk
  clear hmap hk hnode
  go_enter Try.func79, Try.ntmps79
  go_wp2_with fail
  refine (l2Walk_any t u a n c w0 _ mb m hw (HMAP.out.below ((Below.refl _ _).alloc (Nat.le_refl _) _)) HN.out).mono ?_
  rintro e w1 ⟨au, nu, cu, rfl, hn, hb⟩
  have HB1 : Hid (Below w.heap.size w w1) := ((Below.refl _ _).alloc (Nat.le_refl _) _).trans (hb.mono (by simp))
  have HBX := hid (below_heap hb (by simp) (heap_alloc_new w (.cells #[.int .u8 t.head.toNat, .slice a n c] 70)))
  have HU := hid hn
  have b0 := heap_cell HBX.out 0
  have b1 := heap_cell HBX.out 1
  have f0 := heap_free HBX.out 0
  have f1 := heap_free HBX.out 1
  have hl1 := lt_of_heap HBX.out
  have hnu := snode_len hn
  clear hb hn
  obtain rfl : nu = 1 := by rw [hnu, hpe]; rfl
  clear hnu
  go_wp2_with fail
  have HB2 : Hid (Below w.heap.size w ((w1.setCell ⟨w.heap.size, 0, none⟩ (.int .u8 u.head.toNat)).setCell ⟨w.heap.size, 1, none⟩ (.slice au 1 cu))) := (HB1.out.setCell (Nat.le_refl _) _).setCell (Nat.le_refl _) _
  have HX2 : Hid (((w1.setCell ⟨w.heap.size, 0, none⟩ (.int .u8 u.head.toNat)).setCell ⟨w.heap.size, 1, none⟩ (.slice au 1 cu)).heap[w.heap.size]? = some (.cells #[.int .u8 u.head.toNat, .slice au 1 cu] 70 (0, 0))) := heap_set (heap_set HBX.out 0 _) 1 _
  have hz2 : ((w1.setCell ⟨w.heap.size, 0, none⟩ (.int .u8 u.head.toNat)).setCell ⟨w.heap.size, 1, none⟩ (.slice au 1 cu)).heap.size = w1.heap.size := by simp
  clear b0 b1 f0 f1 HBX HB1 hl1
  generalize ((w1.setCell ⟨w.heap.size, 0, none⟩ (.int .u8 u.head.toNat)).setCell ⟨w.heap.size, 1, none⟩ (.slice au 1 cu)) = W2 at *
  have hzw : w0.heap.size ≤ W2.heap.size := by have := HB2.out.size; omega
  have HK2 : Hid (Keeps 0 w0 W2) := keeps_belowW HK.out HB2.out hz
  have HM2 := hid (HMAP.out.below HB2.out)
  have hbz2 := HB2.out.size
  have b1 := heap_cell HX2.out 1
  have hlx := lt_of_heap HX2.out
  refine wp_loop_rounds 2 ?_
  obtain ⟨g0, a0, n0, c0, eg0, hg0, y0, z0, hn0⟩ := part_at (j := 0) (u := p) HU.out HK2.out (by rw [hpe]; rfl) (by omega)
  subst eg0
  have HN0 := hid hn0
  have hgr0 : g0 < W2.heap.size := by omega
  clear hn0
  rw [rounds_succ]
  simp only [Nat.zero_mul, Nat.zero_add] at y0 z0
  go_wp2_with fail
  have HBA0 : Hid (Below W2.heap.size W2 (W2.alloc (.cells #[.int .u8 p.head.toNat, .slice a0 n0 c0] 70))) := (Below.refl _ _).alloc (Nat.le_refl _) _
  refine (ih a0 n0 c0 w0 _ mb (HM2.out.below HBA0.out) (keeps_belowW HK2.out HBA0.out (by omega)) (by simp; omega) HN0.out).mono ?_
  rintro e w3 ⟨rfl, hb⟩
  have HB3 : Hid (Below w.heap.size w w3) := HB2.out.trans ((HBA0.out.trans (hb.mono (by simp))).mono (by have := HB2.out.size; omega))
  have hbz3 : W2.heap.size + 1 ≤ w3.heap.size := by have := hb.size; simpa using this
  have HX3 := hid (below_heap (HBA0.out.trans (hb.mono (by simp))) (by omega) HX2.out)
  have HK3 : Hid (Keeps 0 w0 w3) := keeps_belowW HK2.out (HBA0.out.trans (hb.mono (by simp))) (by omega)
  have HM3 := hid (HM2.out.below (HBA0.out.trans (hb.mono (by simp))))
  clear hb y0 z0 b1
  cases r with
  | true =>
    go_wp2_with fail
    go_ret
    exact ⟨rfl, HB3.out⟩
  | false =>
    go_wp2_with fail
    rw [rounds_succ]
    go_wp2_with fail
    go_ret
    exact ⟨rfl, HB3.out⟩
set_option maxHeartbeats 4000000 in
theorem oc_twoT {m : Sg} {v : UInt8} {t u p q : Ty} (hw : Wk m t u) (hv : u.head ≠ v) (hpe : u.parts = [p, q]) (ih : OcAt m v p true) : OcAt m v t true := by
  have heq : ((u.head.toNat : Int) == v.toNat) = false := by rw [u8_eq]; exact decide_eq_false hv
  intro a n c w0 w mb hmap hk hz hnode
  have HMAP := hid hmap
  have HN := hid hnode
  have HK := hid hk
  clear hmap hk hnode
  go_enter Try.func79, Try.ntmps79
  go_wp2_with fail
  refine (l2Walk_any t u a n c w0 _ mb m hw (HMAP.out.below ((Below.refl _ _).alloc (Nat.le_refl _) _)) HN.out).mono ?_
  rintro e w1 ⟨au, nu, cu, rfl, hn, hb⟩
  have HB1 : Hid (Below w.heap.size w w1) := ((Below.refl _ _).alloc (Nat.le_refl _) _).trans (hb.mono (by simp))
  have HBX := hid (below_heap hb (by simp) (heap_alloc_new w (.cells #[.int .u8 t.head.toNat, .slice a n c] 70)))
  have HU := hid hn
  have b0 := heap_cell HBX.out 0
  have b1 := heap_cell HBX.out 1
  have f0 := heap_free HBX.out 0
  have f1 := heap_free HBX.out 1
  have hl1 := lt_of_heap HBX.out
  have hnu := snode_len hn
  clear hb hn
  obtain rfl : nu = 2 := by rw [hnu, hpe]; rfl
  clear hnu
  go_wp2_with fail
  have HB2 : Hid (Below w.heap.size w ((w1.setCell ⟨w.heap.size, 0, none⟩ (.int .u8 u.head.toNat)).setCell ⟨w.heap.size, 1, none⟩ (.slice au 2 cu))) := (HB1.out.setCell (Nat.le_refl _) _).setCell (Nat.le_refl _) _
  have HX2 : Hid (((w1.setCell ⟨w.heap.size, 0, none⟩ (.int .u8 u.head.toNat)).setCell ⟨w.heap.size, 1, none⟩ (.slice au 2 cu)).heap[w.heap.size]? = some (.cells #[.int .u8 u.head.toNat, .slice au 2 cu] 70 (0, 0))) := heap_set (heap_set HBX.out 0 _) 1 _
  have hz2 : ((w1.setCell ⟨w.heap.size, 0, none⟩ (.int .u8 u.head.toNat)).setCell ⟨w.heap.size, 1, none⟩ (.slice au 2 cu)).heap.size = w1.heap.size := by simp
  clear b0 b1 f0 f1 HBX HB1 hl1
  generalize ((w1.setCell ⟨w.heap.size, 0, none⟩ (.int .u8 u.head.toNat)).setCell ⟨w.heap.size, 1, none⟩ (.slice au 2 cu)) = W2 at *
  have hzw : w0.heap.size ≤ W2.heap.size := by have := HB2.out.size; omega
  have HK2 : Hid (Keeps 0 w0 W2) := keeps_belowW HK.out HB2.out hz
  have HM2 := hid (HMAP.out.below HB2.out)
  have hbz2 := HB2.out.size
  have b1 := heap_cell HX2.out 1
  have hlx := lt_of_heap HX2.out
  refine wp_loop_rounds 3 ?_
  obtain ⟨g0, a0, n0, c0, eg0, hg0, y0, z0, hn0⟩ := part_at (j := 0) (u := p) HU.out HK2.out (by rw [hpe]; rfl) (by omega)
  subst eg0
  have HN0 := hid hn0
  have hgr0 : g0 < W2.heap.size := by omega
  clear hn0
  rw [rounds_succ]
  simp only [Nat.zero_mul, Nat.zero_add] at y0 z0
  go_wp2_with fail
  have HBA0 : Hid (Below W2.heap.size W2 (W2.alloc (.cells #[.int .u8 p.head.toNat, .slice a0 n0 c0] 70))) := (Below.refl _ _).alloc (Nat.le_refl _) _
  refine (ih a0 n0 c0 w0 _ mb (HM2.out.below HBA0.out) (keeps_belowW HK2.out HBA0.out (by omega)) (by simp; omega) HN0.out).mono ?_
  rintro e w3 ⟨rfl, hb⟩
  have HB3 : Hid (Below w.heap.size w w3) := HB2.out.trans ((HBA0.out.trans (hb.mono (by simp))).mono (by have := HB2.out.size; omega))
  have hbz3 : W2.heap.size + 1 ≤ w3.heap.size := by have := hb.size; simpa using this
  have HX3 := hid (below_heap (HBA0.out.trans (hb.mono (by simp))) (by omega) HX2.out)
  have HK3 : Hid (Keeps 0 w0 w3) := keeps_belowW HK2.out (HBA0.out.trans (hb.mono (by simp))) (by omega)
  have HM3 := hid (HM2.out.below (HBA0.out.trans (hb.mono (by simp))))
  clear hb y0 z0 b1
  go_wp2_with fail
  go_ret
  exact ⟨rfl, HB3.out⟩
set_option maxHeartbeats 4000000 in
theorem oc_twoF {m : Sg} {v : UInt8} {t u p q : Ty} {r : Bool} (hw : Wk m t u) (hv : u.head ≠ v) (hpe : u.parts = [p, q]) (i1 : OcAt m v p false) (i2 : OcAt m v q r) : OcAt m v t r := by
  have heq : ((u.head.toNat : Int) == v.toNat) = false := by rw [u8_eq]; exact decide_eq_false hv
  intro a n c w0 w mb hmap hk hz hnode
  have HMAP := hid hmap
  have HN := hid hnode
  have HK := hid hk
  clear hmap hk hnode
  go_enter Try.func79, Try.ntmps79
  go_wp2_with fail
  refine (l2Walk_any t u a n c w0 _ mb m hw (HMAP.out.below ((Below.refl _ _).alloc (Nat.le_refl _) _)) HN.out).mono ?_
  rintro e w1 ⟨au, nu, cu, rfl, hn, hb⟩
  have HB1 : Hid (Below w.heap.size w w1) := ((Below.refl _ _).alloc (Nat.le_refl _) _).trans (hb.mono (by simp))
  have HBX := hid (below_heap hb (by simp) (heap_alloc_new w (.cells #[.int .u8 t.head.toNat, .slice a n c] 70)))
  have HU := hid hn
  have b0 := heap_cell HBX.out 0
  have b1 := heap_cell HBX.out 1
  have f0 := heap_free HBX.out 0
  have f1 := heap_free HBX.out 1
  have hl1 := lt_of_heap HBX.out
  have hnu := snode_len hn
  clear hb hn
  obtain rfl : nu = 2 := by rw [hnu, hpe]; rfl
  clear hnu
  go_wp2_with fail
  have HB2 : Hid (Below w.heap.size w ((w1.setCell ⟨w.heap.size, 0, none⟩ (.int .u8 u.head.toNat)).setCell ⟨w.heap.size, 1, none⟩ (.slice au 2 cu))) := (HB1.out.setCell (Nat.le_refl _) _).setCell (Nat.le_refl _) _
  have HX2 : Hid (((w1.setCell ⟨w.heap.size, 0, none⟩ (.int .u8 u.head.toNat)).setCell ⟨w.heap.size, 1, none⟩ (.slice au 2 cu)).heap[w.heap.size]? = some (.cells #[.int .u8 u.head.toNat, .slice au 2 cu] 70 (0, 0))) := heap_set (heap_set HBX.out 0 _) 1 _
  have hz2 : ((w1.setCell ⟨w.heap.size, 0, none⟩ (.int .u8 u.head.toNat)).setCell ⟨w.heap.size, 1, none⟩ (.slice au 2 cu)).heap.size = w1.heap.size := by simp
  clear b0 b1 f0 f1 HBX HB1 hl1
  generalize ((w1.setCell ⟨w.heap.size, 0, none⟩ (.int .u8 u.head.toNat)).setCell ⟨w.heap.size, 1, none⟩ (.slice au 2 cu)) = W2 at *
  have hzw : w0.heap.size ≤ W2.heap.size := by have := HB2.out.size; omega
  have HK2 : Hid (Keeps 0 w0 W2) := keeps_belowW HK.out HB2.out hz
  have HM2 := hid (HMAP.out.below HB2.out)
  have hbz2 := HB2.out.size
  have b1 := heap_cell HX2.out 1
  have hlx := lt_of_heap HX2.out
  refine wp_loop_rounds 3 ?_
  obtain ⟨g0, a0, n0, c0, eg0, hg0, y0, z0, hn0⟩ := part_at (j := 0) (u := p) HU.out HK2.out (by rw [hpe]; rfl) (by omega)
  subst eg0
  have HN0 := hid hn0
  have hgr0 : g0 < W2.heap.size := by omega
  clear hn0
  rw [rounds_succ]
  simp only [Nat.zero_mul, Nat.zero_add] at y0 z0
  go_wp2_with fail
  have HBA0 : Hid (Below W2.heap.size W2 (W2.alloc (.cells #[.int .u8 p.head.toNat, .slice a0 n0 c0] 70))) := (Below.refl _ _).alloc (Nat.le_refl _) _
  refine (i1 a0 n0 c0 w0 _ mb (HM2.out.below HBA0.out) (keeps_belowW HK2.out HBA0.out (by omega)) (by simp; omega) HN0.out).mono ?_
  rintro e w3 ⟨rfl, hb⟩
  have HB3 : Hid (Below w.heap.size w w3) := HB2.out.trans ((HBA0.out.trans (hb.mono (by simp))).mono (by have := HB2.out.size; omega))
  have hbz3 : W2.heap.size + 1 ≤ w3.heap.size := by have := hb.size; simpa using this
  have HX3 := hid (below_heap (HBA0.out.trans (hb.mono (by simp))) (by omega) HX2.out)
  have HK3 : Hid (Keeps 0 w0 w3) := keeps_belowW HK2.out (HBA0.out.trans (hb.mono (by simp))) (by omega)
  have HM3 := hid (HM2.out.below (HBA0.out.trans (hb.mono (by simp))))
  clear hb y0 z0 b1
  go_wp2_with fail
  obtain ⟨g1, a1, n1, c1, eg1, hg1, y1, z1, hn1⟩ := part_at (j := 1) (u := q) HU.out HK3.out (by rw [hpe]; rfl) (by omega)
  cases eg1
  have HN1 := hid hn1
  have hgr1 : g0 < w3.heap.size := by omega
  clear hn1
  rw [rounds_succ]
  skip
  go_wp2_with fail
  have HBA1 : Hid (Below w3.heap.size w3 (w3.alloc (.cells #[.int .u8 q.head.toNat, .slice a1 n1 c1] 70))) := (Below.refl _ _).alloc (Nat.le_refl _) _
  refine (i2 a1 n1 c1 w0 _ mb (HM3.out.below HBA1.out) (keeps_belowW HK3.out HBA1.out (by omega)) (by simp; omega) HN1.out).mono ?_
  rintro e w4 ⟨rfl, hb⟩
  have HB4 : Hid (Below w.heap.size w w4) := HB3.out.trans ((HBA1.out.trans (hb.mono (by simp))).mono (by have := HB3.out.size; omega))
  have hbz4 : w3.heap.size + 1 ≤ w4.heap.size := by have := hb.size; simpa using this
  have HX4 := hid (below_heap (HBA1.out.trans (hb.mono (by simp))) (by omega) HX3.out)
  have HK4 : Hid (Keeps 0 w0 w4) := keeps_belowW HK3.out (HBA1.out.trans (hb.mono (by simp))) (by omega)
  have HM4 := hid (HM3.out.below (HBA1.out.trans (hb.mono (by simp))))
  clear hb y1 z1 
  cases r with
  | true =>
    go_wp2_with fail
    go_ret
    exact ⟨rfl, HB4.out⟩
  | false =>
    go_wp2_with fail
    rw [rounds_succ]
    go_wp2_with fail
    go_ret
    exact ⟨rfl, HB4.out⟩
theorem l2Occurs_any {m : Sg} {v : UInt8} {t : Ty} {r : Bool} (h : Oc m v t r) : OcAt m v t r := by
  induction h with
  | here hw hv => exact oc_here hw hv
  | none hw hv hp => exact oc_none hw hv hp
  | one hw hv hp _ ih => exact oc_one hw hv hp ih
  | twoT hw hv hp _ ih => exact oc_twoT hw hv hp ih
  | twoF hw hv hp _ _ i1 i2 => exact oc_twoF hw hv hp i1 i2
end UniS
end Go.Proofs.Ytcjalnianamlaaa
