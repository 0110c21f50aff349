/- The laws' size, copy and comparison of slices of instances, and of worlds. Conditions: those typed. -/
import Derived.Test.YtcjalnianamlaaaWorldOpen
import Derived.Test.YtcjalnianamlaaaInst
import Derived.Test.YtcjalnianamlaaaClassS
import Derived.Deep.LoopGhost
set_option linter.unusedVariables false
set_option linter.unusedSimpArgs false
set_option maxRecDepth 100000
namespace Go.Proofs.Ytcjalnianamlaaa
open Go.RowKit

def iw (p : II) : Nat := p.1.size + p.2.1.size + p.2.2.length + tot p.2.2
def itot (is : List II) : Nat := (is.map iw).sum
theorem itot_take (is : List II) (k : Nat) (p : II) (h : is[k]? = some p) : itot (is.take (k + 1)) = itot (is.take k) + iw p := by
  obtain ⟨hlt, rfl⟩ := List.getElem?_eq_some_iff.1 h
  unfold itot
  rw [List.take_succ_eq_append_getElem hlt]
  simp only [List.map_append, List.sum_append, List.map_cons, List.map_nil, List.sum_cons, List.sum_nil, Nat.add_zero]
theorem itot_app (xs ys : List II) : itot (xs ++ ys) = itot xs + itot ys := by simp [itot]
theorem itot_le (is : List II) (k : Nat) : itot (is.take k) ≤ itot is := by
  have := itot_app (is.take k) (is.drop k)
  rw [List.take_append_drop] at this
  omega
def szII (is : List II) (L : Int) : Int := if (is.length : Int) + itot is ≤ L then L - is.length - itot is else -1
def szW (cs : List BB) (is : List II) (L : Int) : Int := if (cs.length : Int) + tot cs + is.length + itot is ≤ L then L - cs.length - tot cs - is.length - itot is else -1

set_option maxHeartbeats 2000000 in
theorem szInstanceS_any (v : Value) (is : List II) (L : Int) (w : World) (hL : 0 ≤ L) (h0 : L ≤ 1048576) (hs : SI w v is) :
    Calls Try.prog 16 #[v, .int .i64 L] w fun e w' => e = .returned (.int .i64 (szII is L)) ∧ Below w.heap.size w w' := by
  obtain ⟨a, cap, rfl⟩ := si_slice hs
  have HS := hid hs
  have hn : is.length ≤ maxLen := by rcases hs with ⟨rfl, _⟩ | ⟨_, _, _, _, h, _⟩; simp; exact h
  unfold maxLen at hn
  clear hs
  by_cases h1 : (is.length : Int) ≤ L
  rotate_left
  · have hR : Hid (szII is L = -1) := by show _ = _; unfold szII; rw [if_neg (by omega)]
    go_enter Try.func16, Try.ntmps16
    go_wp2
    go_ret
    exact ⟨ret_int hR.out.symm, Below.refl _ _⟩
  · go_enter Try.func16, Try.ntmps16
    go_wp2
    go_loopg [5, 1] is.length (fun q i l wr => ∃ (k m : Nat), k ≤ is.length ∧ is.length - k ≤ q ∧ i = .int .i64 k ∧ l = .int .i64 m ∧ (m : Int) = L - is.length - itot (is.take k) ∧ Below w.heap.size w wr)
    case atStart => exact ⟨0, (L - is.length).toNat, Nat.zero_le _, by simp, rfl, (by rw [Int.toNat_of_nonneg (by omega)]), by simp [itot]; omega, Below.refl _ _⟩
    case round =>
      obtain ⟨k, m, hk, hq, rfl, rfl, hm, hb⟩ := hrel
      have HB := hid hb
      have hm2 : m ≤ 1048576 := by omega
      clear hb
      by_cases hlt : k < is.length
      · obtain ⟨⟨x, y, ns⟩, hp⟩ : ∃ p, is[k]? = some p := ⟨_, List.getElem?_eq_getElem hlt⟩
        obtain ⟨b, off, a', c', rfl, k0, k1, k2, hsp, z0, z1, hbl⟩ := si_at (HS.out.below HB.out) hp
        have HSP := hid hsp
        have hit := itot_take is k _ hp
        have hile := itot_le is (k + 1)
        have hiw : iw (x, y, ns) = x.size + y.size + ns.length + tot ns := rfl
        rw [hiw] at hit
        have hm0 : (0 : Int) ≤ m := by omega
        clear hsp hp hiw
        by_cases h3 : (x.size : Int) + y.size + ns.length + tot ns ≤ m
        · have hz : Hid (szI x y ns m = ((m - x.size - y.size - ns.length - tot ns : Nat) : Int)) := by show _ = _; unfold szI; rw [if_pos h3]; omega
          have HNX : Hid (((m - x.size - y.size - ns.length - tot ns : Nat) : Int) = L - is.length - itot (is.take (k + 1))) := by show _ = _; omega
          clear hm hit hile
          go_wp2_with (first
            | (go_at_call 30; refine (szInstance_any x y _ ns _ _ hm0 (by omega) z0 z1 HSP.out).mono ?_; rintro e w1 ⟨rfl, hb⟩; rw [hz.out]; have HB1 : Hid (Below w.heap.size w w1) := HB.out.trans (hb.mono HB.out.size); clear hb k0 k1 k2))
          go_roundg (gk - 1)
          case measure => omega
          case rel => exact ⟨k + 1, m - x.size - y.size - ns.length - tot ns, by omega, by omega, by go_num, rfl, HNX.out, HB1.out⟩
        · have hz : Hid (szI x y ns m = -1) := by show _ = _; unfold szI; rw [if_neg h3]
          have hR : Hid (szII is L = -1) := by show _ = _; unfold szII; rw [if_neg (by omega)]
          clear hm hit hile
          go_wp2_with (first
            | (go_at_call 30; refine (szInstance_any x y _ ns _ _ hm0 (by omega) z0 z1 HSP.out).mono ?_; rintro e w1 ⟨rfl, hb⟩; rw [hz.out]; have HB1 : Hid (Below w.heap.size w w1) := HB.out.trans (hb.mono HB.out.size); clear hb k0 k1 k2))
          go_ret
          exact ⟨ret_int hR.out.symm, HB1.out⟩
      · have hke : k = is.length := by omega
        have hR : Hid ((m : Int) = szII is L) := by
          show _ = _
          rw [hke, List.take_length] at hm
          unfold szII; rw [if_pos (by omega)]; omega
        clear hm
        go_wp2
        go_ret
        exact ⟨ret_int hR.out, HB.out⟩

set_option maxHeartbeats 2000000 in
theorem szWorld_any (v : Value) (cs : List BB) (is : List II) (L : Int) (w : World) (hL : 0 ≤ L) (h0 : L ≤ 1048576) (hs : WR w v cs is) :
    Calls Try.prog 4 #[v, .int .i64 L] w fun e w' => e = .returned (.int .i64 (szW cs is L)) ∧ Below w.heap.size w w' := by
  obtain ⟨x, y, rfl, h1, h2⟩ := hs
  obtain ⟨a, cap, rfl⟩ := sp_slice h1
  obtain ⟨a', cap', rfl⟩ := si_slice h2
  have HB0 : Hid (Below w.heap.size w (w.alloc (.cells #[.slice a cs.length cap, .slice a' is.length cap'] 25))) := (Below.refl _ _).alloc (Nat.le_refl _) _
  have H1 := hid (h1.below HB0.out)
  have H2 := hid h2
  clear h1 h2
  by_cases h3 : (cs.length : Int) + tot cs ≤ L
  rotate_left
  · have hz : Hid (szP cs L = -1) := by show _ = _; unfold szP; rw [if_neg h3]
    have hR : Hid (szW cs is L = -1) := by show _ = _; unfold szW; rw [if_neg (by omega)]
    go_enter Try.func4, Try.ntmps4
    go_wp2_with (first
      | (go_at_call 15; refine (szClassS_any _ cs _ _ hL h0 H1.out).mono ?_; rintro e w1 ⟨rfl, hb⟩; rw [hz.out]; have HB1 : Hid (Below w.heap.size w w1) := HB0.out.trans (hb.mono (by simp)); clear hb))
    go_ret
    exact ⟨ret_int hR.out.symm, HB1.out⟩
  · obtain ⟨m, hm⟩ : ∃ m : Nat, (m : Int) = L - cs.length - tot cs := ⟨(L - cs.length - tot cs).toNat, by omega⟩
    have hz : Hid (szP cs L = m) := by show _ = _; unfold szP; rw [if_pos h3]; omega
    have hm1 : m ≤ 1048576 := by omega
    by_cases h4 : (is.length : Int) + itot is ≤ m
    · have hz2 : Hid (szII is m = ((m - is.length - itot is : Nat) : Int)) := by show _ = _; unfold szII; rw [if_pos h4]; omega
      have hR : Hid (((m - is.length - itot is : Nat) : Int) = szW cs is L) := by show _ = _; unfold szW; rw [if_pos (by omega)]; omega
      clear hm
      go_enter Try.func4, Try.ntmps4
      go_wp2_with (first
        | (go_at_call 15; refine (szClassS_any _ cs _ _ hL h0 H1.out).mono ?_; rintro e w1 ⟨rfl, hb⟩; rw [hz.out]; have bx := below_heap hb (by simp) (heap_alloc_new _ _); have k1 := heap_cell bx 1; have HB1 : Hid (Below w.heap.size w w1) := HB0.out.trans (hb.mono (by simp)); have hzz : w.heap.size < w1.heap.size := lt_of_heap bx; clear hb bx)
        | (go_at_call 16; refine (szInstanceS_any _ is _ _ (by omega) (by omega) (H2.out.below HB1.out)).mono ?_; rintro e w2 ⟨rfl, hb⟩; rw [hz2.out]; have HB2 : Hid (Below w.heap.size w w2) := HB1.out.trans (hb.mono HB1.out.size); clear hb))
      go_ret
      exact ⟨ret_int hR.out, HB2.out⟩
    · have hz2 : Hid (szII is m = -1) := by show _ = _; unfold szII; rw [if_neg h4]
      have hR : Hid (szW cs is L = -1) := by show _ = _; unfold szW; rw [if_neg (by omega)]
      clear hm
      go_enter Try.func4, Try.ntmps4
      go_wp2_with (first
        | (go_at_call 15; refine (szClassS_any _ cs _ _ hL h0 H1.out).mono ?_; rintro e w1 ⟨rfl, hb⟩; rw [hz.out]; have bx := below_heap hb (by simp) (heap_alloc_new _ _); have k1 := heap_cell bx 1; have HB1 : Hid (Below w.heap.size w w1) := HB0.out.trans (hb.mono (by simp)); have hzz : w.heap.size < w1.heap.size := lt_of_heap bx; clear hb bx)
        | (go_at_call 16; refine (szInstanceS_any _ is _ _ (by omega) (by omega) (H2.out.below HB1.out)).mono ?_; rintro e w2 ⟨rfl, hb⟩; rw [hz2.out]; have HB2 : Hid (Below w.heap.size w w2) := HB1.out.trans (hb.mono HB1.out.size); clear hb))
      go_ret
      exact ⟨ret_int hR.out.symm, HB2.out⟩

/-! the copy of a slice of instances -/
def TI (wr : World) (g n k : Nat) (is : List II) : Prop :=
  ∃ cs, wr.heap[g]? = some (.cells cs 50 (0, 0)) ∧ cs.size = n * 3 ∧ ∀ (i : Nat) (p : II), i < k → is[i]? = some p → cs[i * 3]? = some (.string p.1) ∧ cs[i * 3 + 1]? = some (.string p.2.1) ∧
    ∃ g2, g < g2 ∧ cs[i * 3 + 2]? = some (.slice (some ⟨g2, 0, none⟩) p.2.2.length p.2.2.length) ∧ wr.heap[g2]? = some (.cells (flat p.2.2).toArray 38 (0, 0))
theorem TI.below {wr w' : World} {g n k : Nat} {is : List II} (h : TI wr g n k is) (hb : Below wr.heap.size wr w') : TI w' g n k is := by
  obtain ⟨cs, h1, h2, h3⟩ := h
  refine ⟨cs, below_heap hb (lt_of_heap h1) h1, h2, fun i p hi hp => ?_⟩
  obtain ⟨q1, q2, g2, q3, q4, q5⟩ := h3 i p hi hp
  exact ⟨q1, q2, g2, q3, q4, below_heap hb (lt_of_heap q5) q5⟩
theorem TI.set {wr : World} {g n k : Nat} {is : List II} (h : TI wr g n k is) (hk : k < n) {a b : ByteArray} {ns : List BB} (hp : is[k]? = some (a, b, ns)) {g2 : Nat} (hg : g < g2) (h2 : wr.heap[g2]? = some (.cells (flat ns).toArray 38 (0, 0))) :
    TI (((wr.setCell ⟨g, k * 3, none⟩ (.string a)).setCell ⟨g, k * 3 + 1, none⟩ (.string b)).setCell ⟨g, k * 3 + 2, none⟩ (.slice (some ⟨g2, 0, none⟩) ns.length ns.length)) g n (k + 1) is := by
  obtain ⟨cs, h1, hs, h3⟩ := h
  have keep : ∀ (x : Nat) (o : Obj), g < x → wr.heap[x]? = some o → (((wr.setCell ⟨g, k * 3, none⟩ (.string a)).setCell ⟨g, k * 3 + 1, none⟩ (.string b)).setCell ⟨g, k * 3 + 2, none⟩ (.slice (some ⟨g2, 0, none⟩) ns.length ns.length)).heap[x]? = some o := fun x o hx ho =>
    hb_set_ne (hb_set_ne (hb_set_ne ho _ _ (by show x ≠ g; omega)) _ _ (by show x ≠ g; omega)) _ _ (by show x ≠ g; omega)
  refine ⟨_, heap_set (heap_set (heap_set h1 _ _) _ _) _ _, by simp [hs], fun i p hi hp2 => ?_⟩
  by_cases hik : i = k
  · subst hik
    rw [hp] at hp2
    cases hp2
    refine ⟨?_, ?_, g2, hg, ?_, keep _ _ hg h2⟩
    · rw [Array.getElem?_setIfInBounds_ne (by omega), Array.getElem?_setIfInBounds_ne (by omega), Array.getElem?_setIfInBounds_self_of_lt (by rw [hs]; omega)]
    · rw [Array.getElem?_setIfInBounds_ne (by omega), Array.getElem?_setIfInBounds_self_of_lt (by simp [hs]; omega)]
    · rw [Array.getElem?_setIfInBounds_self_of_lt (by simp [hs]; omega)]
  · obtain ⟨q1, q2, g3, q3, q4, q5⟩ := h3 i p (by omega) hp2
    refine ⟨?_, ?_, g3, q3, ?_, keep _ _ q3 q5⟩
    · rw [Array.getElem?_setIfInBounds_ne (by omega), Array.getElem?_setIfInBounds_ne (by omega), Array.getElem?_setIfInBounds_ne (by omega)]; exact q1
    · rw [Array.getElem?_setIfInBounds_ne (by omega), Array.getElem?_setIfInBounds_ne (by omega), Array.getElem?_setIfInBounds_ne (by omega)]; exact q2
    · rw [Array.getElem?_setIfInBounds_ne (by omega), Array.getElem?_setIfInBounds_ne (by omega), Array.getElem?_setIfInBounds_ne (by omega)]; exact q4
/-- sizes of a slice of instances -/
def SZ (is : List II) : Prop := is.length ≤ maxLen ∧ ∀ p ∈ is, p.1.size ≤ maxLen ∧ p.2.1.size ≤ maxLen ∧ p.2.2.length ≤ maxLen ∧ ∀ q ∈ p.2.2, q.1.size ≤ maxLen ∧ q.2.size ≤ maxLen
theorem SI.sizes {w : World} {v : Value} {is : List II} (h : SI w v is) : SZ is := by
  rcases h with ⟨rfl, _⟩ | ⟨b, off, cap, rfl, hn, hc⟩
  · exact ⟨by simp, by simp⟩
  · refine ⟨hn, fun p hp => ?_⟩
    obtain ⟨i, hi⟩ := List.getElem?_of_mem hp
    obtain ⟨_, _, z0, z1, a, n, c, _, hs⟩ := hc i p hi
    exact ⟨z0, z1, hs.sizes.1, hs.sizes.2⟩
theorem TI.si {wr : World} {g cap : Nat} {is : List II} (h : TI wr g is.length is.length is) (hz : SZ is) : SI wr (.slice (some ⟨g, 0, none⟩) is.length cap) is := by
  obtain ⟨cs, h1, hs, h3⟩ := h
  refine .inr ⟨g, 0, cap, rfl, hz.1, fun i p hp => ?_⟩
  have hlt := (List.getElem?_eq_some_iff.1 hp).1
  obtain ⟨q1, q2, g2, q3, q4, q5⟩ := h3 i p hlt hp
  obtain ⟨z0, z1, z2, z3⟩ := hz.2 p (List.mem_of_getElem? hp)
  rw [Nat.zero_add]
  exact ⟨(heap_cell h1 _).trans q1, (heap_cell h1 _).trans q2, z0, z1, _, _, _, (heap_cell h1 _).trans q4, SP.of_heap q5 z2 z3⟩
theorem toInstanceS_info : (Try.prog.info? 50).map (fun i => (i.zero, i.size, i.bytes)) = some (some (.agg #[.string ⟨#[]⟩, .string ⟨#[]⟩, .slice none 0 0]), 3, 56) := by kernel_rfl
theorem toInstanceS_make (n : Nat) (h : n ≤ 1048576) (w : World) : ∃ cs, cs.size = n * 3 ∧ (Instr.makeSlice 34 (.int .i64 (n : Int)) (.int .i64 (n : Int))).run Try.prog w = .ok (.slice (some ⟨w.heap.size, 0, none⟩) n n) (w.alloc (.cells cs 50)) := by
  obtain ⟨i, hi, hz⟩ := Option.map_eq_some_iff.1 toInstanceS_info
  simp only [Prod.mk.injEq] at hz
  have hr := run_make (P := Try.prog) w 34 50 i _ Try.underlying34 hi hz.1 .i64 .i64 n n (by omega) (Int.le_refl _) (by rw [hz.2.2]; omega) (by omega)
  refine ⟨_, ?_, hr⟩
  simp [hz.2.1, madeCells]
def SIPost (w : World) (is : List II) (en : Ending) (w' : World) : Prop :=
  ∃ g, en = .returned (.slice (some ⟨g, 0, none⟩) is.length is.length) ∧ w.heap.size ≤ g ∧ TI w' g is.length is.length is ∧ Below w.heap.size w w'
set_option maxHeartbeats 2000000 in
theorem toInstanceS_any (v : Value) (is : List II) (w : World) (h0 : is.length ≤ 1048576) (hb0 : ∀ p ∈ is, p.2.2.length ≤ 1048576) (hs : SI w v is) :
    Calls Try.prog 20 #[v] w (SIPost w is) := by
  obtain ⟨a, cap, rfl⟩ := si_slice hs
  have HS := hid hs
  have HZ := hid hs.sizes
  have HB0 := hid hb0
  obtain ⟨cs, hcs, hmk⟩ := toInstanceS_make is.length h0 w
  clear hs hb0
  go_enter Try.func20, Try.ntmps20
  go_wp2
  clear hmk
  go_loopg [4] is.length (fun q i wr => ∃ k : Nat, k ≤ is.length ∧ is.length - k ≤ q ∧ i = .int .i64 k ∧ TI wr w.heap.size is.length k is ∧ Below w.heap.size w wr)
  case atStart => exact ⟨0, Nat.zero_le _, by simp, rfl, ⟨cs, heap_alloc_new _ _, hcs, fun i p hi => by omega⟩, (Below.refl _ _).alloc (Nat.le_refl _) _⟩
  case round =>
    obtain ⟨k, hk, hq, rfl, hti, hb⟩ := hrel
    have HTI := hid hti
    have HB := hid hb
    clear hti hb
    by_cases hlt : k < is.length
    · obtain ⟨⟨x, y, ns⟩, hp⟩ : ∃ p, is[k]? = some p := ⟨_, List.getElem?_eq_getElem hlt⟩
      obtain ⟨b, off, a', c', rfl, k0, k1, k2, hsp, z0, z1, hbl⟩ := si_at (HS.out.below HB.out) hp
      have HSP := hid hsp
      have HP := hid hp
      have hnl : Hid (ns.length ≤ 1048576) := HB0.out (x, y, ns) (List.mem_of_getElem? hp)
      obtain ⟨cs2, hh, hcz, _⟩ := HTI.out
      have hgz := lt_of_heap hh
      clear hsp hp hh
      go_wp2_with fail
      refine (toInstance_any x y _ ns _ hnl.out HSP.out).mono ?_
      rintro e w1 ⟨g2, rfl, hg2, hh2, -, hb⟩
      have HTI1 := hid (HTI.out.below hb)
      obtain ⟨cs3, hh3, hcz3, _⟩ := HTI1.out
      have m0 : w1.cell? ⟨w.heap.size, k * 3, none⟩ = cs3[k * 3]? := heap_cell hh3 _
      have m1 : w1.cell? ⟨w.heap.size, k * 3 + 1, none⟩ = cs3[k * 3 + 1]? := heap_cell hh3 _
      have m2 : w1.cell? ⟨w.heap.size, k * 3 + 2, none⟩ = cs3[k * 3 + 2]? := heap_cell hh3 _
      rw [Array.getElem?_eq_getElem (by omega)] at m0 m1 m2
      have f0 := heap_free hh3 (k * 3)
      have f1 := heap_free hh3 (k * 3 + 1)
      have f2 := heap_free hh3 (k * 3 + 2)
      have HB1 : Hid (Below w.heap.size w w1) := HB.out.trans (hb.mono HB.out.size)
      have HH2 := hid hh2
      have hgg : w.heap.size < g2 := by omega
      generalize cs3[k * 3]'_ = u0 at *
      generalize cs3[k * 3 + 1]'_ = u1 at *
      generalize cs3[k * 3 + 2]'_ = u2 at *
      clear hb hh2 hh3 k0 k1 k2
      go_wp2_with fail
      go_roundg (gk - 1)
      case measure => omega
      case rel => exact ⟨k + 1, by omega, by omega, by go_num, HTI1.out.set hlt HP.out hgg HH2.out, ((HB1.out.setCell (Nat.le_refl _) _).setCell (Nat.le_refl _) _).setCell (Nat.le_refl _) _⟩
    · obtain rfl : k = is.length := by omega
      go_wp2
      go_ret
      exact ⟨w.heap.size, rfl, Nat.le_refl _, HTI.out, HB.out⟩

theorem TI.low {wr : World} {g n k : Nat} {is : List II} (h : TI wr g n k is) {a : Addr} (u : Value) (ha : a.block < g) : TI (wr.setCell a u) g n k is := by
  obtain ⟨cs, h1, h2, h3⟩ := h
  refine ⟨cs, hb_set_ne h1 _ _ (by omega), h2, fun i p hi hp => ?_⟩
  obtain ⟨q1, q2, g2, q3, q4, q5⟩ := h3 i p hi hp
  exact ⟨q1, q2, g2, q3, q4, hb_set_ne q5 _ _ (by omega)⟩
/-- a world that a call made: its classes in block g1, its instances in block g2 and behind it -/
def WO (lo : Nat) (w : World) (g1 g2 : Nat) (cs : List BB) (is : List II) : Prop := lo ≤ g1 ∧ g1 < g2 ∧ w.heap[g1]? = some (.cells (flat cs).toArray 77 (0, 0)) ∧ TI w g2 is.length is.length is
def WPost (w : World) (cs : List BB) (is : List II) (e : Ending) (w' : World) : Prop := ∃ g1 g2, e = .returned (.agg #[.slice (some ⟨g1, 0, none⟩) cs.length cs.length, .slice (some ⟨g2, 0, none⟩) is.length is.length]) ∧ SP w' (.slice (some ⟨g1, 0, none⟩) cs.length cs.length) cs ∧ SI w' (.slice (some ⟨g2, 0, none⟩) is.length is.length) is ∧ WO w.heap.size w' g1 g2 cs is ∧ Below w.heap.size w w'
set_option maxHeartbeats 2000000 in
theorem toWorld_any (v : Value) (cs : List BB) (is : List II) (w : World) (hc0 : cs.length ≤ 1048576) (h0 : is.length ≤ 1048576) (hb0 : ∀ p ∈ is, p.2.2.length ≤ 1048576) (hs : WR w v cs is) :
    Calls Try.prog 7 #[v] w (WPost w cs is) := by
  obtain ⟨x, y, rfl, h1, h2⟩ := hs
  obtain ⟨a, cap, rfl⟩ := sp_slice h1
  obtain ⟨a', cap', rfl⟩ := si_slice h2
  have HZC := hid h1.sizes
  have HZI := hid h2.sizes
  have HB3 : Hid (Below w.heap.size w (((w.alloc (.cells #[.slice a cs.length cap, .slice a' is.length cap'] 25)).alloc (.cells #[.slice none 0 0, .slice none 0 0] 36)).alloc (.cells #[.slice none 0 0, .slice none 0 0] 36))) := (((Below.refl _ _).alloc (Nat.le_refl _) _).alloc (by simp) _).alloc (by simp; omega) _
  have H1 := hid (h1.below HB3.out)
  have H2 := hid h2
  have HN := hid hb0
  clear h1 h2 hb0
  go_enter Try.func7, Try.ntmps7
  go_wp2_with fail
  refine (toClassS_any _ cs _ hc0 H1.out).mono ?_
  rintro e w1 ⟨g1, rfl, hg1, hh1, -, hb⟩
  have x0 := below_heap hb (by simp; omega) (hb_alloc (hb_alloc (heap_alloc_new w (.cells #[.slice a cs.length cap, .slice a' is.length cap'] 25)) _) _)
  have x1 := below_heap hb (by simp) (hb_alloc (hb_new2 w (.cells #[.slice a cs.length cap, .slice a' is.length cap'] 25) (.cells #[.slice none 0 0, .slice none 0 0] 36) _ rfl) (.cells #[.slice none 0 0, .slice none 0 0] 36))
  have x2 := below_heap hb (by simp) (hb_new3 w (.cells #[.slice a cs.length cap, .slice a' is.length cap'] 25) (.cells #[.slice none 0 0, .slice none 0 0] 36) (.cells #[.slice none 0 0, .slice none 0 0] 36))
  have k01 : w1.cell? ⟨w.heap.size, 1, none⟩ = some (.slice a' is.length cap') := heap_cell x0 1
  have k20 : w1.cell? ⟨w.heap.size + 1 + 1, 0, none⟩ = some (.slice none 0 0) := heap_cell x2 0
  have f20 := heap_free x2 0
  have HB1 : Hid (Below w.heap.size w w1) := HB3.out.trans (hb.mono (by simp; omega))
  have hz := hb.size
  simp only [World.size_alloc] at hz hg1
  have hzb : w.heap.size < w1.heap.size := by omega
  have hzc : w.heap.size + 1 + 1 < w1.heap.size := by omega
  have X1 := hid x1
  have X2 := hid x2
  have X0 := hid x0
  have HH1 := hid hh1
  clear hb x0 x1 x2 hh1
  go_wp2_with fail
  refine (toInstanceS_any _ is _ h0 HN.out (H2.out.below (HB1.out.setCell (by simp; omega) _))).mono ?_
  rintro e w2 ⟨g2, rfl, hg2, hti, hb⟩
  have y2 := below_heap hb (by simp; omega) (heap_set X2.out 0 (.slice (some ⟨g1, 0, none⟩) cs.length cs.length))
  have y1 := below_heap hb (by simp; omega) (hb_set_ne X1.out ⟨w.heap.size + 1 + 1, 0, none⟩ (.slice (some ⟨g1, 0, none⟩) cs.length cs.length) (by simp))
  have z1 := below_heap hb (by simp; exact lt_of_heap HH1.out) (hb_set_ne HH1.out ⟨w.heap.size + 1 + 1, 0, none⟩ (.slice (some ⟨g1, 0, none⟩) cs.length cs.length) (by simp; omega))
  have k20 : w2.cell? ⟨w.heap.size + 1 + 1, 0, none⟩ = some (.slice (some ⟨g1, 0, none⟩) cs.length cs.length) := heap_cell y2 0
  have k21 : w2.cell? ⟨w.heap.size + 1 + 1, 1, none⟩ = some (.slice none 0 0) := heap_cell y2 1
  have f21 := heap_free y2 1
  have k10 : w2.cell? ⟨w.heap.size + 1, 0, none⟩ = some (.slice none 0 0) := heap_cell y1 0
  have k11 : w2.cell? ⟨w.heap.size + 1, 1, none⟩ = some (.slice none 0 0) := heap_cell y1 1
  have f10 := heap_free y1 0
  have f11 := heap_free y1 1
  have hz3 := hb.size
  simp only [World.size_setCell] at hz3 hg2
  have HB2 : Hid (Below w.heap.size w w2) := (HB1.out.setCell (by simp; omega) _).trans (hb.mono (by simp; omega))
  have Y1 := hid y1
  have Z1 := hid z1
  have HTI := hid hti
  have hl1 : w.heap.size + 1 < w2.heap.size := by omega
  have hl2 : w.heap.size + 1 + 1 < w2.heap.size := by omega
  clear hb y1 y2 z1 hti
  go_wp2
  refine bodyPost_ret (results_cell_row rfl _ _ (w.heap.size + 1) 36 #[.slice (some ⟨g1, 0, none⟩) cs.length cs.length, .slice (some ⟨g2, 0, none⟩) is.length is.length] (0, 0) _ rfl (heap_set (heap_set (hb_set_ne Y1.out _ _ (by simp)) 0 _) 1 _) Try.underlying36 rfl (by kernel_rfl)) rfl ?_
  have HG1 := hb_set_ne (hb_set_ne (hb_set_ne Z1.out ⟨w.heap.size + 1 + 1, 1, none⟩ (.slice (some ⟨g2, 0, none⟩) is.length is.length) (by simp; omega)) ⟨w.heap.size + 1, 0, none⟩ (.slice (some ⟨g1, 0, none⟩) cs.length cs.length) (by simp; omega)) ⟨w.heap.size + 1, 1, none⟩ (.slice (some ⟨g2, 0, none⟩) is.length is.length) (by simp; omega)
  have HG2 := ((HTI.out.low (a := ⟨w.heap.size + 1 + 1, 1, none⟩) (.slice (some ⟨g2, 0, none⟩) is.length is.length) (by simp; omega)).low (a := ⟨w.heap.size + 1, 0, none⟩) (.slice (some ⟨g1, 0, none⟩) cs.length cs.length) (by simp; omega)).low (a := ⟨w.heap.size + 1, 1, none⟩) (.slice (some ⟨g2, 0, none⟩) is.length is.length) (by simp; omega)
  have hg12 : g1 < g2 := by have := lt_of_heap HH1.out; omega
  exact ⟨g1, g2, rfl, SP.of_heap HG1 HZC.out.1 HZC.out.2, HG2.si HZI.out, ⟨by omega, hg12, HG1, HG2⟩, ((HB2.out.setCell (by simp; omega) _).setCell (by simp) _).setCell (by simp) _⟩
set_option maxHeartbeats 2000000 in
theorem eqInstanceS_same (v v' : Value) (is : List II) (w : World) (hs : SI w v is) (hs' : SI w v' is) :
    Calls Try.prog 26 #[v, v'] w fun e w' => e = .returned (.bool true) ∧ Below w.heap.size w w' := by
  have hn := hs.sizes.1
  unfold maxLen at hn
  obtain ⟨a, cap, rfl⟩ := si_slice hs
  obtain ⟨a', cap', rfl⟩ := si_slice hs'
  have HS := hid hs
  have HS' := hid hs'
  clear hs hs'
  go_enter Try.func26, Try.ntmps26
  go_wp2
  go_loopg [5] is.length (fun q i wr => ∃ k : Nat, k ≤ is.length ∧ is.length - k ≤ q ∧ i = .int .i64 k ∧ Below w.heap.size w wr)
  case atStart => exact ⟨0, Nat.zero_le _, by simp, rfl, Below.refl _ _⟩
  case round =>
    obtain ⟨k, hk, hq, rfl, hb⟩ := hrel
    have HB := hid hb
    have hbz := hb.size
    clear hb
    by_cases hlt : k < is.length
    · obtain ⟨⟨x, y, ns⟩, hp⟩ : ∃ p, is[k]? = some p := ⟨_, List.getElem?_eq_getElem hlt⟩
      obtain ⟨b, off, u, c, rfl, k0, k1, k2, hsp, z0, z1, hbl⟩ := si_at (HS.out.below HB.out) hp
      obtain ⟨b', off', u', c', rfl, l0, l1, l2, hsp', z0', z1', hbl'⟩ := si_at (HS'.out.below HB.out) hp
      have HSP := hid hsp
      have HSP' := hid hsp'
      clear hsp hsp' hp
      go_wp2
      refine wp_region_any (by kernel_rfl) ?_
      change wpAny _ _ _ _ _ _ _ (World.drew _)
      refine wpAny_take (i := 0) (v := .slice (some ⟨b, off, none⟩) is.length cap) rfl (by kernel_rfl) (by kernel_rfl) (by kernel_rfl) (fun _ _ _ h => h) (Or.inl ⟨by rfl, fun _ => by go_simp⟩) ?_
      refine wpAny_take (i := 1) (v := .int .i64 k) rfl (by kernel_rfl) (by kernel_rfl) (by kernel_rfl) (fun _ _ _ h => h) (Or.inl ⟨by rfl, fun _ => by go_simp⟩) ?_
      refine wpAny_take (i := 2) (v := .pointer (some ⟨b, off + k * 3, none⟩)) rfl (by kernel_rfl) (by kernel_rfl) (by kernel_rfl) (fun _ _ _ h => h) (Or.inl ⟨by rfl, fun _ => by go_simp⟩) ?_
      refine wpAny_take (i := 4) (v := .slice (some ⟨b', off', none⟩) is.length cap') rfl (by kernel_rfl) (by kernel_rfl) (by kernel_rfl) (fun _ _ _ h => h) (Or.inl ⟨by rfl, fun _ => by go_simp⟩) ?_
      refine wpAny_take (i := 5) (v := .int .i64 k) rfl (by kernel_rfl) (by kernel_rfl) (by kernel_rfl) (fun _ _ _ h => h) (Or.inl ⟨by rfl, fun _ => by go_simp⟩) ?_
      refine wpAny_take (i := 6) (v := .pointer (some ⟨b', off' + k * 3, none⟩)) rfl (by kernel_rfl) (by kernel_rfl) (by kernel_rfl) (fun _ _ _ h => h) (Or.inl ⟨by rfl, fun _ => by go_simp⟩) ?_
      refine wpAny_of_T (S := fun X => X.cell? ⟨b, off + k * 3, none⟩ = some (.string x) ∧ X.cell? ⟨b, off + k * 3 + 1, none⟩ = some (.string y) ∧ X.cell? ⟨b, off + k * 3 + 2, none⟩ = some (.slice u ns.length c) ∧ X.cell? ⟨b', off' + k * 3, none⟩ = some (.string x) ∧ X.cell? ⟨b', off' + k * 3 + 1, none⟩ = some (.string y) ∧ X.cell? ⟨b', off' + k * 3 + 2, none⟩ = some (.slice u' ns.length c')) (m := 10) _ _ _ _ ?_
      refine wpAnyT_take (i := 3) (v := .agg #[.string x, .string y, .slice u ns.length c]) rfl (by kernel_rfl) (by kernel_rfl) (by kernel_rfl) (by kernel_rfl) (fun _ _ _ h => h) (Or.inl ⟨by rfl, fun X hS => by obtain ⟨e0, e1, e2, e3, e4, e5⟩ := hS; clear k0 k1 k2 l0 l1 l2; go_simp⟩) ⟨k0, k1, k2, l0, l1, l2⟩ ?_
      refine wpAnyT_take (i := 7) (v := .agg #[.string x, .string y, .slice u' ns.length c']) rfl (by kernel_rfl) (by kernel_rfl) (by kernel_rfl) (by kernel_rfl) (fun _ _ _ h => h) (Or.inl ⟨by rfl, fun X hS => by obtain ⟨e0, e1, e2, e3, e4, e5⟩ := hS; clear k0 k1 k2 l0 l1 l2; go_simp⟩) ⟨k0, k1, k2, l0, l1, l2⟩ ?_
      refine wpAnyT_one 8 rfl (by kernel_rfl) (fun K hK => ?_)
      go_simp
      refine (eqInstance_same x y _ _ ns wr.drew HSP.out HSP'.out).mono ?_
      rintro e w2 ⟨rfl, hb⟩
      have S2 : w2.cell? ⟨b, off + k * 3, none⟩ = some (.string x) ∧ w2.cell? ⟨b, off + k * 3 + 1, none⟩ = some (.string y) ∧ w2.cell? ⟨b, off + k * 3 + 2, none⟩ = some (.slice u ns.length c) ∧ w2.cell? ⟨b', off' + k * 3, none⟩ = some (.string x) ∧ w2.cell? ⟨b', off' + k * 3 + 1, none⟩ = some (.string y) ∧ w2.cell? ⟨b', off' + k * 3 + 2, none⟩ = some (.slice u' ns.length c') := ⟨(hb.cell (lt_of_cell k0)).trans k0, (hb.cell (lt_of_cell k1)).trans k1, (hb.cell (lt_of_cell k2)).trans k2, (hb.cell (lt_of_cell l0)).trans l0, (hb.cell (lt_of_cell l1)).trans l1, (hb.cell (lt_of_cell l2)).trans l2⟩
      refine hK _ _ (fun _ => S2) ?_
      clear hK K
      refine wpAnyT_one 9 rfl (by kernel_rfl) (fun K hK => ?_)
      go_simp
      refine hK _ _ (fun _ => S2) ?_
      clear hK K
      refine wpAnyT_drop _ 10 _ _ _ (by decide) (by kernel_rfl) ?_
      change wpList _ _ _ [] _ _
      have HB2 : Hid (Below w.heap.size w w2) := hid (HB.out.drew.trans (hb.mono HB.out.size))
      clear hb k0 k1 k2 l0 l1 l2 S2
      go_wp2
      go_roundg (gk - 1)
      case measure => omega
      case rel => exact ⟨k + 1, by omega, by omega, by go_num, HB2.out⟩
    · go_wp2
      go_ret
      exact ⟨rfl, HB.out⟩
theorem eqWorld_same (v v' : Value) (cs : List BB) (is : List II) (w : World) (hs : WR w v cs is) (hs' : WR w v' cs is) :
    Calls Try.prog 11 #[v, v'] w fun e w' => e = .returned (.bool true) ∧ Below w.heap.size w w' := by
  obtain ⟨x, y, rfl, h1, h2⟩ := hs
  obtain ⟨a, cap, rfl⟩ := sp_slice h1
  obtain ⟨b, cap', rfl⟩ := si_slice h2
  obtain ⟨x', y', rfl, h1', h2'⟩ := hs'
  obtain ⟨a', capp, rfl⟩ := sp_slice h1'
  obtain ⟨b', capp', rfl⟩ := si_slice h2'
  have hB0 : Hid (Below w.heap.size w ((w.alloc (.cells #[.slice a cs.length cap, .slice b is.length cap'] 36)).alloc (.cells #[.slice a' cs.length capp, .slice b' is.length capp'] 36))) := ((Below.refl _ _).alloc (Nat.le_refl _) _).alloc (by simp) _
  have H1 := hid (h1.below hB0.out)
  have H1' := hid (h1'.below hB0.out)
  have H2 := hid h2
  have H2' := hid h2'
  clear h1 h1' h2 h2'
  go_enter Try.func11, Try.ntmps11
  go_wp2_with fail
  refine (eqClassS_same _ _ cs _ H1.out H1'.out).mono ?_
  rintro e w1 ⟨rfl, hb⟩
  have x0 := below_heap hb (by simp; omega) (hb_alloc (heap_alloc_new w _) _)
  have x1 := below_heap hb (by simp) (hb_new2 w _ _ _ rfl)
  have k01 : w1.cell? ⟨w.heap.size, 1, none⟩ = some (.slice b is.length cap') := heap_cell x0 1
  have k11 : w1.cell? ⟨w.heap.size + 1, 1, none⟩ = some (.slice b' is.length capp') := heap_cell x1 1
  have HB1 : Hid (Below w.heap.size w w1) := hB0.out.trans (hb.mono (by simp; omega))
  have hz := hb.size
  simp only [World.size_alloc] at hz
  have hz1 : w.heap.size + 1 < w1.heap.size := by omega
  have hz2 : w.heap.size < w1.heap.size := by omega
  clear hb x0 x1
  go_wp2_with fail
  refine (eqInstanceS_same _ _ is _ (H2.out.below HB1.out) (H2'.out.below HB1.out)).mono ?_
  rintro e w2 ⟨rfl, hb⟩
  have HB2 : Hid (Below w.heap.size w w2) := HB1.out.trans (hb.mono HB1.out.size)
  clear hb
  go_wp2
  go_ret
  exact ⟨rfl, HB2.out⟩

end Go.Proofs.Ytcjalnianamlaaa
