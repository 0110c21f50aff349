/- The laws' size, copy and comparison of slices of instances, and of worlds. Conditions: those typed. -/
import Derived.Test.YtbdnhcfebgkpdaaDoorWorldOpen
import Derived.Test.YtbdnhcfebgkpdaaDoorInst
import Derived.Test.YtbdnhcfebgkpdaaDoorClassS
import Derived.Deep.LoopGhost
set_option linter.unusedVariables false
set_option linter.unusedSimpArgs false
set_option maxRecDepth 100000
namespace Go.Proofs.YtbdnhcfebgkpdaaDoor
open Go.RowKit

def iw (p : II) : Nat := p.1.size + p.2.1.size + p.2.2.length + tot p.2.2
def itot (is : List II) : Nat := (is.map iw).sum
theorem itot_take (is : List II) (k : Nat) (p : II) (h : is[k]? = some p) : itot (is.take (k + 1)) = itot (is.take k) + iw p := by
  obtain ⟨hlt, rfl⟩ := List.getElem?_eq_some_iff.1 h
  unfold itot
  rw [List.take_succ_eq_append_getElem hlt]
  simp only [List.map_append, List.sum_append, List.map_cons, List.map_nil, List.sum_cons, List.sum_nil, Nat.add_zero]
theorem itot_app (xs ys : List II) : itot (xs ++ ys) = itot xs + itot ys := by simp [itot]
theorem itot_le (is : List II) (k : Nat) : itot (is.take k) ≤ itot is := by
  have := itot_app (is.take k) (is.drop k)
  rw [List.take_append_drop] at this
  omega
def szII (is : List II) (L : Int) : Int := if (is.length : Int) + itot is ≤ L then L - is.length - itot is else -1
def szW (cs : List BB) (is : List II) (L : Int) : Int := if (cs.length : Int) + tot cs + is.length + itot is ≤ L then L - cs.length - tot cs - is.length - itot is else -1

/-! the copy of a slice of instances -/
def TI (wr : World) (g n k : Nat) (is : List II) : Prop :=
  ∃ cs, wr.heap[g]? = some (.cells cs 28 (0, 0)) ∧ cs.size = n * 3 ∧ ∀ (i : Nat) (p : II), i < k → is[i]? = some p → cs[i * 3]? = some (.string p.1) ∧ cs[i * 3 + 1]? = some (.string p.2.1) ∧
    ∃ g2, g < g2 ∧ cs[i * 3 + 2]? = some (.slice (some ⟨g2, 0, none⟩) p.2.2.length p.2.2.length) ∧ wr.heap[g2]? = some (.cells (flat p.2.2).toArray 25 (0, 0))
theorem TI.below {wr w' : World} {g n k : Nat} {is : List II} (h : TI wr g n k is) (hb : Below wr.heap.size wr w') : TI w' g n k is := by
  obtain ⟨cs, h1, h2, h3⟩ := h
  refine ⟨cs, below_heap hb (lt_of_heap h1) h1, h2, fun i p hi hp => ?_⟩
  obtain ⟨q1, q2, g2, q3, q4, q5⟩ := h3 i p hi hp
  exact ⟨q1, q2, g2, q3, q4, below_heap hb (lt_of_heap q5) q5⟩
theorem TI.set {wr : World} {g n k : Nat} {is : List II} (h : TI wr g n k is) (hk : k < n) {a b : ByteArray} {ns : List BB} (hp : is[k]? = some (a, b, ns)) {g2 : Nat} (hg : g < g2) (h2 : wr.heap[g2]? = some (.cells (flat ns).toArray 25 (0, 0))) :
    TI (((wr.setCell ⟨g, k * 3, none⟩ (.string a)).setCell ⟨g, k * 3 + 1, none⟩ (.string b)).setCell ⟨g, k * 3 + 2, none⟩ (.slice (some ⟨g2, 0, none⟩) ns.length ns.length)) g n (k + 1) is := by
  obtain ⟨cs, h1, hs, h3⟩ := h
  have keep : ∀ (x : Nat) (o : Obj), g < x → wr.heap[x]? = some o → (((wr.setCell ⟨g, k * 3, none⟩ (.string a)).setCell ⟨g, k * 3 + 1, none⟩ (.string b)).setCell ⟨g, k * 3 + 2, none⟩ (.slice (some ⟨g2, 0, none⟩) ns.length ns.length)).heap[x]? = some o := fun x o hx ho =>
    hb_set_ne (hb_set_ne (hb_set_ne ho _ _ (by show x ≠ g; omega)) _ _ (by show x ≠ g; omega)) _ _ (by show x ≠ g; omega)
  refine ⟨_, heap_set (heap_set (heap_set h1 _ _) _ _) _ _, by simp [hs], fun i p hi hp2 => ?_⟩
  by_cases hik : i = k
  · subst hik
    rw [hp] at hp2
    cases hp2
    refine ⟨?_, ?_, g2, hg, ?_, keep _ _ hg h2⟩
    · rw [Array.getElem?_setIfInBounds_ne (by omega), Array.getElem?_setIfInBounds_ne (by omega), Array.getElem?_setIfInBounds_self_of_lt (by rw [hs]; omega)]
    · rw [Array.getElem?_setIfInBounds_ne (by omega), Array.getElem?_setIfInBounds_self_of_lt (by simp [hs]; omega)]
    · rw [Array.getElem?_setIfInBounds_self_of_lt (by simp [hs]; omega)]
  · obtain ⟨q1, q2, g3, q3, q4, q5⟩ := h3 i p (by omega) hp2
    refine ⟨?_, ?_, g3, q3, ?_, keep _ _ q3 q5⟩
    · rw [Array.getElem?_setIfInBounds_ne (by omega), Array.getElem?_setIfInBounds_ne (by omega), Array.getElem?_setIfInBounds_ne (by omega)]; exact q1
    · rw [Array.getElem?_setIfInBounds_ne (by omega), Array.getElem?_setIfInBounds_ne (by omega), Array.getElem?_setIfInBounds_ne (by omega)]; exact q2
    · rw [Array.getElem?_setIfInBounds_ne (by omega), Array.getElem?_setIfInBounds_ne (by omega), Array.getElem?_setIfInBounds_ne (by omega)]; exact q4
/-- sizes of a slice of instances -/
def SZ (is : List II) : Prop := is.length ≤ maxLen ∧ ∀ p ∈ is, p.1.size ≤ maxLen ∧ p.2.1.size ≤ maxLen ∧ p.2.2.length ≤ maxLen ∧ ∀ q ∈ p.2.2, q.1.size ≤ maxLen ∧ q.2.size ≤ maxLen
theorem SI.sizes {w : World} {v : Value} {is : List II} (h : SI w v is) : SZ is := by
  rcases h with ⟨rfl, _⟩ | ⟨b, off, cap, rfl, hn, hc⟩
  · exact ⟨by simp, by simp⟩
  · refine ⟨hn, fun p hp => ?_⟩
    obtain ⟨i, hi⟩ := List.getElem?_of_mem hp
    obtain ⟨_, _, z0, z1, a, n, c, _, hs⟩ := hc i p hi
    exact ⟨z0, z1, hs.sizes.1, hs.sizes.2⟩
theorem TI.si {wr : World} {g cap : Nat} {is : List II} (h : TI wr g is.length is.length is) (hz : SZ is) : SI wr (.slice (some ⟨g, 0, none⟩) is.length cap) is := by
  obtain ⟨cs, h1, hs, h3⟩ := h
  refine .inr ⟨g, 0, cap, rfl, hz.1, fun i p hp => ?_⟩
  have hlt := (List.getElem?_eq_some_iff.1 hp).1
  obtain ⟨q1, q2, g2, q3, q4, q5⟩ := h3 i p hlt hp
  obtain ⟨z0, z1, z2, z3⟩ := hz.2 p (List.mem_of_getElem? hp)
  rw [Nat.zero_add]
  exact ⟨(heap_cell h1 _).trans q1, (heap_cell h1 _).trans q2, z0, z1, _, _, _, (heap_cell h1 _).trans q4, SP.of_heap q5 z2 z3⟩
theorem toInstanceS_info : (Tryd.prog.info? 28).map (fun i => (i.zero, i.size, i.bytes)) = some (some (.agg #[.string ⟨#[]⟩, .string ⟨#[]⟩, .slice none 0 0]), 3, 56) := by kernel_rfl
theorem toInstanceS_make (n : Nat) (h : n ≤ 1048576) (w : World) : ∃ cs, cs.size = n * 3 ∧ (Instr.makeSlice 40 (.int .i64 (n : Int)) (.int .i64 (n : Int))).run Tryd.prog w = .ok (.slice (some ⟨w.heap.size, 0, none⟩) n n) (w.alloc (.cells cs 28)) := by
  obtain ⟨i, hi, hz⟩ := Option.map_eq_some_iff.1 toInstanceS_info
  simp only [Prod.mk.injEq] at hz
  have hr := run_make (P := Tryd.prog) w 40 28 i _ Tryd.underlying40 hi hz.1 .i64 .i64 n n (by omega) (Int.le_refl _) (by rw [hz.2.2]; omega) (by omega)
  refine ⟨_, ?_, hr⟩
  simp [hz.2.1, madeCells]
def SIPost (w : World) (is : List II) (en : Ending) (w' : World) : Prop :=
  ∃ g, en = .returned (.slice (some ⟨g, 0, none⟩) is.length is.length) ∧ w.heap.size ≤ g ∧ TI w' g is.length is.length is ∧ Below w.heap.size w w'
theorem TI.low {wr : World} {g n k : Nat} {is : List II} (h : TI wr g n k is) {a : Addr} (u : Value) (ha : a.block < g) : TI (wr.setCell a u) g n k is := by
  obtain ⟨cs, h1, h2, h3⟩ := h
  refine ⟨cs, hb_set_ne h1 _ _ (by omega), h2, fun i p hi hp => ?_⟩
  obtain ⟨q1, q2, g2, q3, q4, q5⟩ := h3 i p hi hp
  exact ⟨q1, q2, g2, q3, q4, hb_set_ne q5 _ _ (by omega)⟩
/-- a world that a call made: its classes in block g1, its instances in block g2 and behind it -/
def WO (lo : Nat) (w : World) (g1 g2 : Nat) (cs : List BB) (is : List II) : Prop := lo ≤ g1 ∧ g1 < g2 ∧ w.heap[g1]? = some (.cells (flat cs).toArray 69 (0, 0)) ∧ TI w g2 is.length is.length is
def WPost (w : World) (cs : List BB) (is : List II) (e : Ending) (w' : World) : Prop := ∃ g1 g2, e = .returned (.agg #[.slice (some ⟨g1, 0, none⟩) cs.length cs.length, .slice (some ⟨g2, 0, none⟩) is.length is.length]) ∧ SP w' (.slice (some ⟨g1, 0, none⟩) cs.length cs.length) cs ∧ SI w' (.slice (some ⟨g2, 0, none⟩) is.length is.length) is ∧ WO w.heap.size w' g1 g2 cs is ∧ Below w.heap.size w w'
end Go.Proofs.YtbdnhcfebgkpdaaDoor
