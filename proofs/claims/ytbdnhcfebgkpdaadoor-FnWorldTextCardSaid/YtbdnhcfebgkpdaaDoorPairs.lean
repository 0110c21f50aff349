/- Slices of pairs of texts: what it is for a slice to hold them, and how an argument is opened to them. Conditions: those typed. -/
import Derived.Test.YtbdnhcfebgkpdaaDoorRows
import Derived.WalkKit
import Derived.ProofKit
import Derived.Below
import Derived.Deep.SlicePairs
import Derived.Deep.Strs
import Derived.OpenShut
import Derived.ShutString
set_option linter.unusedVariables false
set_option linter.unusedSimpArgs false
namespace Go.Proofs.YtbdnhcfebgkpdaaDoor
open Go.RowKit Go.ChangeShapes Go.WideShapes Go.Deep

abbrev BB := ByteArray × ByteArray
theorem lt_of_cell {w : World} {a : Addr} {v : Value} (h : w.cell? a = some v) : a.block < w.heap.size := by
  rcases Nat.lt_or_ge a.block w.heap.size with hlt | hge
  · exact hlt
  · have : w.heap[a.block]? = none := Array.getElem?_eq_none_iff.2 hge
    simp [World.cell?, this] at h
/-- the slice v holds the pairs xs -/
def SP (w : World) (v : Value) (xs : List BB) : Prop :=
  (xs = [] ∧ ∃ a cap, v = .slice a 0 cap) ∨ ∃ (b off cap : Nat), v = .slice (some ⟨b, off, none⟩) xs.length cap ∧ xs.length ≤ maxLen ∧
    ∀ (i : Nat) (p : BB), xs[i]? = some p → w.cell? ⟨b, off + i * 2, none⟩ = some (.string p.1) ∧ w.cell? ⟨b, off + i * 2 + 1, none⟩ = some (.string p.2) ∧ p.1.size ≤ maxLen ∧ p.2.size ≤ maxLen
theorem SP.below {w w' : World} {v : Value} {xs : List BB} (h : SP w v xs) (hb : Below w.heap.size w w') : SP w' v xs := by
  rcases h with h | ⟨b, off, cap, hv, hn, hc⟩
  · exact .inl h
  · refine .inr ⟨b, off, cap, hv, hn, fun i p hp => ?_⟩
    obtain ⟨h0, h1, h2⟩ := hc i p hp
    exact ⟨(hb.cell (lt_of_cell h0)).trans h0, (hb.cell (lt_of_cell h1)).trans h1, h2⟩
/-- the sizes of pairs, together -/
def tot (xs : List BB) : Nat := (xs.map fun p => p.1.size + p.2.size).sum
theorem tot_app (xs ys : List BB) : tot (xs ++ ys) = tot xs + tot ys := by
  unfold tot
  rw [List.map_append, List.sum_append]
theorem tot_take (xs : List BB) (k : Nat) (p : BB) (h : xs[k]? = some p) : tot (xs.take (k + 1)) = tot (xs.take k) + (p.1.size + p.2.size) := by
  obtain ⟨hk, rfl⟩ := List.getElem?_eq_some_iff.1 h
  rw [List.take_succ_eq_append_getElem hk, tot_app]
  simp [tot]
theorem tot_le (xs : List BB) (k : Nat) : tot (xs.take k) ≤ tot xs := by
  have h := tot_app (xs.take k) (xs.drop k)
  rw [List.take_append_drop] at h
  omega
/-- what the laws' size of pairs returns -/
def szP (xs : List BB) (L : Int) : Int := if (xs.length : Int) + tot xs ≤ L then L - xs.length - tot xs else -1

/-- the cells of pairs, in order -/
def flat : List BB → List Value
  | [] => []
  | p :: xs => .string p.1 :: .string p.2 :: flat xs
theorem flat_len : ∀ xs : List BB, (flat xs).length = xs.length * 2
  | [] => rfl
  | p :: xs => by simp only [flat, List.length_cons, flat_len xs]; omega
theorem flat_get : ∀ (xs : List BB) (i : Nat) (p : BB), xs[i]? = some p → (flat xs)[i * 2]? = some (.string p.1) ∧ (flat xs)[i * 2 + 1]? = some (.string p.2)
  | [], i, p, h => by simp at h
  | q :: xs, 0, p, h => by simp at h; subst h; exact ⟨rfl, rfl⟩
  | q :: xs, i + 1, p, h => by
    have := flat_get xs i p (by simpa using h)
    rw [show (i + 1) * 2 = i * 2 + 1 + 1 by omega]
    simpa only [flat, List.getElem?_cons_succ] using this
theorem flat_set : ∀ (xs : List BB) (k : Nat) (p : BB), ((flat xs).set (k * 2) (.string p.1)).set (k * 2 + 1) (.string p.2) = flat (xs.set k p)
  | [], k, p => rfl
  | q :: xs, 0, p => rfl
  | q :: xs, k + 1, p => by
    rw [show (k + 1) * 2 = k * 2 + 1 + 1 by omega]
    simp only [flat, List.set_cons_succ, flat_set xs k p]
theorem flat_rep : ∀ n, flat (List.replicate n (⟨#[]⟩, ⟨#[]⟩)) = List.replicate (n * 2) (.string ⟨#[]⟩)
  | 0 => rfl
  | n + 1 => by
    rw [show (n + 1) * 2 = n * 2 + 1 + 1 by omega]
    simp only [List.replicate_succ, flat, flat_rep n]
theorem made_rep (n : Nat) : madeCells #[.string ⟨#[]⟩, .string ⟨#[]⟩] (n * 2) = (flat (List.replicate n (⟨#[]⟩, ⟨#[]⟩))).toArray := by
  rw [flat_rep]
  apply Array.ext
  · simp [madeCells]
  · intro i h1 h2
    simp only [madeCells, Array.getElem_map, Array.getElem_range, List.getElem_toArray, List.getElem_replicate]
    have : i % 2 = 0 ∨ i % 2 = 1 := by omega
    rcases this with h | h <;> simp [h]
/-- what a slice that is being filled holds behind k rounds -/
def fill (xs : List BB) (k : Nat) : List BB := xs.take k ++ List.replicate (xs.length - k) (⟨#[]⟩, ⟨#[]⟩)
theorem fill_zero (xs : List BB) : fill xs 0 = List.replicate xs.length (⟨#[]⟩, ⟨#[]⟩) := by simp [fill]
theorem fill_all (xs : List BB) : fill xs xs.length = xs := by simp [fill]
theorem fill_succ (xs : List BB) (k : Nat) (h : k < xs.length) : (fill xs k).set k xs[k] = fill xs (k + 1) := by
  have hl : (xs.take k).length = k := by simp; omega
  unfold fill
  rw [List.take_succ_eq_append_getElem h, show xs.length - k = (xs.length - (k + 1)) + 1 by omega, List.replicate_succ, List.set_append_right _ _ (by omega), hl, Nat.sub_self]
  simp only [List.set_cons_zero, List.append_assoc, List.cons_append, List.nil_append]
theorem SP.of_heap {w : World} {g : Nat} {e : TypeId} {xs : List BB} {cap : Nat} (h : w.heap[g]? = some (.cells (flat xs).toArray e (0, 0))) (hn : xs.length ≤ maxLen) (hz : ∀ p ∈ xs, p.1.size ≤ maxLen ∧ p.2.size ≤ maxLen) :
    SP w (.slice (some ⟨g, 0, none⟩) xs.length cap) xs := by
  refine .inr ⟨g, 0, cap, rfl, hn, fun i p hp => ?_⟩
  obtain ⟨h0, h1⟩ := flat_get xs i p hp
  refine ⟨?_, ?_, hz p (List.mem_of_getElem? hp)⟩
  · simp [World.cell?, h]; simpa using h0
  · simp [World.cell?, h]; simpa using h1
theorem SP.sizes {w : World} {v : Value} {xs : List BB} (h : SP w v xs) : xs.length ≤ maxLen ∧ ∀ p ∈ xs, p.1.size ≤ maxLen ∧ p.2.size ≤ maxLen := by
  rcases h with ⟨rfl, _⟩ | ⟨b, off, cap, hv, hn, hc⟩
  · exact ⟨by simp, by simp⟩
  · refine ⟨hn, fun p hp => ?_⟩
    obtain ⟨i, hi⟩ := List.getElem?_of_mem hp
    exact (hc i p hi).2.2
/-- a new slice of the element type e that holds the pairs xs -/
def RowPost (e : TypeId) (w : World) (xs : List BB) (en : Ending) (w' : World) : Prop :=
  ∃ g, en = .returned (.slice (some ⟨g, 0, none⟩) xs.length xs.length) ∧ w.heap.size ≤ g ∧ w'.heap[g]? = some (.cells (flat xs).toArray e (0, 0)) ∧ SP w' (.slice (some ⟨g, 0, none⟩) xs.length xs.length) xs ∧ Below w.heap.size w w'

section
variable {H : Type} {enc : TypeId × Value → H} {P : Program} {w : World} {base : Nat} {spare : Nat → Bool} {held : Bool}
theorem open_pairs {r : Reach} {b0 : Nat} {t e : TypeId} {f0 f1 : Field} {v : Value} {d : DataW H} {p : List MemPlace} (ht : P.underlying t = some (.slice e)) (he : P.underlying e = some (.struct #[f0, f1]))
    (ce : P.cellsOf e = 2) (o0 : f0.offset = 0) (o1 : f1.offset = 1) (c0 : P.cellsOf f0.type = 1) (c1 : P.cellsOf f1.type = 1) (s0 : P.underlying f0.type = some .string) (s1 : P.underlying f1.type = some .string)
    (hv : Value.okWide P w r b0 t v) (h : DataW.Trod enc P w base spare held t v d p) : ∃ xs, SP w v xs := by
  obtain ⟨a, len, cap, rfl⟩ := okWide_slice ht hv
  obtain ⟨fuel, hf⟩ := h
  rcases open_slice_pairs ht he ce o0 o1 c0 c1 hf with ⟨hcs, hx⟩ | ⟨a, len', cap', m, n, V0, V1, D0, D1, P0, P1, hcs, hb, hlc, hm, hmm, hx, hi⟩
  · simp [Value.cells] at hcs
    obtain ⟨rfl, rfl, rfl⟩ := hcs
    exact ⟨[], .inl ⟨rfl, _, _, rfl⟩⟩
  · simp [Value.cells] at hcs
    obtain ⟨rfl, rfl, rfl⟩ := hcs
    have hlm : len ≤ m := by rw [hmm]; split <;> omega
    have each : ∀ i, i < m → ∃ p : BB, w.cell? (a.add (i * 2)) = some (.string p.1) ∧ w.cell? (a.add (i * 2 + 1)) = some (.string p.2) ∧ p.1.size ≤ maxLen ∧ p.2.size ≤ maxLen := fun i hlt => by
      obtain ⟨h0, h1, h2, h3⟩ := hi i hlt
      obtain ⟨x, hx, -, hxs⟩ := DataW.trod_string s0 h2
      obtain ⟨y, hy, -, hys⟩ := DataW.trod_string s1 h3
      simp only [List.cons.injEq, and_true] at hx hy
      exact ⟨(x, y), by rw [h0, hx], by rw [h1, hy], hxs, hys⟩
    let f : Nat → BB := fun i => if hlt : i < m then (each i hlt).choose else (ByteArray.empty, ByteArray.empty)
    have hf : ∀ i, i < m → w.cell? (a.add (i * 2)) = some (.string (f i).1) ∧ w.cell? (a.add (i * 2 + 1)) = some (.string (f i).2) ∧ (f i).1.size ≤ maxLen ∧ (f i).2.size ≤ maxLen := fun i hlt => by
      have := (each i hlt).choose_spec
      simp only [f, hlt, dite_true]
      exact this
    by_cases hl0 : len = 0
    · subst hl0
      exact ⟨[], .inl ⟨rfl, _, _, rfl⟩⟩
    obtain ⟨b, off, spot⟩ := a
    obtain rfl : spot = none := by simpa [Addr.add] using World.cell?_spot (hf 0 (by omega)).1
    simp only [add_plain] at hf
    refine ⟨(List.range len).map f, .inr ⟨b, off, cap, by simp, by simp; omega, fun i p hp => ?_⟩⟩
    rw [List.getElem?_map] at hp
    obtain ⟨k, hk, rfl⟩ := Option.map_eq_some_iff.1 hp
    obtain ⟨hl, rfl⟩ := List.getElem?_eq_some_iff.1 hk
    simp only [List.length_range] at hl
    simp only [List.getElem_range]
    exact hf i (by omega)
end
end Go.Proofs.YtbdnhcfebgkpdaaDoor
