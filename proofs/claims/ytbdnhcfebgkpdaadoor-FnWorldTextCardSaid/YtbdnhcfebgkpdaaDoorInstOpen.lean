/- How an argument that is an instance (a struct of two texts, and a slice of such) is opened. Conditions: those typed. -/
import Derived.Test.YtbdnhcfebgkpdaaDoorPairs
import Derived.Deep.Fields
set_option linter.unusedVariables false
set_option linter.unusedSimpArgs false
namespace Go.Proofs.YtbdnhcfebgkpdaaDoor
open Go.RowKit Go.ChangeShapes Go.WideShapes Go.Deep
section
variable {H : Type} {enc : TypeId × Value → H} {P : Program} {w : World} {base : Nat} {spare : Nat → Bool} {held : Bool}
theorem pairs_trod {t e : TypeId} {f0 f1 : Field} {fuel : Nat} {v : Value} {x : DataW H × List MemPlace} (ht : P.underlying t = some (.slice e)) (he : P.underlying e = some (.struct #[f0, f1]))
    (ce : P.cellsOf e = 2) (o0 : f0.offset = 0) (o1 : f1.offset = 1) (c0 : P.cellsOf f0.type = 1) (c1 : P.cellsOf f1.type = 1) (s0 : P.underlying f0.type = some .string) (s1 : P.underlying f1.type = some .string)
    (hf : DataW.trod enc P w base spare held fuel t [v] = some x) : ∃ xs, SP w v xs := by
  rcases open_slice_pairs ht he ce o0 o1 c0 c1 hf with ⟨hcs, hx⟩ | ⟨a, len, cap, m, n, V0, V1, D0, D1, P0, P1, hcs, hb, hlc, hm, hmm, hx, hi⟩
  · simp only [List.cons.injEq, and_true] at hcs
    exact ⟨[], .inl ⟨rfl, _, _, hcs⟩⟩
  · simp only [List.cons.injEq, and_true] at hcs
    subst hcs
    have hlm : len ≤ m := by rw [hmm]; split <;> omega
    have each : ∀ i, i < m → ∃ p : BB, w.cell? (a.add (i * 2)) = some (.string p.1) ∧ w.cell? (a.add (i * 2 + 1)) = some (.string p.2) ∧ p.1.size ≤ maxLen ∧ p.2.size ≤ maxLen := fun i hlt => by
      obtain ⟨h0, h1, h2, h3⟩ := hi i hlt
      obtain ⟨x, hx, -, hxs⟩ := DataW.trod_string s0 h2
      obtain ⟨y, hy, -, hys⟩ := DataW.trod_string s1 h3
      simp only [List.cons.injEq, and_true] at hx hy
      exact ⟨(x, y), by rw [h0, hx], by rw [h1, hy], hxs, hys⟩
    let f : Nat → BB := fun i => if hlt : i < m then (each i hlt).choose else (ByteArray.empty, ByteArray.empty)
    have hf : ∀ i, i < m → w.cell? (a.add (i * 2)) = some (.string (f i).1) ∧ w.cell? (a.add (i * 2 + 1)) = some (.string (f i).2) ∧ (f i).1.size ≤ maxLen ∧ (f i).2.size ≤ maxLen := fun i hlt => by
      have := (each i hlt).choose_spec
      simp only [f, hlt, dite_true]
      exact this
    by_cases hl0 : len = 0
    · subst hl0
      exact ⟨[], .inl ⟨rfl, _, _, rfl⟩⟩
    obtain ⟨b, off, spot⟩ := a
    obtain rfl : spot = none := by simpa [Addr.add] using World.cell?_spot (hf 0 (by omega)).1
    simp only [add_plain] at hf
    refine ⟨(List.range len).map f, .inr ⟨b, off, cap, by simp, by simp; omega, fun i p hp => ?_⟩⟩
    rw [List.getElem?_map] at hp
    obtain ⟨k, hk, rfl⟩ := Option.map_eq_some_iff.1 hp
    obtain ⟨hl, rfl⟩ := List.getElem?_eq_some_iff.1 hk
    simp only [List.length_range] at hl
    simp only [List.getElem_range]
    exact hf i (by omega)

theorem open_inst {r : Reach} {b0 : Nat} {t : TypeId} {f0 f1 g0 g1 : Field} {v : Value} {d : DataW H} {p : List MemPlace} (hs : P.underlying t = some (.struct #[f0, f1])) (hC : P.cellsOf t = 3)
    (o0 : f0.offset = 0) (o1 : f1.offset = 2) (c0 : P.cellsOf f0.type = 2) (c1 : P.cellsOf f1.type = 1) (hn : P.underlying f0.type = some (.struct #[g0, g1]))
    (po0 : g0.offset = 0) (po1 : g1.offset = 1) (pc0 : P.cellsOf g0.type = 1) (pc1 : P.cellsOf g1.type = 1) (s0 : P.underlying g0.type = some .string) (s1 : P.underlying g1.type = some .string)
    (hsl : P.underlying f1.type = some (.slice f0.type))
    (hv : Value.okWide P w r b0 t v) (h : DataW.Trod enc P w base spare held t v d p) :
    ∃ (a b : ByteArray) (u : Value) (xs : List BB), v = .agg #[.string a, .string b, u] ∧ a.size ≤ maxLen ∧ b.size ≤ maxLen ∧ SP w u xs := by
  obtain ⟨cs, rfl, hsz⟩ := okWide_struct hs hv
  obtain ⟨l⟩ := cs
  match l, hsz.trans hC with
  | [x0, x1, x2], _ =>
    obtain ⟨fuel, hf⟩ := h
    obtain ⟨xs, n, _, hx, _, hlen, hg⟩ := DataW.trod_struct hs hf
    have h0 := hg 0 f0 rfl
    have h1 := hg 1 f1 rfl
    rw [o0, c0] at h0
    rw [o1, c1] at h1
    match xs, hlen with
    | [y0, y1], _ =>
      simp [Value.cells] at h0 h1
      obtain ⟨ys, n2, _, _, _, hlen2, hg2⟩ := DataW.trod_struct hn h0
      have q0 := hg2 0 g0 rfl
      have q1 := hg2 1 g1 rfl
      rw [po0, pc0] at q0
      rw [po1, pc1] at q1
      match ys, hlen2 with
      | [z0, z1], _ =>
        simp at q0 q1
        obtain ⟨a, ha, -, has⟩ := DataW.trod_string s0 q0
        obtain ⟨b, hb, -, hbs⟩ := DataW.trod_string s1 q1
        simp only [List.cons.injEq, and_true] at ha hb
        subst ha hb
        obtain ⟨ps, hp⟩ := pairs_trod hsl hn c0 po0 po1 pc0 pc1 s0 s1 h1
        exact ⟨a, b, x2, ps, rfl, has, hbs, hp⟩
end
end Go.Proofs.YtbdnhcfebgkpdaaDoor
