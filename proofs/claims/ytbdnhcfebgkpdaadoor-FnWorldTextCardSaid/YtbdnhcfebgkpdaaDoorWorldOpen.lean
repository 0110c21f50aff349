/- How an argument that is a world (a struct of a slice of classes and a slice of instances) is opened. Conditions: those typed. -/
import Derived.Test.YtbdnhcfebgkpdaaDoorInstOpen
set_option linter.unusedVariables false
set_option linter.unusedSimpArgs false
namespace Go.Proofs.YtbdnhcfebgkpdaaDoor
open Go.RowKit Go.ChangeShapes Go.WideShapes Go.Deep

/-- an instance: its class, its type, its needs -/
abbrev II := ByteArray × ByteArray × List BB
/-- the slice v holds the instances is -/
def SI (w : World) (v : Value) (is : List II) : Prop :=
  (is = [] ∧ ∃ a cap, v = .slice a 0 cap) ∨ ∃ (b off cap : Nat), v = .slice (some ⟨b, off, none⟩) is.length cap ∧ is.length ≤ maxLen ∧
    ∀ (i : Nat) (p : II), is[i]? = some p → w.cell? ⟨b, off + i * 3, none⟩ = some (.string p.1) ∧ w.cell? ⟨b, off + i * 3 + 1, none⟩ = some (.string p.2.1) ∧ p.1.size ≤ maxLen ∧ p.2.1.size ≤ maxLen ∧
      ∃ a n cap, w.cell? ⟨b, off + i * 3 + 2, none⟩ = some (.slice a n cap) ∧ SP w (.slice a n cap) p.2.2
theorem SI.below {w w' : World} {v : Value} {is : List II} (h : SI w v is) (hb : Below w.heap.size w w') : SI w' v is := by
  rcases h with h | ⟨b, off, cap, hv, hn, hc⟩
  · exact .inl h
  · refine .inr ⟨b, off, cap, hv, hn, fun i p hp => ?_⟩
    obtain ⟨h0, h1, h2, h3, a, n, c, h4, h5⟩ := hc i p hp
    exact ⟨(hb.cell (lt_of_cell h0)).trans h0, (hb.cell (lt_of_cell h1)).trans h1, h2, h3, a, n, c, (hb.cell (lt_of_cell h4)).trans h4, h5.below hb⟩
theorem sp_slice {w : World} {v : Value} {xs : List BB} (h : SP w v xs) : ∃ a cap, v = .slice a xs.length cap := by
  rcases h with ⟨rfl, a, cap, rfl⟩ | ⟨b, off, cap, rfl, _⟩
  · exact ⟨a, cap, rfl⟩
  · exact ⟨_, cap, rfl⟩
theorem si_slice {w : World} {v : Value} {xs : List II} (h : SI w v xs) : ∃ a cap, v = .slice a xs.length cap := by
  rcases h with ⟨rfl, a, cap, rfl⟩ | ⟨b, off, cap, rfl, _⟩
  · exact ⟨a, cap, rfl⟩
  · exact ⟨_, cap, rfl⟩
theorem sp_at {w : World} {a : Option Addr} {cap : Nat} {xs : List BB} (h : SP w (.slice a xs.length cap) xs) {j : Nat} {x y : ByteArray} (hj : xs[j]? = some (x, y)) : ∃ b off, a = some ⟨b, off, none⟩ ∧ w.cell? ⟨b, off + j * 2, none⟩ = some (.string x) ∧ w.cell? ⟨b, off + j * 2 + 1, none⟩ = some (.string y) ∧ x.size ≤ maxLen ∧ y.size ≤ maxLen ∧ b < w.heap.size := by
  rcases h with ⟨rfl, a, cap, h⟩ | ⟨b, off, cap, h, hn, hc⟩
  · simp at hj
  · cases h
    obtain ⟨h1, h2, h3, h4⟩ := hc j _ hj
    exact ⟨b, off, rfl, h1, h2, h3, h4, lt_of_cell h1⟩
theorem si_at {w : World} {a : Option Addr} {cap : Nat} {xs : List II} (h : SI w (.slice a xs.length cap) xs) {j : Nat} {x y : ByteArray} {ns : List BB} (hj : xs[j]? = some (x, y, ns)) : ∃ b off a' c', a = some ⟨b, off, none⟩ ∧ w.cell? ⟨b, off + j * 3, none⟩ = some (.string x) ∧ w.cell? ⟨b, off + j * 3 + 1, none⟩ = some (.string y) ∧ w.cell? ⟨b, off + j * 3 + 2, none⟩ = some (.slice a' ns.length c') ∧ SP w (.slice a' ns.length c') ns ∧ x.size ≤ maxLen ∧ y.size ≤ maxLen ∧ b < w.heap.size := by
  rcases h with ⟨rfl, a, cap, h⟩ | ⟨b, off, cap, h, hn, hc⟩
  · simp at hj
  · cases h
    obtain ⟨h1, h2, h3, h4, a', n, c', h5, h6⟩ := hc j _ hj
    obtain ⟨a2, c2, e⟩ := sp_slice h6
    cases e
    exact ⟨b, off, a', c', rfl, h1, h2, h5, h6, h3, h4, lt_of_cell h1⟩
/-- the world v holds these classes and instances -/
def WR (w : World) (v : Value) (cs : List BB) (is : List II) : Prop := ∃ x y, v = .agg #[x, y] ∧ SP w x cs ∧ SI w y is
theorem WR.below {w w' : World} {v : Value} {cs : List BB} {is : List II} (h : WR w v cs is) (hb : Below w.heap.size w w') : WR w' v cs is := by
  obtain ⟨x, y, rfl, h1, h2⟩ := h
  exact ⟨x, y, rfl, h1.below hb, h2.below hb⟩

section
variable {H : Type} {enc : TypeId × Value → H} {P : Program} {w : World} {base : Nat} {spare : Nat → Bool} {held : Bool}
theorem insts_trod {t e : TypeId} {f0 f1 g0 g1 : Field} {fuel : Nat} {v : Value} {x : DataW H × List MemPlace} (ht : P.underlying t = some (.slice e)) (hs : P.underlying e = some (.struct #[f0, f1])) (hC : P.cellsOf e = 3)
    (o0 : f0.offset = 0) (o1 : f1.offset = 2) (c0 : P.cellsOf f0.type = 2) (c1 : P.cellsOf f1.type = 1) (hn : P.underlying f0.type = some (.struct #[g0, g1]))
    (po0 : g0.offset = 0) (po1 : g1.offset = 1) (pc0 : P.cellsOf g0.type = 1) (pc1 : P.cellsOf g1.type = 1) (s0 : P.underlying g0.type = some .string) (s1 : P.underlying g1.type = some .string)
    (hsl : P.underlying f1.type = some (.slice f0.type))
    (hf : DataW.trod enc P w base spare held fuel t [v] = some x) : ∃ is, SI w v is := by
  rcases open_slice ht hf with ⟨hcs, hx⟩ | ⟨a, len, cap, m, n, D, Pl, hcs, hb, hlc, hm, hmm, hx, hi⟩
  · simp only [List.cons.injEq, and_true] at hcs
    exact ⟨[], .inl ⟨rfl, _, _, hcs⟩⟩
  · simp only [List.cons.injEq, and_true] at hcs
    subst hcs
    have hlm : len ≤ m := by rw [hmm]; split <;> omega
    have each : ∀ i, i < m → ∃ p : II, w.cell? (a.add (i * 3)) = some (.string p.1) ∧ w.cell? (a.add (i * 3 + 1)) = some (.string p.2.1) ∧ p.1.size ≤ maxLen ∧ p.2.1.size ≤ maxLen ∧ ∃ a' n cap, w.cell? (a.add (i * 3 + 2)) = some (.slice a' n cap) ∧ SP w (.slice a' n cap) p.2.2 := fun i hlt => by
      obtain ⟨cs', h1, h2⟩ := hi i hlt
      rw [hC] at h1
      obtain ⟨_, hlen, hcell⟩ := World.cells?_some h1
      obtain ⟨xs, k, _, hxx, _, hlen2, hg⟩ := DataW.trod_struct hs h2
      have q0 := hg 0 f0 rfl
      have q1 := hg 1 f1 rfl
      rw [o0, c0] at q0
      rw [o1, c1] at q1
      have e0 := hcell 0 (by omega)
      have e1 := hcell 1 (by omega)
      have e2 := hcell 2 (by omega)
      rw [add_add] at e0 e1 e2
      match cs', hlen, xs, hlen2 with
      | [x0, x1, x2], _, [y0, y1], _ =>
        simp at q0 q1
        obtain ⟨ys, n2, _, _, _, hlen3, hg2⟩ := DataW.trod_struct hn q0
        have r0 := hg2 0 g0 rfl
        have r1 := hg2 1 g1 rfl
        rw [po0, pc0] at r0
        rw [po1, pc1] at r1
        match ys, hlen3 with
        | [z0, z1], _ =>
          simp at r0 r1
          obtain ⟨p, hp, -, hps⟩ := DataW.trod_string s0 r0
          obtain ⟨q, hq, -, hqs⟩ := DataW.trod_string s1 r1
          simp only [List.cons.injEq, and_true] at hp hq
          subst hp hq
          obtain ⟨ps, hpp⟩ := pairs_trod hsl hn c0 po0 po1 pc0 pc1 s0 s1 q1
          obtain ⟨a', c', rfl⟩ := sp_slice hpp
          exact ⟨(p, q, ps), by simpa using e0, by simpa using e1, hps, hqs, a', _, c', by simpa using e2, hpp⟩
    let f : Nat → II := fun i => if hlt : i < m then (each i hlt).choose else (ByteArray.empty, ByteArray.empty, [])
    have hf : ∀ i, i < m → w.cell? (a.add (i * 3)) = some (.string (f i).1) ∧ w.cell? (a.add (i * 3 + 1)) = some (.string (f i).2.1) ∧ (f i).1.size ≤ maxLen ∧ (f i).2.1.size ≤ maxLen ∧ ∃ a' n cap, w.cell? (a.add (i * 3 + 2)) = some (.slice a' n cap) ∧ SP w (.slice a' n cap) (f i).2.2 := fun i hlt => by
      have := (each i hlt).choose_spec
      simp only [f, hlt, dite_true]
      exact this
    by_cases hl0 : len = 0
    · subst hl0
      exact ⟨[], .inl ⟨rfl, _, _, rfl⟩⟩
    obtain ⟨b, off, spot⟩ := a
    obtain rfl : spot = none := by simpa [Addr.add] using World.cell?_spot (hf 0 (by omega)).1
    simp only [add_plain] at hf
    refine ⟨(List.range len).map f, .inr ⟨b, off, cap, by simp, by simp; omega, fun i p hp => ?_⟩⟩
    rw [List.getElem?_map] at hp
    obtain ⟨k, hk, rfl⟩ := Option.map_eq_some_iff.1 hp
    obtain ⟨hl, rfl⟩ := List.getElem?_eq_some_iff.1 hk
    simp only [List.length_range] at hl
    simp only [List.getElem_range]
    exact hf i (by omega)

theorem open_world {r : Reach} {b0 : Nat} {t ec ei : TypeId} {fc fi k0 k1 f0 f1 g0 g1 : Field} {v : Value} {d : DataW H} {p : List MemPlace}
    (hw : P.underlying t = some (.struct #[fc, fi])) (hWC : P.cellsOf t = 2) (wo0 : fc.offset = 0) (wo1 : fi.offset = 1) (wc0 : P.cellsOf fc.type = 1) (wc1 : P.cellsOf fi.type = 1)
    (hcl : P.underlying fc.type = some (.slice ec)) (hil : P.underlying fi.type = some (.slice ei))
    (hce : P.underlying ec = some (.struct #[k0, k1])) (kce : P.cellsOf ec = 2) (ko0 : k0.offset = 0) (ko1 : k1.offset = 1) (kc0 : P.cellsOf k0.type = 1) (kc1 : P.cellsOf k1.type = 1) (ks0 : P.underlying k0.type = some .string) (ks1 : P.underlying k1.type = some .string)
    (hs : P.underlying ei = some (.struct #[f0, f1])) (hC : P.cellsOf ei = 3)
    (o0 : f0.offset = 0) (o1 : f1.offset = 2) (c0 : P.cellsOf f0.type = 2) (c1 : P.cellsOf f1.type = 1) (hn : P.underlying f0.type = some (.struct #[g0, g1]))
    (po0 : g0.offset = 0) (po1 : g1.offset = 1) (pc0 : P.cellsOf g0.type = 1) (pc1 : P.cellsOf g1.type = 1) (s0 : P.underlying g0.type = some .string) (s1 : P.underlying g1.type = some .string)
    (hsl : P.underlying f1.type = some (.slice f0.type))
    (hv : Value.okWide P w r b0 t v) (h : DataW.Trod enc P w base spare held t v d p) :
    ∃ (cs : List BB) (is : List II), WR w v cs is := by
  obtain ⟨cs, rfl, hsz⟩ := okWide_struct hw hv
  obtain ⟨l⟩ := cs
  match l, hsz.trans hWC with
  | [x0, x1], _ =>
    obtain ⟨fuel, hf⟩ := h
    obtain ⟨xs, n, _, hx, _, hlen, hg⟩ := DataW.trod_struct hw hf
    have h0 := hg 0 fc rfl
    have h1 := hg 1 fi rfl
    rw [wo0, wc0] at h0
    rw [wo1, wc1] at h1
    match xs, hlen with
    | [y0, y1], _ =>
      simp [Value.cells] at h0 h1
      obtain ⟨ps, hp⟩ := pairs_trod hcl hce kce ko0 ko1 kc0 kc1 ks0 ks1 h0
      obtain ⟨is, hi⟩ := insts_trod hil hs hC o0 o1 c0 c1 hn po0 po1 pc0 pc1 s0 s1 hsl h1
      exact ⟨ps, is, x0, x1, rfl, hp, hi⟩
end
end Go.Proofs.YtbdnhcfebgkpdaaDoor
