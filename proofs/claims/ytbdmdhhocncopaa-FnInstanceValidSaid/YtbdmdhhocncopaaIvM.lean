/- Plain facts about the variables of a type: how often they stand in it. Nothing of Go. Conditions: none. -/
import Derived.Test.YtbdmdhhocncopaaVarsS
import Derived.Test.YtbdmdhhocncopaaTypeFns
import Derived.Test.YtbdmdhhocncopaaWV
import Derived.Test.YtbdmdhhocncopaaOwnL
import Derived.Test.YtbdmdhhocncopaaWDM
set_option linter.unusedVariables false
set_option linter.unusedSimpArgs false
set_option maxRecDepth 100000
namespace Go.Proofs.Ytbdmdhhocncopaa
open Ty
namespace VSum
def vs (l : List UInt8) : Nat := (vlist.map fun v => l.count v).sum
theorem vs_app (x y : List UInt8) : vs (x ++ y) = vs x + vs y := by
  simp only [vs, vlist, List.map_cons, List.map_nil, List.sum_cons, List.sum_nil, List.count_append]
  omega
theorem vs_one (c : UInt8) : vs [c] ≤ 1 := by
  simp only [vs, vlist, List.map_cons, List.map_nil, List.sum_cons, List.sum_nil, List.count_singleton]
  by_cases h1 : c = 88
  · subst h1; decide
  by_cases h2 : c = 89
  · subst h2; decide
  by_cases h3 : c = 90
  · subst h3; decide
  by_cases h4 : c = 120
  · subst h4; decide
  by_cases h5 : c = 121
  · subst h5; decide
  simp only [beq_iff_eq, h1, h2, h3, h4, h5, if_false]
  split <;> omega
theorem vs_cons (c : UInt8) (x : List UInt8) : vs (c :: x) = vs [c] + vs x := vs_app [c] x
theorem vs_size : ∀ (t : Ty), vs t.text ≤ t.size
  | .leaf c => by simpa [Ty.text, Ty.size] using vs_one c
  | .one c t => by
    have h := vs_size t
    have h1 := vs_one c
    have h2 : vs [40] = 0 := by decide
    have h3 : vs [41] = 0 := by decide
    rw [Ty.text, vs_cons, vs_cons 40, vs_app, Ty.size]
    omega
  | .two c t u => by
    have h := vs_size t
    have h' := vs_size u
    have h1 := vs_one c
    have h2 : vs [40] = 0 := by decide
    have h3 : vs [41] = 0 := by decide
    have h4 : vs [44] = 0 := by decide
    rw [Ty.text, vs_cons, vs_cons 40, vs_app, vs_cons 44, vs_app, Ty.size]
    omega
theorem sum_filter (p : UInt8 → Bool) (f : UInt8 → Nat) : ∀ (xs : List UInt8), ((xs.filter p).map f).sum ≤ (xs.map f).sum
  | [] => by simp
  | x :: xs => by
    have h := sum_filter p f xs
    rw [List.filter_cons]
    split
    · simp only [List.map_cons, List.sum_cons]; omega
    · simp only [List.map_cons, List.sum_cons]; omega
/-- the sum of the first k counts -/
def part (l : List UInt8) (k : Nat) : Nat := (((varsL l).take k).map fun v => l.count v).sum
theorem part_step {l : List UInt8} {k : Nat} {v : UInt8} (h : (varsL l)[k]? = some v) : part l (k + 1) = part l k + l.count v := by
  obtain ⟨hk, hv⟩ := List.getElem?_eq_some_iff.1 h
  unfold part
  rw [List.take_succ_eq_append_getElem hk, hv, List.map_append, List.sum_append]
  simp
theorem count_small (l : List UInt8) (h : l.length ≤ 60) (v : UInt8) : l.count v ≤ 60 := Nat.le_trans List.count_le_length h
theorem part_small (l : List UInt8) (k : Nat) : part l k ≤ 1000000 := by
  cases h : ty l with
  | none =>
    have : varsL l = [] := by
      unfold varsL
      rw [List.filter_eq_nil_iff]
      intro v _
      simp [countI, h]
    unfold part
    rw [this]
    simp
  | some t =>
    have h1 := (ty_some h).2.2
    have h2 : ∀ (xs : List UInt8), (xs.map fun v => l.count v).sum ≤ xs.length * 60 := by
      intro xs
      induction xs with
      | nil => simp
      | cons x xs ih =>
        have := count_small l h1 x
        simp only [List.map_cons, List.sum_cons, List.length_cons]
        omega
    have h3 := h2 ((varsL l).take k)
    have h4 := varsL_len l
    have h5 : ((varsL l).take k).length ≤ 6 := by rw [List.length_take]; omega
    unfold part
    omega
theorem part_le {l : List UInt8} {t : Ty} (h : ty l = some t) : (part l (varsL l).length : Int) ≤ sizeI l := by
  have h1 := (ty_some h).1
  unfold part sizeI
  rw [List.take_length, h]
  have h2 := sum_filter (fun v => decide (0 < countI l [v])) (fun v => l.count v) vlist
  have h3 := vs_size t
  rw [← h1] at h3
  unfold vs at h3
  unfold varsL
  show (_ : Int) ≤ (t.size : Int)
  omega
theorem count_at {l : List UInt8} {k : Nat} {v : UInt8} (h : (varsL l)[k]? = some v) : countI l [v] = (l.count v : Int) ∧ 1 ≤ l.count v := by
  have hm := List.mem_of_getElem? h
  unfold varsL at hm
  have h2 := (List.mem_filter.1 hm).2
  have h3 : 0 < countI l [v] := by simpa using h2
  have h4 : countI l [v] = (l.count v : Int) := by
    unfold countI at h3 ⊢
    split at h3
    · rename_i h5
      rw [if_pos h5]
      simp only at h3 ⊢
      split at h3
      · rename_i h6
        rw [if_pos h6]
      · omega
    · omega
  exact ⟨h4, by omega⟩
theorem vars_none {l : List UInt8} (h : ty l = none) : varsL l = [] := by
  unfold varsL
  rw [List.filter_eq_nil_iff]
  intro v _
  simp [countI, h]
end VSum
end Go.Proofs.Ytbdmdhhocncopaa
set_option linter.unusedVariables false
set_option linter.unusedSimpArgs false
set_option maxRecDepth 100000
namespace Go.Proofs.Ytbdmdhhocncopaa
open Go.RowKit Known Classes Ty IV WV ListS IRow PWo
namespace IvL
theorem wide {cs : List BB} {is : List II} {p : II} (h : wvB cs is = true) (hl : is.length < 10) : wvB cs (is ++ [p]) = ivB cs p := by
  unfold wvB at h ⊢
  simp only [Bool.and_eq_true, decide_eq_true_eq] at h
  obtain ⟨h1, h2, h3⟩ := h
  rw [h1, List.all_append, h3]
  simp
  intro
  omega
theorem each {cs : List BB} {is : List II} {k : Nat} {p : II} (h : wvB cs is = true) (hk : is[k]? = some p) : ivB cs p = true := by
  unfold wvB at h
  simp only [Bool.and_eq_true] at h
  exact List.all_eq_true.1 h.2.2 p (List.mem_of_getElem? hk)
theorem vars_part (l : List UInt8) : ∀ k, k ≤ (varsL l).length → k ≤ VSum.part l k
  | 0, _ => Nat.zero_le _
  | k + 1, hk => by
    obtain ⟨v, hv⟩ : ∃ v, (varsL l)[k]? = some v := ⟨_, List.getElem?_eq_getElem (by omega)⟩
    have h1 := vars_part l k (by omega)
    have h2 := (VSum.count_at hv).2
    rw [VSum.part_step hv]
    omega
theorem inst {cs : List BB} {x y : List UInt8} {ns : List BB} (h : ivB cs (⟨x.toArray⟩, ⟨y.toArray⟩, ns) = true) : (ty y).isSome = true ∧ ns.length ≤ 3 ∧ ((varsL y).length : Int) < sizeI y + 1 := by
  unfold ivB at h
  simp only [Bool.and_eq_true, decide_eq_true_eq] at h
  obtain ⟨-, -, h1, -, -, h2, -⟩ := h
  refine ⟨h1, h2, ?_⟩
  obtain ⟨t, ht⟩ := Option.isSome_iff_exists.1 h1
  have h3 := VSum.part_le ht
  have h4 := vars_part y _ (Nat.le_refl _)
  omega
theorem size_small (l : List UInt8) (h : l.length ≤ 100) : sizeI l ≤ 1000000 ∧ -1 ≤ sizeI l := by
  unfold sizeI
  cases ht : ty l with
  | none => simp
  | some t =>
    have h1 : ∀ t : Ty, t.size ≤ t.text.length := by
      intro t
      induction t with
      | leaf c => simp [Ty.size, Ty.text]
      | one c t ih => simp [Ty.size, Ty.text]; omega
      | two c t u ih1 ih2 => simp [Ty.size, Ty.text]; omega
    have h2 := (ty_some ht).1
    have h3 := h1 t
    rw [← h2] at h3
    dsimp only
    omega
theorem si_weak {w : World} {base b2 n cap : Nat} {a : Option Addr} {is : List II} {vs : List Value} (ho : w.ownsRow base 39 3 (.slice a n cap) is.length (flatI is vs)) (hl : vs.length = is.length)
    (hr : ∀ (i : Nat) (p : II) (u : Value), is[i]? = some p → vs[i]? = some u → w.ownsRow b2 36 2 u p.2.2.length (flat p.2.2)) (ht : itot is ≤ 1048577) : SI w (.slice a n cap) is := by
  rcases ho.2 with ⟨h, h0⟩ | ⟨g, c, cur, h, hb, hg, h1, h2, h3, h4⟩
  · have hx := List.length_eq_zero_iff.1 h0
    cases h
    exact .inl ⟨hx, _, _, rfl⟩
  · cases h
    refine .inr ⟨g, 0, _, rfl, Nat.le_trans h1 h2, fun i p hp => ?_⟩
    have hi := (List.getElem?_eq_some_iff.1 hp).1
    have hu : vs[i]? = some (vs[i]'(by omega)) := List.getElem?_eq_getElem _
    obtain ⟨f0, f1, f2⟩ := flatI_get is vs i p _ hl hp hu
    have r0 := row_cell ho (i * 3) f0
    have r1 := row_cell ho (i * 3 + 1) f1
    have r2 := row_cell ho (i * 3 + 2) f2
    have hw := itot_at is i p hp
    unfold iw at hw
    have hrow := hr i p _ hp hu
    obtain ⟨a', c', he⟩ := row_slice hrow
    rw [he] at r2 hrow
    exact ⟨by simpa using r0, by simpa using r1, by unfold maxLen; omega, by unfold maxLen; omega, a', _, c', by simpa using r2, sp_of hrow (by omega)⟩
theorem addr_add (g j : Nat) : (⟨g, 0, none⟩ : Addr).add j = ⟨g, j, none⟩ := by unfold Addr.add; split <;> simp_all
/-- what the wider world's making keeps: the drawn world, the drawn instance, their boxes -/
structure PK (w W : World) (bw gc vc gi uc : Nat) (ta : Option Addr) (tc : Nat) (cs : List BB) (is : List II) (vs : List Value) (ns : List BB) (xl yl : List UInt8) : Prop where
  wB : Below w.heap.size w W
  wW : W.heap[bw]? = some (.cells #[.slice (some ⟨gc, 0, none⟩) cs.length vc, .slice (some ⟨gi, 0, none⟩) is.length uc] 26 (0, 0))
  wI : W.heap[bw + 1]? = some (.cells #[.string ⟨xl.toArray⟩, .string ⟨yl.toArray⟩, .slice ta ns.length tc] 39 (0, 0))
  wV : W.ownsRow w.heap.size 33 2 (.slice (some ⟨gc, 0, none⟩) cs.length vc) cs.length (flat cs)
  wR : W.ownsRow w.heap.size 39 3 (.slice (some ⟨gi, 0, none⟩) is.length uc) is.length (flatI is vs)
  wS : IRow.Rows W w.heap.size is vs
  wT : W.ownsRow w.heap.size 36 2 (.slice ta ns.length tc) ns.length (flat ns)
section
variable {w W W' : World} {bw gc vc gi uc : Nat} {ta : Option Addr} {tc : Nat} {cs : List BB} {is : List II} {vs : List Value} {ns : List BB} {xl yl : List UInt8}
theorem PK.below (h : PK w W bw gc vc gi uc ta tc cs is vs ns xl yl) (hb : Below W.heap.size W W') : PK w W' bw gc vc gi uc ta tc cs is vs ns xl yl :=
  ⟨h.wB.trans (hb.mono h.wB.size), below_heap hb (lt_of_heap h.wW) h.wW, below_heap hb (lt_of_heap h.wI) h.wI, row_below hb h.wV, row_below hb h.wR, h.wS.below hb, row_below hb h.wT⟩
theorem PK.nums (h : PK w W bw gc vc gi uc ta tc cs is vs ns xl yl) : w.heap.size ≤ W.heap.size ∧ bw + 1 < W.heap.size ∧ gi < W.heap.size := ⟨h.wB.size, lt_of_heap h.wI, (row_own h.wR gi rfl).2⟩
theorem PK.cells (h : PK w W bw gc vc gi uc ta tc cs is vs ns xl yl) : W.cell? ⟨bw, 0, none⟩ = some (.slice (some ⟨gc, 0, none⟩) cs.length vc) ∧ W.cell? ⟨bw, 1, none⟩ = some (.slice (some ⟨gi, 0, none⟩) is.length uc) ∧ W.cell? ⟨bw + 1, 0, none⟩ = some (.string ⟨xl.toArray⟩) ∧ W.cell? ⟨bw + 1, 1, none⟩ = some (.string ⟨yl.toArray⟩) ∧ W.cell? ⟨bw + 1, 2, none⟩ = some (.slice ta ns.length tc) :=
  ⟨heap_cell h.wW 0, heap_cell h.wW 1, heap_cell h.wI 0, heap_cell h.wI 1, heap_cell h.wI 2⟩
theorem gi_eq {b g n a : Nat} (h : (Value.slice (some ⟨b, 0, none⟩) n a).ownBlock = some g) : g = b := by
  have : b = g := by simpa [Value.ownBlock] using h
  exact this.symm
theorem PK.app {n : Nat} {v : Value} {xs : List Value} (h : PK w W bw gc vc gi uc ta tc cs is vs ns xl yl) (ho : W.ownsRow w.heap.size 39 3 v n xs) (hg : W.grownBy W' v.ownBlock) (hne : ∀ g, v.ownBlock = some g → g ≠ bw + 1 ∧ g ≠ gi) : PK w W' bw gc vc gi uc ta tc cs is vs ns xl yl :=
  ⟨h.wB.grown hg h.wB.size (fun g hg => (row_own ho g hg).1), keep_rowG hg ho h.wW (by decide), grown_keep hg h.wI (fun e => (hne _ e.symm).1 rfl), row_grownG hg h.wV ho (by decide),
    row_grown hg h.wR (fun g h1 h2 => (hne g h2).2 (gi_eq h1)), h.wS.grown hg ho (by decide), row_grownG hg h.wT ho (by decide)⟩
theorem PK.box {k : Nat} {x y : Value} {a b : Value} (h : PK w W bw gc vc gi uc ta tc cs is vs ns xl yl) (hk : W.heap[k]? = some (.cells #[x, y] 26 (0, 0))) (h1 : bw + 1 < k) (h2 : w.heap.size ≤ k) : PK w ((W.setCell ⟨k, 0, none⟩ a).setCell ⟨k, 1, none⟩ b) bw gc vc gi uc ta tc cs is vs ns xl yl := by
  have hg := Draw.set2_boxR W k a b
  exact ⟨(h.wB.setCell h2 _).setCell h2 _, Draw.heap_boxR h.wW hg (by omega), Draw.heap_boxR h.wI hg (by omega), Draw.row_boxR hk h.wV (by decide) hg, Draw.row_boxR hk h.wR (by decide) hg, Draw.rows_set1 (o := 0) h.wS hk (by decide) hg, Draw.row_boxR hk h.wT (by decide) hg⟩
theorem own_lie {b g H : Nat} {a n : Nat} (hl : (Value.slice (some ⟨b, 0, none⟩) a n).ownBlock = some g ∨ g = H) : b = g ∨ g = H := by
  rcases hl with h | h
  · exact .inl (by simpa [Value.ownBlock] using h)
  · exact .inr h
theorem own_ne {b g a n : Nat} (h : (Value.slice (some ⟨b, 0, none⟩) a n).ownBlock = some g) : b = g := by simpa [Value.ownBlock] using h
theorem heap_own {w w' : World} {j b a n : Nat} {o : Obj} (hj : w.heap[j]? = some o) (hg : w.grownBy w' (Value.slice (some ⟨b, 0, none⟩) a n).ownBlock) (hne : j ≠ b) : w'.heap[j]? = some o := grown_keep hg hj (fun e => hne (gi_eq e.symm))
end
end IvL
end Go.Proofs.Ytbdmdhhocncopaa
