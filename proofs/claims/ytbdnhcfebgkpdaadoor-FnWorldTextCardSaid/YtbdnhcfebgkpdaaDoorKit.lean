/- How trees of types lie in memory, for the program and for the reference, and that they stay there. Conditions: none. -/
import Derived.WalkKit
import Derived.Test.YtbdnhcfebgkpdaaDoorTy
set_option linter.unusedVariables false
set_option linter.unusedSimpArgs false
set_option maxRecDepth 100000
namespace Go.Proofs.YtbdnhcfebgkpdaaDoor
open Go.RowKit Ty

/-- what lay in w from block lo on lies unturned in w' -/
def Keeps (lo : Nat) (w w' : World) : Prop := ∀ k, lo ≤ k → k < w.heap.size → w'.heap[k]? = w.heap[k]?

theorem Keeps.refl (lo : Nat) (w : World) : Keeps lo w w := fun _ _ _ => rfl
theorem keeps_of {w w' : World} (h : Below w.heap.size w w') (lo : Nat) : Keeps lo w w' := fun k _ hk => h.block k hk
theorem keeps_grown {w w' : World} {row : Option Nat} (h : w.grownBy w' row) {lo : Nat} (hr : ∀ k, row = some k → k < lo) : Keeps lo w w' := fun k hl hk => h.block k hk (fun e => by have := hr k e.symm; omega)
theorem keeps_set (w : World) {a : Addr} (u : Value) {lo : Nat} (h : a.block < lo) : Keeps lo w (w.setCell a u) := fun k hl _ => Below.heap_setCell _ _ _ _ (by omega)
theorem keeps_alloc (w : World) (o : Obj) (lo : Nat) : Keeps lo w (w.alloc o) := fun k _ hk => Below.heap_alloc _ _ _ hk
theorem Keeps.mono {lo lo' : Nat} {w w' : World} (h : Keeps lo w w') (hl : lo ≤ lo') : Keeps lo' w w' := fun k h1 h2 => h k (Nat.le_trans hl h1) h2
theorem Keeps.trans {lo : Nat} {a b c : World} (h : Keeps lo a b) (h' : Keeps lo b c) (hs : a.heap.size ≤ b.heap.size) : Keeps lo a c := fun k h1 h2 => (h' k h1 (by omega)).trans (h k h1 h2)
theorem Keeps.grown {lo : Nat} {w0 w w' : World} (h : Keeps lo w0 w) {row : Option Nat} (hg : w.grownBy w' row) (hs : w0.heap.size ≤ w.heap.size) (hr : ∀ k, row = some k → k < lo ∨ w0.heap.size ≤ k) : Keeps lo w0 w' := fun k h1 h2 =>
  (hg.block k (by omega) (fun e => by rcases hr k e.symm with h | h <;> omega)).trans (h k h1 h2)
theorem Keeps.set {lo : Nat} {w0 w : World} (h : Keeps lo w0 w) {a : Addr} (u : Value) (hr : a.block < lo ∨ w0.heap.size ≤ a.block) : Keeps lo w0 (w.setCell a u) := fun k h1 h2 => by
  rw [Below.heap_setCell _ _ _ _ (by rcases hr with h | h <;> omega)]
  exact h k h1 h2
theorem Keeps.alloc {lo : Nat} {w0 w : World} (h : Keeps lo w0 w) (o : Obj) (hs : w0.heap.size ≤ w.heap.size) : Keeps lo w0 (w.alloc o) := fun k h1 h2 => (Below.heap_alloc _ _ _ (by omega)).trans (h k h1 h2)
theorem Keeps.below {lo : Nat} {w0 w w' : World} (h : Keeps lo w0 w) (hb : Below w.heap.size w w') (hs : w0.heap.size ≤ w.heap.size) : Keeps lo w0 w' := fun k h1 h2 => (hb.block k (by omega)).trans (h k h1 h2)
theorem lt_of_heap {w : World} {k : Nat} {o : Obj} (h : w.heap[k]? = some o) : k < w.heap.size := (Array.getElem?_eq_some_iff.1 h).1
theorem Keeps.heap {lo : Nat} {w w' : World} (h : Keeps lo w w') {k : Nat} {o : Obj} (hl : lo ≤ k) (ho : w.heap[k]? = some o) : w'.heap[k]? = some o := (h k hl (lt_of_heap ho)).trans ho
theorem below_heap {B : Nat} {w w' : World} (h : Below B w w') {k : Nat} {o : Obj} (hk : k < B) (ho : w.heap[k]? = some o) : w'.heap[k]? = some o := (h.block k hk).trans ho
theorem Keeps.row {base : Nat} {w w' : World} (h : Keeps base w w') {e : TypeId} {size : Nat} {v : Value} {n : Nat} {xs : List Value} (ho : w.ownsRow base e size v n xs) : w'.ownsRow base e size v n xs := by
  refine ⟨ho.1, ?_⟩
  rcases ho.2 with hn | ⟨g, cap, cur, rfl, hb, hgg, rest⟩
  · exact .inl hn
  · exact .inr ⟨g, cap, cur, rfl, hb, h.heap hb hgg, rest⟩
theorem row_mono {base base' : Nat} {w : World} {e : TypeId} {size : Nat} {v : Value} {n : Nat} {xs : List Value} (ho : w.ownsRow base e size v n xs) (h : base' ≤ base) : w.ownsRow base' e size v n xs := by
  refine ⟨ho.1, ?_⟩
  rcases ho.2 with hn | ⟨g, cap, cur, rfl, hb, hgg, rest⟩
  · exact .inl hn
  · exact .inr ⟨g, cap, cur, rfl, Nat.le_trans h hb, hgg, rest⟩

/-- block b is a node of the program's, all of it from block lo on: its letter, its parts, no link -/
def INode (lo : Nat) (w : World) : Ty → Nat → Prop
  | .leaf c, b => lo ≤ b ∧ ∃ v, w.heap[b]? = some (.cells #[.string ⟨#[c]⟩, v, .pointer none] 119 (0, 0)) ∧ w.ownsRow lo 65 1 v 0 []
  | .one c t, b => lo ≤ b ∧ ∃ v p, w.heap[b]? = some (.cells #[.string ⟨#[c]⟩, v, .pointer none] 119 (0, 0)) ∧ w.ownsRow lo 65 1 v 1 [.pointer (some ⟨p, 0, none⟩)] ∧ INode lo w t p
  | .two c t u, b => lo ≤ b ∧ ∃ v p q, w.heap[b]? = some (.cells #[.string ⟨#[c]⟩, v, .pointer none] 119 (0, 0)) ∧ w.ownsRow lo 65 1 v 2 [.pointer (some ⟨p, 0, none⟩), .pointer (some ⟨q, 0, none⟩)] ∧ INode lo w t p ∧ INode lo w u q

theorem Keeps.inode {lo : Nat} {w w' : World} (h : Keeps lo w w') : ∀ {t : Ty} {b : Nat}, INode lo w t b → INode lo w' t b := by
  intro t
  induction t with
  | leaf c => intro b ⟨hl, v, h1, h2⟩; exact ⟨hl, v, h.heap hl h1, h.row h2⟩
  | one c t ih => intro b ⟨hl, v, p, h1, h2, h3⟩; exact ⟨hl, v, p, h.heap hl h1, h.row h2, ih h3⟩
  | two c t u ih1 ih2 => intro b ⟨hl, v, p, q, h1, h2, h3, h4⟩; exact ⟨hl, v, p, q, h.heap hl h1, h.row h2, ih1 h3, ih2 h4⟩
theorem INode.mono {lo lo' : Nat} {w : World} (hl : lo' ≤ lo) : ∀ {t : Ty} {b : Nat}, INode lo w t b → INode lo' w t b := by
  intro t
  induction t with
  | leaf c => intro b ⟨h0, v, h1, h2⟩; exact ⟨by omega, v, h1, row_mono h2 hl⟩
  | one c t ih => intro b ⟨h0, v, p, h1, h2, h3⟩; exact ⟨by omega, v, p, h1, row_mono h2 hl, ih h3⟩
  | two c t u ih1 ih2 => intro b ⟨h0, v, p, q, h1, h2, h3, h4⟩; exact ⟨by omega, v, p, q, h1, row_mono h2 hl, ih1 h3, ih2 h4⟩

theorem INode.lt {lo : Nat} {w : World} {t : Ty} {b : Nat} (h : INode lo w t b) : b < w.heap.size := by
  cases t with
  | leaf c => obtain ⟨_, v, h1, _⟩ := h; exact lt_of_heap h1
  | one c t => obtain ⟨_, v, p, h1, _⟩ := h; exact lt_of_heap h1
  | two c t u => obtain ⟨_, v, p, q, h1, _⟩ := h; exact lt_of_heap h1

/-- a node of the reference's: its letter, its parts -/
def SNode (lo : Nat) (w : World) : Ty → Value → Value → Prop
  | .leaf c, h, s => h = .int .u8 c.toNat ∧ w.ownsRow lo 86 2 s 0 []
  | .one c t, h, s => h = .int .u8 c.toNat ∧ ∃ h1 s1, w.ownsRow lo 86 2 s 1 [h1, s1] ∧ SNode lo w t h1 s1
  | .two c t u, h, s => h = .int .u8 c.toNat ∧ ∃ h1 s1 h2 s2, w.ownsRow lo 86 2 s 2 [h1, s1, h2, s2] ∧ SNode lo w t h1 s1 ∧ SNode lo w u h2 s2

theorem Keeps.snode {lo : Nat} {w w' : World} (h : Keeps lo w w') : ∀ {t : Ty} {a b : Value}, SNode lo w t a b → SNode lo w' t a b := by
  intro t
  induction t with
  | leaf c => intro a b ⟨h1, h2⟩; exact ⟨h1, h.row h2⟩
  | one c t ih => intro a b ⟨h1, x, y, h2, h3⟩; exact ⟨h1, x, y, h.row h2, ih h3⟩
  | two c t u ih1 ih2 => intro a b ⟨h1, x, y, x2, y2, h2, h3, h4⟩; exact ⟨h1, x, y, x2, y2, h.row h2, ih1 h3, ih2 h4⟩
theorem SNode.mono {lo lo' : Nat} {w : World} (hl : lo' ≤ lo) : ∀ {t : Ty} {a b : Value}, SNode lo w t a b → SNode lo' w t a b := by
  intro t
  induction t with
  | leaf c => intro a b ⟨h1, h2⟩; exact ⟨h1, row_mono h2 hl⟩
  | one c t ih => intro a b ⟨h1, x, y, h2, h3⟩; exact ⟨h1, x, y, row_mono h2 hl, ih h3⟩
  | two c t u ih1 ih2 => intro a b ⟨h1, x, y, x2, y2, h2, h3, h4⟩; exact ⟨h1, x, y, x2, y2, row_mono h2 hl, ih1 h3, ih2 h4⟩

theorem heap_cell {w : World} {b : Nat} {cs : Array Value} {e : TypeId} {fr : Nat × Nat} (h : w.heap[b]? = some (.cells cs e fr)) (o : Nat) : w.cell? ⟨b, o, none⟩ = cs[o]? := by simp [World.cell?, h]
theorem heap_free {w : World} {b : Nat} {cs : Array Value} {e : TypeId} (h : w.heap[b]? = some (.cells cs e (0, 0))) (o : Nat) : w.frozen? ⟨b, o, none⟩ = false := by simp [World.frozen?, h]
theorem heap_set {w : World} {b : Nat} {cs : Array Value} {e : TypeId} {fr : Nat × Nat} (h : w.heap[b]? = some (.cells cs e fr)) (o : Nat) (u : Value) : (w.setCell ⟨b, o, none⟩ u).heap[b]? = some (.cells (cs.setIfInBounds o u) e fr) := by
  simp [World.setCell, Array.getElem?_modify, h]
theorem heap_ne {w : World} {b g : Nat} {cs cs' : Array Value} {e e' : TypeId} {fr fr' : Nat × Nat} (h : w.heap[b]? = some (.cells cs e fr)) (h' : w.heap[g]? = some (.cells cs' e' fr')) (hne : e ≠ e') : b ≠ g := by
  rintro rfl
  rw [h] at h'
  simp at h'
  exact hne h'.2.1

/-- 'xs = append(xs, x)' on a row of the call's own -/
theorem app_push {P : Program} {w : World} (t e : TypeId) (z : Value) (size bytes : Nat) (T : P.underlying t = some (.slice e)) (I : (P.info? e).map (fun i => (i.zero, i.size, i.bytes)) = some (some z, size, bytes)) (Z : z.cells.size = size) (S : 0 < size)
    {ops : Array Oper} {rest : List Oper} {o : Oper} {a : Act} {Q : Exit → Act → World → Prop} (hgd : o.guard = none) (s x : Operand)
    (ho : o.op = .call { callee := .builtin .append, args := #[s, x], argTypes := #[t, t] })
    (base : Nat) (v : Value) (n : Nat) (xs : List Value) (hs : a.eval s = v) (hown : w.ownsRow base e size v n xs)
    (g c : Nat) (news : List Value) (hx : a.eval x = .slice (some ⟨g, 0, none⟩) 1 c) (hl : news.length = size) (hnews : ∀ j u, news[j]? = some u → w.cell? ⟨g, j, none⟩ = some u) (h1 : ∀ u ∈ news, u.oneCell' = true)
    (hn : n + 1 ≤ maxLen) (hb : (n + 1) * bytes ≤ 140737488355328) (hbase : base ≤ w.heap.size)
    (h : ∀ g' cap' w', w'.ownsRow base e size (.slice (some ⟨g', 0, none⟩) (n + 1) cap') (n + 1) (xs ++ news) → w.grownBy w' v.ownBlock → wpList P ops Q rest (a.put o.dst (.slice (some ⟨g', 0, none⟩) (n + 1) cap')) w') : wpList P ops Q (o :: rest) a w := by
  obtain ⟨i, hi, hz0, hz1, hz2⟩ := info_parts I
  refine wpList_append_own w hgd s x t ho base e i z size bytes T hi hz0 hz1 hz2 Z S v n xs hs hown ⟨g, 0, none⟩ 1 c news hx (by omega) ?_ h1 hn hb hbase fun v' w' h2 h3 _ => ?_
  rotate_left
  · rcases h2.2 with ⟨_, h0⟩ | ⟨g', cap', cur, rfl, r⟩
    · omega
    · exact h g' cap' w' h2 h3
  intro j u hj
  have hadd : (⟨g, 0, none⟩ : Addr).add j = ⟨g, j, none⟩ := by unfold Addr.add; split <;> simp_all
  rw [hadd]
  exact hnews j u hj

/-- one cell's news -/
theorem news_one {w : World} {g : Nat} {u : Value} (h : w.cell? ⟨g, 0, none⟩ = some u) : ∀ j v, [u][j]? = some v → w.cell? ⟨g, j, none⟩ = some v := by
  intro j v hj
  cases j with
  | zero => simp at hj; subst hj; exact h
  | succ j => simp at hj
theorem news_two {w : World} {g : Nat} {u u2 : Value} (h : w.cell? ⟨g, 0, none⟩ = some u) (h2 : w.cell? ⟨g, 1, none⟩ = some u2) : ∀ j v, [u, u2][j]? = some v → w.cell? ⟨g, j, none⟩ = some v := by
  intro j v hj
  match j with
  | 0 => simp at hj; subst hj; exact h
  | 1 => simp at hj; subst hj; exact h2
  | j + 2 => simp at hj

theorem grown_keep {w w' : World} {row : Option Nat} (hg : w.grownBy w' row) {k : Nat} {o : Obj} (h : w.heap[k]? = some o) (hne : some k ≠ row) : w'.heap[k]? = some o :=
  (hg.block k (lt_of_heap h) hne).trans h

/-- the row of a slice that is known to hold something -/
theorem row_block {w : World} {base : Nat} {e : TypeId} {size : Nat} {g n cap : Nat} {xs : List Value} (h : w.ownsRow base e size (.slice (some ⟨g, 0, none⟩) n cap) n xs) : base ≤ g ∧ ∃ cur, w.heap[g]? = some (.cells cur e (0, 0)) := by
  rcases h.2 with ⟨h0, _⟩ | ⟨g', cap', cur, h0, hb, hg, _⟩
  · simp at h0
  · simp at h0
    obtain ⟨rfl, rfl⟩ := h0
    exact ⟨hb, cur, hg⟩
theorem row_set {w : World} {base : Nat} {e : TypeId} {size : Nat} {g n cap : Nat} {xs : List Value} (h : w.ownsRow base e size (.slice (some ⟨g, 0, none⟩) n cap) n xs) {a : Addr} (u : Value) (hne : g ≠ a.block) : (w.setCell a u).ownsRow base e size (.slice (some ⟨g, 0, none⟩) n cap) n xs := by
  refine ⟨h.1, ?_⟩
  rcases h.2 with h0 | ⟨g', cap', cur, h0, hb, hg, r⟩
  · exact .inl h0
  · have hgg : g = g' := by simp at h0; exact h0.1
    subst hgg
    exact .inr ⟨g, cap', cur, h0, hb, (Below.heap_setCell _ _ _ _ hne).trans hg, r⟩
theorem row_cell {w : World} {base : Nat} {e : TypeId} {size : Nat} {g n cap : Nat} {xs : List Value} (h : w.ownsRow base e size (.slice (some ⟨g, 0, none⟩) n cap) n xs) (j : Nat) {u : Value} (hu : xs[j]? = some u) : w.cell? ⟨g, j, none⟩ = some u := by
  have := h.cells (g := g) rfl j u hu
  have hadd : (⟨g, 0, none⟩ : Addr).add j = ⟨g, j, none⟩ := by unfold Addr.add; split <;> simp_all
  rwa [hadd] at this

end Go.Proofs.YtbdnhcfebgkpdaaDoor
