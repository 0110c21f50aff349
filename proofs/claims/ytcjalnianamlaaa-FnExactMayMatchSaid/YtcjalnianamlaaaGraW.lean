/- The program's nodes in memory, with their links; end. Conditions: none. -/
import Derived.Test.YtcjalnianamlaaaPtrM
import Derived.Test.YtcjalnianamlaaaImplT
import Derived.Test.YtcjalnianamlaaaListS
import Derived.Test.YtcjalnianamlaaaReg2
set_option linter.unusedVariables false
set_option linter.unusedSimpArgs false
set_option maxRecDepth 100000
namespace Go.Proofs.Ytcjalnianamlaaa
open Go.RowKit Ty
namespace GraW
open GraP PtrM ListS
def lp (o : Option Nat) : Value := .pointer (o.map fun b => ⟨b, 0, none⟩)
/-- the nodes N with the links L lie in w; no row of theirs lies in a block of B -/
def GH (w : World) (N : Nds) (L : Lks) (B : Nat → Prop) : Prop := ∀ n c ps, N n = some (c, ps) → ∃ v, w.heap[n]? = some (.cells #[.string ⟨#[c]⟩, v, lp (L n)] 113 (0, 0)) ∧ w.ownsRow 0 81 1 v ps.length (ps.map ptr) ∧ ∀ g, v.ownBlock = some g → ¬ B g
theorem GH.mono {w : World} {N : Nds} {L : Lks} {B B' : Nat → Prop} (h : GH w N L B) (hB : ∀ g, B' g → B g) : GH w N L B' := fun n c ps hn => by
  obtain ⟨v, h1, h2, h3⟩ := h n c ps hn
  exact ⟨v, h1, h2, fun g hg hb => h3 g hg (hB g hb)⟩
/-- every block of cells stays -/
def KC (w w' : World) : Prop := ∀ (k : Nat) (cs : Array Value) (e : TypeId) (fr : Nat × Nat), w.heap[k]? = some (Obj.cells cs e fr) → w'.heap[k]? = some (Obj.cells cs e fr)
theorem KC.refl (w : World) : KC w w := fun _ _ _ _ h => h
theorem KC.trans {a b c : World} (h : KC a b) (h' : KC b c) : KC a c := fun k cs e fr q => h' k cs e fr (h k cs e fr q)
theorem KC.below {w w' : World} (h : Below w.heap.size w w') : KC w w' := fun k cs e fr q => (h.block k (lt_of_heap q)).trans q
theorem KC.map {w w' : World} {b : Nat} (hg : w.grownBy w' (some b)) (hm : ∃ es k, w.heap[b]? = some (.map es k)) : KC w w' := fun k cs e fr q => by
  obtain ⟨es, c, hm⟩ := hm
  exact (hg.block k (lt_of_heap q) (fun h => by cases h; rw [hm] at q; simp at q)).trans q
theorem KC.row {w w' : World} (h : KC w w') {base : Nat} {e : TypeId} {size : Nat} {v : Value} {n : Nat} {xs : List Value} (ho : w.ownsRow base e size v n xs) : w'.ownsRow base e size v n xs := by
  refine ⟨ho.1, ?_⟩
  rcases ho.2 with hn | ⟨g, cap, cur, rfl, hb, hgg, rest⟩
  · exact .inl hn
  · exact .inr ⟨g, cap, cur, rfl, hb, h _ _ _ _ hgg, rest⟩
theorem GH.kc {w w' : World} {N : Nds} {L : Lks} {B : Nat → Prop} (h : GH w N L B) (k : KC w w') : GH w' N L B := fun n c ps hn => by
  obtain ⟨v, h1, h2, h3⟩ := h n c ps hn
  exact ⟨v, k _ _ _ _ h1, k.row h2, h3⟩
theorem GH.nb {w : World} {N : Nds} {L : Lks} {B : Nat → Prop} (h : GH w N L B) {n : Nat} (hn : ∃ x, N n = some x) : NB w n := by
  obtain ⟨⟨c, ps⟩, hn⟩ := hn
  obtain ⟨v, h1, _⟩ := h n c ps hn
  exact ⟨_, _, h1⟩
theorem GH.lt {w : World} {N : Nds} {L : Lks} {B : Nat → Prop} (h : GH w N L B) {n : Nat} (hn : ∃ x, N n = some x) : n < w.heap.size := by
  obtain ⟨cs, t, h1⟩ := h.nb hn
  exact lt_of_heap h1
/-- what lies in a node -/
theorem GH.at {w : World} {N : Nds} {L : Lks} {B : Nat → Prop} (h : GH w N L B) {n : Nat} {c : UInt8} {ps : List Nat} (hn : N n = some (c, ps)) :
    ∃ (a : Option Addr) (cap : Nat), w.cell? ⟨n, 0, none⟩ = some (.string ⟨#[c]⟩) ∧ w.cell? ⟨n, 1, none⟩ = some (.slice a ps.length cap) ∧ w.cell? ⟨n, 2, none⟩ = some (lp (L n)) ∧ w.frozen? ⟨n, 2, none⟩ = false ∧ n < w.heap.size ∧ w.ownsRow 0 81 1 (.slice a ps.length cap) ps.length (ps.map ptr) := by
  obtain ⟨v, h1, h2, _⟩ := h n c ps hn
  obtain ⟨a, cap, rfl⟩ := row_slice h2
  exact ⟨a, cap, heap_cell h1 0, heap_cell h1 1, heap_cell h1 2, heap_free h1 2, lt_of_heap h1, h2⟩
/-- a part in a node's row -/
theorem row_part {w : World} {a : Option Addr} {n cap : Nat} {ps : List Nat} (h : w.ownsRow 0 81 1 (.slice a n cap) n (ps.map ptr)) {j p : Nat} (hj : ps[j]? = some p) (hn : 0 < n) : ∃ g, a = some ⟨g, 0, none⟩ ∧ w.cell? ⟨g, j, none⟩ = some (ptr p) ∧ g < w.heap.size := by
  obtain ⟨g, cap', e, -, hg, cs, hc, hd⟩ := row_at h hn
  simp at e
  exact ⟨g, e.1, (heap_cell hc _).trans (hd j _ (by rw [List.getElem?_map, hj]; rfl)), hg⟩
/-- a link is set -/
theorem GH.link {w : World} {N : Nds} {L : Lks} {B : Nat → Prop} (h : GH w N L B) {x : Nat} (hx : ∃ v, N x = some v) (y : Nat) : GH (w.setCell ⟨x, 2, none⟩ (ptr y)) N (lnk L x y) B := fun n c ps hn => by
  obtain ⟨v, h1, h2, h3⟩ := h n c ps hn
  obtain ⟨⟨cx, px⟩, hx⟩ := hx
  obtain ⟨vx, q1, _⟩ := h x cx px hx
  refine ⟨v, ?_, ?_, h3⟩
  · by_cases e : n = x
    · subst e
      have := heap_set h1 2 (ptr y)
      rw [this, lnk_same]
      rfl
    · rw [lnk_ne e, Below.heap_setCell _ _ _ _ e]
      exact h1
  · obtain ⟨a, cap, rfl⟩ := row_slice h2
    refine ⟨h2.1, ?_⟩
    rcases h2.2 with h4 | ⟨g, cap', cur, h4, h5, h6, r⟩
    · exact .inl h4
    · exact .inr ⟨g, cap', cur, h4, h5, (Below.heap_setCell _ _ _ _ (by show g ≠ x; exact heap_ne h6 q1 (by decide))).trans h6, r⟩
/-- links lead to nodes -/
def NL (N : Nds) (L : Lks) : Prop := ∀ n b, L n = some b → ∃ v, N b = some v
def EnN (L : Lks) (r : Nat) : Nat → Nat → Prop
  | 0, n => L n = none ∧ n = r
  | k + 1, n => ∃ b, L n = some b ∧ EnN L r k b
theorem enN {L : Lks} {n r : Nat} (h : En L n r) : ∃ k, EnN L r k n := by
  induction h with
  | stop e => exact ⟨0, e, rfl⟩
  | step e _ ih => obtain ⟨k, hk⟩ := ih; exact ⟨k + 1, _, e, hk⟩
theorem end_any {N : Nds} {L : Lks} {n r : Nat} (h : En L n r) (hnl : NL N L) {B : Nat → Prop} (w : World) (hg : GH w N L B) (hn : ∃ v, N n = some v) : Calls Try.prog 66 #[ptr n] w fun e w' => e = .returned (ptr r) ∧ w = w' := by
  obtain ⟨k0, hk0⟩ := enN h
  have HK := hid hk0
  have HG := hid hg
  have HNL := hid hnl
  have HN := hid hn
  clear h hk0 hg hnl hn
  go_enter Try.func66, Try.ntmps66
  go_wp2_with fail
  go_loopg [0] k0 (fun q i wr => wr = w ∧ ∃ k m, k ≤ q ∧ EnN L r k m ∧ i = ptr m ∧ ∃ v, N m = some v)
  case atStart => exact ⟨rfl, k0, n, Nat.le_refl _, HK.out, rfl, HN.out⟩
  case round =>
    obtain ⟨rfl, k, m, hkq, hk, rfl, ⟨c, ps⟩, hm⟩ := hrel
    obtain ⟨a, cap, -, -, c2, -, hlt, -⟩ := HG.out.at hm
    clear hm
    cases k with
    | zero =>
      obtain ⟨h1, rfl⟩ := hk
      rw [h1] at c2
      change wr.cell? ⟨m, 2, none⟩ = some (.pointer none) at c2
      clear h1
      go_wp2_with fail
      go_ret
      exact ⟨rfl, rfl⟩
    | succ k =>
      obtain ⟨b, h1, h2⟩ := hk
      rw [h1] at c2
      change wr.cell? ⟨m, 2, none⟩ = some (.pointer (some ⟨b, 0, none⟩)) at c2
      have HB := hid h2
      have HNb := hid (HNL.out _ _ h1)
      clear h1 h2
      go_wp2_with fail
      go_roundg (gk - 1)
      case measure => omega
      case rel => exact ⟨rfl, k, b, by omega, HB.out, rfl, HNb.out⟩
end GraW
end Go.Proofs.Ytcjalnianamlaaa
