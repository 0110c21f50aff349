/- The laws' functions on slices of strings and of numbers: comparison, marks, copies, sizes. Conditions: those typed. -/
import Derived.Test.YtbdnhcfebgkpdaaDoorReg2
import Derived.Test.YtbdnhcfebgkpdaaDoorStr
import Derived.Deep.LoopGhost
import Derived.Deep.QuietTactic
import Derived.BigQuiet
import Derived.WalkSmall
import Derived.Laws.OwnMore
import Derived.Laws.IdiomStrings
set_option linter.unusedVariables false
set_option linter.unusedSimpArgs false
set_option maxRecDepth 100000
namespace Go.Proofs.YtbdnhcfebgkpdaaDoor
open Go.RowKit
namespace ListS
theorem run_byte {P : Program} (w : World) (bt st ut : TypeId) (hb : P.underlying bt = some (.slice ut)) (hu : P.underlying ut = some (.int .u8)) (hs : P.underlying st = some .string) (c : UInt8) (n : Int) (hn : n = c.toNat) :
    (convert bt st (.slice (some ⟨w.heap.size, 0, none⟩) 1 1)).run P (w.alloc (.cells #[.int .u8 n] ut)) = .ok (.string ⟨#[c]⟩) (w.alloc (.cells #[.int .u8 n] ut)) := by
  subst hn
  exact run_convert_bytes_back (P := P) (w.alloc (.cells #[.int .u8 c.toNat] ut)) bt st ut ⟨w.heap.size, 0, none⟩ 1 [c] hb hu hs (fun j hj => by
    have : j = 0 := by simp at hj; omega
    subst this
    exact heap_cell (heap_alloc_new _ _) 0)
theorem cons_bytes (c : UInt8) (l : List UInt8) : (⟨(c :: l).toArray⟩ : ByteArray) = ⟨#[c]⟩ ++ ⟨l.toArray⟩ := by apply ByteArray.ext; simp
def strs (xs : List ByteArray) : List Value := xs.map Value.string
/-- a new slice that holds the strings xs -/
def LPost (w : World) (xs : List ByteArray) (e : Ending) (w' : World) : Prop :=
  ∃ g cap, e = .returned (.slice (some ⟨g, 0, none⟩) xs.length cap) ∧ w'.ownsRow w.heap.size 9 1 (.slice (some ⟨g, 0, none⟩) xs.length cap) xs.length (strs xs) ∧ Below w.heap.size w w'
theorem strs_len (xs : List ByteArray) : (strs xs).length = xs.length := by simp [strs]
theorem row_at {w : World} {base : Nat} {e : TypeId} {size : Nat} {v : Value} {n : Nat} {xs : List Value} (h : w.ownsRow base e size v n xs) (hn : 0 < n) :
    ∃ g cap, v = .slice (some ⟨g, 0, none⟩) n cap ∧ base ≤ g ∧ g < w.heap.size ∧ ∃ cs : Array Value, w.heap[g]? = some (.cells cs e (0, 0)) ∧ ∀ (j : Nat) (u : Value), xs[j]? = some u → cs[j]? = some u := by
  rcases h.2 with ⟨_, h0⟩ | ⟨g, cap, cur, hv, hb, hg, hr⟩
  · omega
  · subst hv
    refine ⟨g, cap, rfl, hb, lt_of_heap hg, cur, hg, fun j u hu => ?_⟩
    have := row_cell h j hu
    rw [heap_cell hg] at this
    exact this
theorem row_slice {w : World} {base : Nat} {e : TypeId} {size : Nat} {v : Value} {n : Nat} {xs : List Value} (h : w.ownsRow base e size v n xs) : ∃ a cap, v = .slice a n cap := by
  rcases h.2 with ⟨rfl, rfl⟩ | ⟨g', cap, cur, rfl, hb, hg, hx⟩
  · exact ⟨none, 0, by have := h.1; simp at this; subst this; rfl⟩
  · exact ⟨some ⟨g', 0, none⟩, cap, rfl⟩
theorem row_own {w : World} {base : Nat} {e : TypeId} {size : Nat} {v : Value} {n : Nat} {xs : List Value} (h : w.ownsRow base e size v n xs) : ∀ g, v.ownBlock = some g → base ≤ g ∧ g < w.heap.size := by
  intro g hv
  rcases h.2 with ⟨rfl, _⟩ | ⟨g', cap, cur, rfl, hb, hg, _⟩
  · simp [Value.ownBlock] at hv
  · simp [Value.ownBlock] at hv
    subst hv
    exact ⟨hb, lt_of_heap hg⟩
theorem row_grown {w w' : World} {row : Option Nat} (h : w.grownBy w' row) {base : Nat} {e : TypeId} {size : Nat} {v : Value} {n : Nat} {xs : List Value} (ho : w.ownsRow base e size v n xs) (hv : ∀ g, v.ownBlock = some g → row ≠ some g) : w'.ownsRow base e size v n xs := by
  refine ⟨ho.1, ?_⟩
  rcases ho.2 with hn | ⟨g, cap, cur, rfl, hb, hgg, rest⟩
  · exact .inl hn
  · exact .inr ⟨g, cap, cur, rfl, hb, (h.block g (lt_of_heap hgg) (fun e => hv g (by simp [Value.ownBlock]) e.symm)).trans hgg, rest⟩
theorem row_below {w w' : World} (h : Below w.heap.size w w') {base : Nat} {e : TypeId} {size : Nat} {v : Value} {n : Nat} {xs : List Value} (ho : w.ownsRow base e size v n xs) : w'.ownsRow base e size v n xs := (keeps_of h base).row ho
theorem below_grownN (w : World) (n : Nat) : Below w.heap.size w (w.drewN n) := below_drewN (Below.refl _ _) n

def ints (xs : List Int) : List Value := xs.map (Value.int .i64)
theorem ints_len (xs : List Int) : (ints xs).length = xs.length := by simp [ints]

/-- the first j of n cells are marked -/
def stage (f : Nat → Value) (k : Nat) (xs : List Value) (j : Nat) : List Value := ((List.range j).map fun i => f (k + i)) ++ xs.drop j
theorem stage_zero (f : Nat → Value) (k : Nat) (xs : List Value) : stage f k xs 0 = xs := by simp [stage]
theorem stage_set (f : Nat → Value) (k : Nat) (xs : List Value) (j : Nat) (h : j < xs.length) : (stage f k xs j).set j (f (k + j)) = stage f k xs (j + 1) := by
  unfold stage
  rw [List.range_succ, List.map_append, List.set_append_right _ _ (by simp)]
  simp only [List.length_map, List.length_range, Nat.sub_self, List.map_cons, List.map_nil, List.append_assoc, List.cons_append, List.nil_append]
  rw [List.drop_eq_getElem_cons h, List.set_cons_zero]
theorem stage_end (f : Nat → Value) (k : Nat) (xs : List Value) : stage f k xs xs.length = (List.range xs.length).map fun i => f (k + i) := by simp [stage]
theorem stage_len (f : Nat → Value) (k : Nat) (xs : List Value) (j : Nat) (h : j ≤ xs.length) : (stage f k xs j).length = xs.length := by simp [stage]; omega
end ListS
end Go.Proofs.YtbdnhcfebgkpdaaDoor
