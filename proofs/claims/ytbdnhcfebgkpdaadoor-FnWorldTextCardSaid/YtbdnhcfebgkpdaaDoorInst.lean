/- The laws' size, copy and comparison of instances. Conditions: those typed. -/
import Derived.Test.YtbdnhcfebgkpdaaDoorNeedS
set_option linter.unusedVariables false
set_option linter.unusedSimpArgs false
set_option maxRecDepth 100000
namespace Go.Proofs.YtbdnhcfebgkpdaaDoor
open Go.RowKit

/-- what the laws' size of an instance returns -/
def szI (a b : ByteArray) (xs : List BB) (L : Int) : Int := if (a.size : Int) + b.size + xs.length + tot xs ≤ L then L - a.size - b.size - xs.length - tot xs else -1

/-- a new instance: its texts, and a slice that holds its needs -/
def InstPost (w : World) (a b : ByteArray) (xs : List BB) (en : Ending) (w' : World) : Prop :=
  ∃ g, en = .returned (.agg #[.string a, .string b, .slice (some ⟨g, 0, none⟩) xs.length xs.length]) ∧ w.heap.size ≤ g ∧ w'.heap[g]? = some (.cells (flat xs).toArray 25 (0, 0)) ∧ SP w' (.slice (some ⟨g, 0, none⟩) xs.length xs.length) xs ∧ Below w.heap.size w w'

theorem hb_new3 (w : World) (A B C : Obj) : (((w.alloc A).alloc B).alloc C).heap[w.heap.size + 1 + 1]? = some C := by
  have := heap_alloc_new ((w.alloc A).alloc B) C
  simpa using this

end Go.Proofs.YtbdnhcfebgkpdaaDoor
