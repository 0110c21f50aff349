/- The texts of types of both sides, and PartsOf. Conditions: a text of at most 1000 bytes. -/
import Derived.Test.YtcjalnianamlaaaParts
set_option linter.unusedVariables false
set_option linter.unusedSimpArgs false
set_option maxRecDepth 100000
namespace Go.Proofs.Ytcjalnianamlaaa
open Go.RowKit Ty ListS Parts
namespace Text
theorem infoStr : (Try.prog.info? 9).map (fun i => (i.zero, i.size, i.bytes)) = some (some (.string ⟨#[]⟩), 1, 16) := by kernel_rfl
/-- what the loop over the parts of node b knows -/
def LR (w : World) (t : Ty) (q : Nat) (o i : Value) (wr : World) : Prop :=
  ∃ (k g cap : Nat), k ≤ t.parts.length ∧ t.parts.length - k ≤ q ∧ i = .int .i64 k ∧ o = .slice (some ⟨g, 0, none⟩) k cap ∧ wr.ownsRow w.heap.size 9 1 (.slice (some ⟨g, 0, none⟩) k cap) k (strs (texts (t.parts.take k))) ∧ Below w.heap.size w wr ∧ w.heap.size ≤ wr.heap.size
theorem texts_snoc (t u : Ty) (k : Nat) (h : t.parts[k]? = some u) : strs (texts (t.parts.take (k + 1))) = strs (texts (t.parts.take k)) ++ [.string ⟨u.text.toArray⟩] := by
  obtain ⟨hlt, rfl⟩ := List.getElem?_eq_some_iff.1 h
  rw [List.take_succ_eq_append_getElem hlt]
  simp only [texts, strs, List.map_append, List.map_cons, List.map_nil]
end Text
end Go.Proofs.Ytcjalnianamlaaa
