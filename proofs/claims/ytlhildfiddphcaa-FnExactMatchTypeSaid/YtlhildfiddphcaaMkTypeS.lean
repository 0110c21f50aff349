/- The reference's MakeType. Conditions: texts of at most 2^20 bytes together. -/
import Derived.Test.YtlhildfiddphcaaMkType
set_option linter.unusedVariables false
set_option linter.unusedSimpArgs false
set_option maxRecDepth 100000
namespace Go.Proofs.Ytlhildfiddphcaa
open Go.RowKit Ty ListS Parts Go.Proofs.Ytlhildfiddphcaa.Text
namespace MkType
theorem infoSN : (Try.prog.info? 30).map (fun i => (i.zero, i.size, i.bytes)) = some (some (.agg #[.int .u8 0, .slice none 0 0]), 2, 32) := by kernel_rfl
theorem mkT_bad {c : UInt8} {xs : List ByteArray} {k : Nat} {x : ByteArray} (hk : xs[k]? = some x) (h : okT x = false) : mkT [c] xs = none := mkT_no (fun hh => by
  have := List.all_eq_true.1 hh.1 x (List.mem_of_getElem? hk)
  rw [h] at this; simp at this)
theorem all_take {xs : List ByteArray} {k : Nat} {x : ByteArray} (h : (xs.take k).all okT = true) (hk : xs[k]? = some x) (hx : okT x = true) : (xs.take (k + 1)).all okT = true := by
  obtain ⟨hlt, rfl⟩ := List.getElem?_eq_some_iff.1 hk
  rw [List.take_succ_eq_append_getElem hlt, List.all_append, h]
  simpa using hx
theorem pre_le {A : List Ty} (h2 : A.length ≤ 2) (hw : ∀ t ∈ A, t.WF ∧ t.text.length ≤ 60) : (pre A).length ≤ 122 := by
  match A, h2, hw with
  | [], _, _ => simp [pre]
  | [u], _, hw =>
    have := (hw u (by simp)).2
    simp [pre]; omega
  | [u, v], _, hw =>
    have := (hw u (by simp)).2
    have := (hw v (by simp)).2
    simp [pre]; omega
  | u :: v :: y :: r, h, _ => simp at h
theorem mtext_le {c : UInt8} {A : List Ty} (h2 : A.length ≤ 2) (hw : ∀ t ∈ A, t.WF ∧ t.text.length ≤ 60) : (mtext c (texts A)).length ≤ 1000 := by
  unfold mtext
  split
  · simp
  · rename_i h
    have hA : A ≠ [] := by intro e; rw [e] at h; simp [texts] at h
    have j := congrArg List.length (join_pre A hA)
    have j3 := pre_le h2 hw
    simp only [List.length_cons] at j
    simp only [List.length_cons, List.length_append, List.length_nil]
    omega
theorem getc (c : UInt8) (h : 0 < (ByteArray.mk #[c]).size) : (ByteArray.mk #[c])[0]'h = c := rfl
attribute [local go_sem] getc
/-- what the loop knows: w the call's world; the node's block is nb -/
def LR (w : World) (c : UInt8) (xs : List ByteArray) (nb : Nat) (q : Nat) (iv : Value) (wr : World) : Prop :=
  ∃ (A : List Ty) (a : Option Addr) (cap : Nat) (ps : List Value), A.length ≤ xs.length ∧ xs.length - A.length ≤ q ∧ iv = .int .i64 A.length ∧ Hid (xs.take A.length = texts A) ∧ (∀ t ∈ A, t.WF ∧ t.text.length ≤ 60) ∧
    wr.heap[nb]? = some (.cells #[.int .u8 c.toNat, .slice a A.length cap] 30 (0, 0)) ∧ wr.ownsRow w.heap.size 30 2 (.slice a A.length cap) A.length ps ∧ (∀ p, a = some p → p.block ≠ nb) ∧ SNs (ex (nb + 1) (.slice a A.length cap)) wr A ps ∧ Below w.heap.size w wr ∧ nb < wr.heap.size
end MkType
end Go.Proofs.Ytlhildfiddphcaa
