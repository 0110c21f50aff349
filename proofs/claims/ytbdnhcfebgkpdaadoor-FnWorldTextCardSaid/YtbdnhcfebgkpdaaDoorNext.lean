/- The reference's reader of types: what 'next' returns, and what it leaves of the reader. Conditions: the text is no longer than 2^63 bytes. -/
import Derived.Test.YtbdnhcfebgkpdaaDoorArity
import Derived.Test.YtbdnhcfebgkpdaaDoorKit
import Derived.Deep.QuietTactic
import Derived.BigQuiet
set_option linter.unusedVariables false
set_option linter.unusedSimpArgs false
set_option maxRecDepth 100000
namespace Go.Proofs.YtbdnhcfebgkpdaaDoor
open Go.RowKit Ty

/-- block b is a reader of s that stands at i -/
def RD (w : World) (b : Nat) (s : ByteArray) (i : Nat) (bad : Bool) : Prop := w.heap[b]? = some (.cells #[.string s, .int .i64 i, .bool bad] 113 (0, 0))

def NextOk (w : World) (b : Nat) (s : ByteArray) (i : Nat) (bad : Bool) (c : UInt8) (e : Ending) (w' : World) : Prop :=
  e = .returned (.int .u8 c.toNat) ∧ RD w' b s (i + 1) bad ∧ w.grownBy w' (some b)
def NextNo (w : World) (b : Nat) (s : ByteArray) (i : Nat) (e : Ending) (w' : World) : Prop :=
  e = .returned (.int .u8 0) ∧ RD w' b s i true ∧ w.grownBy w' (some b)

theorem next_ok (w : World) (b : Nat) (s : ByteArray) (i : Nat) (bad : Bool) (hs : s.size ≤ maxLen) (hi : i < s.size) (h : RD w b s i bad) : Calls Tryd.prog 97 #[.pointer (some ⟨b, 0, none⟩)] w (NextOk w b s i bad s[i]) := by
  have k0 : w.cell? ⟨b, 0, none⟩ = some (.string s) := heap_cell h 0
  have k1 : w.cell? ⟨b, 1, none⟩ = some (.int .i64 i) := heap_cell h 1
  have k2 : w.cell? ⟨b, 2, none⟩ = some (.bool bad) := heap_cell h 2
  have f1 : w.frozen? ⟨b, 1, none⟩ = false := heap_free h 1
  have H := hid h
  unfold maxLen at hs
  clear h
  go_enter Tryd.func97, Tryd.ntmps97
  go_wp2
  go_quiet (fail)
  go_wp2
  have hw : IntKind.i64.wrap ((i : Int) + 1 - 1) = (i : Int) := by rw [IntWalk.i64_in _ (by omega)]; omega
  have hi' : (i : Int) < (s.size : Int) := by omega
  go_quiet (fail)
  go_wp2
  go_ret
  refine ⟨rfl, heap_set (w := w) H.out 1 _, ?_⟩
  exact ⟨rfl, rfl, rfl, by simp, fun k hk hne => Below.heap_setCell _ _ _ _ (fun e => hne (by rw [e]))⟩

theorem next_no (w : World) (b : Nat) (s : ByteArray) (i : Nat) (bad : Bool) (hi : s.size ≤ i) (h : RD w b s i bad) : Calls Tryd.prog 97 #[.pointer (some ⟨b, 0, none⟩)] w (NextNo w b s i) := by
  have k0 : w.cell? ⟨b, 0, none⟩ = some (.string s) := heap_cell h 0
  have k1 : w.cell? ⟨b, 1, none⟩ = some (.int .i64 i) := heap_cell h 1
  have k2 : w.cell? ⟨b, 2, none⟩ = some (.bool bad) := heap_cell h 2
  have f1 : w.frozen? ⟨b, 2, none⟩ = false := heap_free h 2
  have H := hid h
  clear h
  go_enter Tryd.func97, Tryd.ntmps97
  go_wp2
  go_quiet (fail)
  go_wp2
  go_ret
  refine ⟨rfl, heap_set (w := w) H.out 2 _, ?_⟩
  exact ⟨rfl, rfl, rfl, by simp, fun k hk hne => Below.heap_setCell _ _ _ _ (fun e => hne (by rw [e]))⟩

/-- the next byte of a text of bytes -/
theorem next_byte (w : World) (b : Nat) (l : List UInt8) (i : Nat) (bad : Bool) (c : UInt8) (hs : l.length ≤ maxLen) (hi : l[i]? = some c) (h : RD w b ⟨l.toArray⟩ i bad) : Calls Tryd.prog 97 #[.pointer (some ⟨b, 0, none⟩)] w (NextOk w b ⟨l.toArray⟩ i bad c) := by
  obtain ⟨hlt, rfl⟩ := List.getElem?_eq_some_iff.1 hi
  exact next_ok w b ⟨l.toArray⟩ i bad hs hlt h

/-- another byte than ch, or none -/
def NextBad (w : World) (b : Nat) (s : ByteArray) (ch : Int) (e : Ending) (w' : World) : Prop :=
  ∃ v i' bad, e = .returned (.int .u8 v) ∧ (v == ch) = false ∧ i' ≤ s.size ∧ RD w' b s i' bad ∧ w.grownBy w' (some b)
theorem next_bad (w : World) (b : Nat) (l : List UInt8) (i : Nat) (bad : Bool) (c : UInt8) (hs : l.length ≤ maxLen) (hc : c ≠ 0) (hl : i ≤ l.length) (hi : l[i]? ≠ some c) (h : RD w b ⟨l.toArray⟩ i bad) : Calls Tryd.prog 97 #[.pointer (some ⟨b, 0, none⟩)] w (NextBad w b ⟨l.toArray⟩ c.toNat) := by
  cases hx : l[i]? with
  | none =>
    have hle : l.length ≤ i := List.getElem?_eq_none_iff.1 hx
    refine (next_no w b ⟨l.toArray⟩ i bad hle h).mono ?_
    rintro e w' ⟨rfl, h1, h2⟩
    refine ⟨0, i, true, rfl, ?_, hl, h1, h2⟩
    rw [beq_eq_false_iff_ne]
    intro e
    exact hc (UInt8.toNat_inj.1 (by simp; omega))
  | some x =>
    have hlt : i < l.length := (List.getElem?_eq_some_iff.1 hx).1
    refine (next_byte w b l i bad x hs hx h).mono ?_
    rintro e w' ⟨rfl, h1, h2⟩
    refine ⟨x.toNat, i + 1, bad, rfl, ?_, hlt, h1, h2⟩
    rw [beq_eq_false_iff_ne]
    intro e
    rw [hx] at hi
    have e2 : x = c := UInt8.toNat_inj.1 (by exact_mod_cast e)
    exact hi (by rw [e2])

end Go.Proofs.YtbdnhcfebgkpdaaDoor
