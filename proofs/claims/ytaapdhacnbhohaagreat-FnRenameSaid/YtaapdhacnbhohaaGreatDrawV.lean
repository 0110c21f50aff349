/- What the laws on types draw. Conditions: those typed. -/
import Derived.Test.YtaapdhacnbhohaaGreatDrawT
set_option linter.unusedVariables false
set_option linter.unusedSimpArgs false
set_option maxRecDepth 100000
namespace Go.Proofs.YtaapdhacnbhohaaGreat
open Go.RowKit
namespace Draw
def TPost (w : World) (lo hi : Nat) (e : Ending) (w' : World) : Prop := ∃ s : ByteArray, e = .returned (.string s) ∧ lo ≤ s.size ∧ s.size ≤ hi ∧ Below w.heap.size w w'
theorem DrawRenameType_any (v : Value) (xs : List Int) (w : World) (h : SB w v xs) : Calls Tryz.prog 4 #[v] w (TPost w 0 40) := by
  go_enter Tryz.func4, Tryz.ntmps4
  go_wp2_with fail
  refine (open_any v xs w h).mono ?_
  rintro e w1 ⟨a, rfl, ha, hr, hb⟩
  have HR1 := hid hr
  have HB1 := hid hb
  clear hr hb
  go_wp2_with fail
  refine (l1Any_any a 0 w1 (by decide) HR1.out).mono ?_
  rintro e w2 ⟨s, rfl, h1, h2, hr, hgr⟩
  have HB2 : Hid (Below w.heap.size w w2) := HB1.out.grown hgr HB1.out.size (fun g hg => by cases hg; exact ha)
  clear hr hgr
  go_wp2
  go_ret
  exact ⟨s, rfl, h1, h2, HB2.out⟩
theorem slice_one (l : List UInt8) (k : Nat) (c : UInt8) (h : l[k]? = some c) : (ByteArray.mk l.toArray).extract k (k + 1) = ⟨#[c]⟩ := by
  obtain ⟨hlt, rfl⟩ := List.getElem?_eq_some_iff.1 h
  apply ByteArray.ext
  simp [ByteArray.data_extract]
  rw [List.drop_eq_getElem_cons hlt]
  rfl
/-- the text of one letter of a text -/
theorem run_one (l : List UInt8) (k : Nat) (c : UInt8) (h : l[k]? = some c) (x : World) : (Instr.slice 9 (.string ⟨l.toArray⟩) (some (.int .i64 (k : Int))) (some (.int .i64 ((k : Int) + 1))) none).run Tryz.prog x = .ok (.string ⟨#[c]⟩) x := by
  have hlt := (List.getElem?_eq_some_iff.1 h).1
  have hsz : (ByteArray.mk l.toArray).size = l.length := by simp [ByteArray.size]
  rw [run_slice_string x 9 ⟨l.toArray⟩ .i64 .i64 (k : Int) ((k : Int) + 1) Tryz.underlying9 (by omega) (by omega) (by rw [hsz]; omega)]
  rw [show ((k : Int)).toNat = k by omega, show ((k : Int) + 1).toNat = k + 1 by omega, slice_one l k c h]
end Draw
end Go.Proofs.YtaapdhacnbhohaaGreat
