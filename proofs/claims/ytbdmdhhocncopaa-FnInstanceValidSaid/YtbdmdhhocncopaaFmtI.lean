/- FormatInstance of both sides. Conditions: the sizes and the number of the needs, together with the head's, are at most 2^20. -/
import Derived.Test.YtbdmdhhocncopaaInst
import Derived.Lib.Join
import Derived.Test.YtbdmdhhocncopaaJoin
set_option linter.unusedVariables false
set_option linter.unusedSimpArgs false
set_option maxRecDepth 100000
namespace Go.Proofs.Ytbdmdhhocncopaa.FmtI
open Go.RowKit

theorem infoStr : (Try.prog.info? 9).map (fun i => (i.zero, i.size, i.bytes)) = some (some (.string ⟨#[]⟩), 1, 16) := by kernel_rfl
def needT (p : BB) : ByteArray := needText p.1 p.2
def fmtL (xs : List BB) : List UInt8 := Lib.join ((xs.map needT).map (·.data.toList)) [38]
/-- what FormatInstance returns -/
def fmtI (a b : ByteArray) (xs : List BB) : ByteArray := match xs with | [] => needText a b | xs => needText a b ++ ⟨#[58]⟩ ++ ⟨(fmtL xs).toArray⟩
theorem needT_data (p : BB) : (needT p).data = p.1.data ++ #[32] ++ p.2.data := by unfold needT needText; rw [ByteArray.data_append, ByteArray.data_append]
theorem needT_len (p : BB) : (needT p).data.toList.length = p.1.size + p.2.size + 1 := by
  rw [needT_data]
  simp only [Array.toList_append, List.length_append, Array.length_toList, List.length_cons, List.length_nil]
  show p.1.size + 1 + p.2.size = _
  omega
theorem fmt_tail : ∀ xs : List BB, (Lib.joinTail [38] ((xs.map needT).map (·.data.toList))).length = tot xs + 2 * xs.length
  | [] => rfl
  | p :: xs => by
    have h := fmt_tail xs
    simp only [Lib.joinTail, List.map_cons, List.flatten_cons, List.length_append] at h ⊢
    rw [h, needT_len, show tot (p :: xs) = (p.1.size + p.2.size) + tot xs from rfl]
    simp only [List.length_cons, List.length_nil]; omega
theorem fmtL_cons (p : BB) (xs : List BB) : fmtL (p :: xs) = (needT p).data.toList ++ Lib.joinTail [38] ((xs.map needT).map (·.data.toList)) := by
  unfold fmtL
  rw [List.map_cons, List.map_cons, Lib.join_cons]
theorem fmtL_len (xs : List BB) : (fmtL xs).length ≤ tot xs + 2 * xs.length := by
  cases xs with
  | nil => simp [fmtL, Lib.join_nil]
  | cons p xs =>
    rw [fmtL_cons, List.length_append, fmt_tail, needT_len, show tot (p :: xs) = (p.1.size + p.2.size) + tot xs from rfl]
    simp only [List.length_cons]; omega
theorem needText_size (a b : ByteArray) : (needText a b).size = a.size + b.size + 1 := by
  have h := needT_len (a, b)
  rw [Array.length_toList] at h
  exact h
theorem fmtI_size (a b : ByteArray) (xs : List BB) : (fmtI a b xs).size ≤ a.size + b.size + 2 + tot xs + 2 * xs.length := by
  have h := fmtL_len xs
  have h2 := needText_size a b
  cases xs with
  | nil => show (needText a b).size ≤ _; omega
  | cons p xs =>
    show (needText a b ++ ⟨#[58]⟩ ++ ⟨(fmtL (p :: xs)).toArray⟩).size ≤ _
    rw [ByteArray.size_append, ByteArray.size_append, h2, show (ByteArray.mk #[58]).size = 1 from rfl, show (ByteArray.mk (fmtL (p :: xs)).toArray).size = (fmtL (p :: xs)).length from by simp [ByteArray.size]]
    omega
theorem fmtI_one (a b : ByteArray) (p : BB) : needText a b ++ ⟨#[58]⟩ ++ needText p.1 p.2 = fmtI a b [p] := by
  apply ByteArray.ext
  apply Array.ext'
  show _ = (needText a b ++ ⟨#[58]⟩ ++ ⟨(fmtL [p]).toArray⟩).data.toList
  rw [fmtL_cons]
  simp [Lib.joinTail, ByteArray.data_append, needT]
theorem fmtI_snoc (a b : ByteArray) (x : BB) (xs : List BB) (p : BB) : fmtI a b (x :: xs) ++ ⟨#[38]⟩ ++ needText p.1 p.2 = fmtI a b (x :: xs ++ [p]) := by
  apply ByteArray.ext
  apply Array.ext'
  show (needText a b ++ ⟨#[58]⟩ ++ ⟨(fmtL (x :: xs)).toArray⟩ ++ ⟨#[38]⟩ ++ needText p.1 p.2).data.toList = (needText a b ++ ⟨#[58]⟩ ++ ⟨(fmtL (x :: xs ++ [p])).toArray⟩).data.toList
  rw [List.cons_append, fmtL_cons, fmtL_cons]
  simp [Lib.joinTail, ByteArray.data_append, needT]

def pieceV (xs : List BB) : List Value := xs.map fun p => .string (needT p)

end Go.Proofs.Ytbdmdhhocncopaa.FmtI
