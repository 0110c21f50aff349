/- FormatWorld, of both sides. Conditions: the sizes are those typed. -/
import Derived.Test.YtbdmdhhocncopaaWV
import Derived.Test.YtbdmdhhocncopaaFmtI
set_option linter.unusedVariables false
set_option linter.unusedSimpArgs false
set_option maxRecDepth 100000
namespace Go.Proofs.Ytbdmdhhocncopaa
open Go.RowKit Known Classes Ty IV
open WV FmtI
namespace FW
def bl (l : List UInt8) : ByteArray := ⟨l.toArray⟩
theorem bl_app (a b : List UInt8) : bl (a ++ b) = bl a ++ bl b := by apply ByteArray.ext; simp [bl, ByteArray.data_append]
theorem bl_data (a : ByteArray) : bl a.data.toList = a := by apply ByteArray.ext; simp [bl]
theorem bl_size (a : List UInt8) : (bl a).size = a.length := by simp [bl, ByteArray.size]
/-- a class as text -/
def clsT (p : BB) : ByteArray := if p.2.toList.isEmpty then p.1 else p.1 ++ ⟨#[60]⟩ ++ p.2
def clsL (cs : List BB) : List UInt8 := Lib.join ((cs.map clsT).map (·.data.toList)) [32]
def insL (is : List II) : List UInt8 := (is.map fun p => 59 :: (fmtI p.1 p.2.1 p.2.2).data.toList).flatten
/-- what FormatWorld returns -/
noncomputable def fmtW (cs : List BB) (is : List II) : ByteArray := if wvB cs is then bl (clsL cs ++ insL is) else ⟨#[]⟩
theorem fmtW_no {cs : List BB} {is : List II} (h : wvB cs is = false) : fmtW cs is = ⟨#[]⟩ := by unfold fmtW; rw [h]; rfl
theorem fmtW_yes {cs : List BB} {is : List II} (h : wvB cs is = true) : fmtW cs is = bl (clsL cs ++ insL is) := by unfold fmtW; rw [h]; rfl
theorem clsT_e {x y : ByteArray} (h : y.toList.isEmpty = true) : clsT (x, y) = x := by unfold clsT; rw [if_pos h]
theorem clsT_n {x y : ByteArray} (h : y.toList.isEmpty = false) : clsT (x, y) = x ++ ⟨#[60]⟩ ++ y := by unfold clsT; rw [if_neg (by simp [h])]
theorem app_assoc (a b c : ByteArray) : a ++ b ++ c = a ++ (b ++ c) := by apply ByteArray.ext; simp [ByteArray.data_append]
theorem clsT_n2 {x y : ByteArray} (h : y.toList.isEmpty = false) : clsT (x, y) = x ++ (⟨#[60]⟩ ++ y) := by rw [clsT_n h, app_assoc]
theorem clsT_size (p : BB) : (clsT p).size ≤ p.1.size + p.2.size + 1 := by
  unfold clsT
  split
  · omega
  · rw [ByteArray.size_append, ByteArray.size_append, show (ByteArray.mk #[60]).size = 1 from rfl]; omega
theorem clsL_one (p : BB) : bl (clsL []) ++ clsT p = bl (clsL [p]) := by
  rw [show clsL [p] = (clsT p).data.toList by unfold clsL; rw [List.map_cons, List.map_cons, Lib.join_cons]; simp [Lib.joinTail], bl_data]
  apply ByteArray.ext
  simp [clsL, Lib.join_nil, bl, ByteArray.data_append]
theorem joinTail_snoc (sep : List UInt8) (xs : List (List UInt8)) (y : List UInt8) : Lib.joinTail sep (xs ++ [y]) = Lib.joinTail sep xs ++ (sep ++ y) := by
  simp [Lib.joinTail]
theorem clsL_snoc {cs : List BB} (h : cs ≠ []) (p : BB) : bl (clsL cs) ++ ⟨#[32]⟩ ++ clsT p = bl (clsL (cs ++ [p])) := by
  match cs, h with
  | q :: r, _ =>
    have : clsL (q :: r ++ [p]) = clsL (q :: r) ++ ([32] ++ (clsT p).data.toList) := by
      unfold clsL
      rw [List.cons_append, List.map_cons, List.map_cons, Lib.join_cons, List.map_cons, List.map_cons, Lib.join_cons, List.map_append, List.map_append, List.map_cons, List.map_nil, List.map_cons, List.map_nil, joinTail_snoc]
      simp
    rw [this, bl_app, bl_app, bl_data, app_assoc]
    rfl
theorem clsL_len (cs : List BB) : (clsL cs).length ≤ tot cs + 2 * cs.length := by
  have key : ∀ r : List BB, (Lib.joinTail [32] ((r.map clsT).map (·.data.toList))).length ≤ tot r + 2 * r.length := by
    intro r
    induction r with
    | nil => simp [Lib.joinTail]
    | cons p r ih =>
      have hp := clsT_size p
      simp only [Lib.joinTail, List.map_cons, List.flatten_cons, List.length_append] at ih ⊢
      rw [show tot (p :: r) = (p.1.size + p.2.size) + tot r from rfl]
      simp only [List.length_cons, List.length_nil, Array.length_toList] at ih ⊢
      have : (clsT p).data.size = (clsT p).size := rfl
      omega
  cases cs with
  | nil => simp [clsL, Lib.join_nil]
  | cons p r =>
    have hp := clsT_size p
    have hk := key r
    unfold clsL
    rw [List.map_cons, List.map_cons, Lib.join_cons, List.length_append, show tot (p :: r) = (p.1.size + p.2.size) + tot r from rfl]
    have : (clsT p).data.toList.length = (clsT p).size := by rw [Array.length_toList]; rfl
    simp only [List.length_cons]
    omega
theorem insL_snoc (is : List II) (x y : ByteArray) (ns : List BB) : insL (is ++ [(x, y, ns)]) = insL is ++ (59 :: (fmtI x y ns).data.toList) := by
  unfold insL; simp
theorem insL_len (is : List II) : (insL is).length ≤ 3 * itot is + 3 * is.length := by
  induction is with
  | nil => simp [insL]
  | cons p r ih =>
    have hp := fmtI_size p.1 p.2.1 p.2.2
    have e1 : insL (p :: r) = (59 :: (fmtI p.1 p.2.1 p.2.2).data.toList) ++ insL r := by unfold insL; simp
    have e2 : itot (p :: r) = iw p + itot r := rfl
    have e3 : iw p = p.1.size + p.2.1.size + p.2.2.length + tot p.2.2 := rfl
    have e4 : (fmtI p.1 p.2.1 p.2.2).data.toList.length = (fmtI p.1 p.2.1 p.2.2).size := by rw [Array.length_toList]; rfl
    rw [e1, List.length_append]
    simp only [List.length_cons]
    omega
/-- what stands behind k instances -/
def outL (cs : List BB) (is : List II) (k : Nat) : ByteArray := bl (clsL cs ++ insL (is.take k))
theorem outL_zero (cs : List BB) (is : List II) : outL cs is 0 = bl (clsL cs) := by unfold outL; simp [insL]
theorem outL_all (cs : List BB) (is : List II) : outL cs is is.length = bl (clsL cs ++ insL is) := by unfold outL; rw [List.take_length]
theorem outL_step {cs : List BB} {is : List II} {k : Nat} {x y : ByteArray} {ns : List BB} (h : is[k]? = some (x, y, ns)) : outL cs is k ++ ⟨#[59]⟩ ++ fmtI x y ns = outL cs is (k + 1) := by
  obtain ⟨hlt, hg⟩ := List.getElem?_eq_some_iff.1 h
  unfold outL
  rw [List.take_succ_eq_append_getElem hlt, hg, insL_snoc, bl_app, bl_app, bl_app, show (59 :: (fmtI x y ns).data.toList) = [59] ++ (fmtI x y ns).data.toList from rfl, bl_app, bl_data]
  simp only [app_assoc]
  rfl
theorem outL_step2 {cs : List BB} {is : List II} {k : Nat} {x y : ByteArray} {ns : List BB} (h : is[k]? = some (x, y, ns)) : outL cs is k ++ (⟨#[59]⟩ ++ fmtI x y ns) = outL cs is (k + 1) := by rw [← app_assoc]; exact outL_step h
theorem outL_size (cs : List BB) (is : List II) (k : Nat) (h : k ≤ is.length) : (outL cs is k).size ≤ tot cs + 2 * cs.length + 3 * itot is + 3 * is.length := by
  unfold outL
  rw [bl_size, List.length_append]
  have h1 := clsL_len cs
  have h2 := insL_len (is.take k)
  have h3 := itot_le is k
  rw [List.length_take] at h2
  omega
theorem clsK_size (cs : List BB) (k : Nat) : (bl (clsL (cs.take k))).size ≤ tot cs + 2 * cs.length := by
  rw [bl_size]
  have h1 := clsL_len (cs.take k)
  have h2 := tot_le cs k
  rw [List.length_take] at h1
  omega
theorem cls_first {cs : List BB} {p : BB} (h : cs[0]? = some p) : bl (clsL (cs.take 0)) ++ clsT p = bl (clsL (cs.take (0 + 1))) := by
  obtain ⟨hlt, hg⟩ := List.getElem?_eq_some_iff.1 h
  rw [List.take_succ_eq_append_getElem hlt, hg, List.take_zero]
  exact clsL_one p
theorem cls_next {cs : List BB} {p : BB} {k : Nat} (hk : k ≠ 0) (h : cs[k]? = some p) : bl (clsL (cs.take k)) ++ ⟨#[32]⟩ ++ clsT p = bl (clsL (cs.take (k + 1))) := by
  obtain ⟨hlt, hg⟩ := List.getElem?_eq_some_iff.1 h
  rw [List.take_succ_eq_append_getElem hlt, hg]
  refine clsL_snoc ?_ p
  intro e
  have := congrArg List.length e
  rw [List.length_take, List.length_nil] at this
  omega
def pieceC (xs : List BB) : List Value := xs.map fun p => .string (clsT p)
end FW
end Go.Proofs.Ytbdmdhhocncopaa
