/- The program's depth, the library's Count at a byte, and what both tell of a type's text. Conditions: a text of at most 2^31 bytes. -/
import Derived.Test.YtbdnhcfebgkpdaaDoorStr
import Derived.Test.YtbdnhcfebgkpdaaDoorTy
set_option linter.unusedVariables false
set_option linter.unusedSimpArgs false
set_option maxRecDepth 100000
namespace Go.Proofs.YtbdnhcfebgkpdaaDoor
open Go.RowKit

theorem sCount (s : ByteArray) (c : UInt8) (w : World) : Calls Tryd.prog 79 #[.string s, .string ⟨#[c]⟩] w fun e w' => e = .returned (.int .i64 (s.data.toList.count c)) ∧ w = w' := by
  go_enter Tryd.func79, Tryd.ntmps79
  go_wp2
  rw [run_callFunc_extern Tryd.func96 (by kernel_rfl) (by kernel_rfl) (by kernel_rfl) (e := Extern.BytealgCount.count) (by kernel_rfl), Lib.run_countString]
  simp only [Result.andThen]
  rw [Oper.upon_value]
  go_wp2
  go_ret
  exact ⟨rfl, rfl⟩

/-- one byte of the scan: the most brackets, those that are open now -/
def dstep (p : Int × Int) (c : UInt8) : Int × Int := if c = 40 then (max p.1 (p.2 + 1), p.2 + 1) else if c = 41 then (p.1, p.2 - 1) else p
def dscan (l : List UInt8) : Int × Int := l.foldl dstep (0, 0)

theorem dscan_snoc (l : List UInt8) (c : UInt8) : dscan (l ++ [c]) = dstep (dscan l) c := by simp [dscan]
theorem dscan_bd (l : List UInt8) : 0 ≤ (dscan l).1 ∧ (dscan l).1 ≤ l.length ∧ -(l.length : Int) ≤ (dscan l).2 ∧ (dscan l).2 ≤ l.length := by
  induction hl : l.length generalizing l with
  | zero => have := List.eq_nil_of_length_eq_zero hl; subst this; simp [dscan]
  | succ n ih =>
    have hne : l ≠ [] := by intro e; subst e; simp at hl
    obtain ⟨l', c, rfl⟩ : ∃ l' c, l = l' ++ [c] := ⟨l.dropLast, l.getLast hne, (List.dropLast_concat_getLast hne).symm⟩
    have hn : l'.length = n := by simp at hl; exact hl
    have := ih l' hn
    rw [dscan_snoc]
    unfold dstep
    split
    · simp only []; omega
    · split <;> first | omega | (simp only []; omega)
theorem dtake (l : List UInt8) (k : Nat) (h : k < l.length) : l.take (k + 1) = l.take k ++ [l[k]] := List.take_succ_eq_append_getElem h

namespace Ty
theorem leaf_ne {c : UInt8} {k : Nat} (h : ar c = some k) : c ≠ 40 ∧ c ≠ 41 ∧ c ≠ 44 := by
  refine ⟨?_, ?_, ?_⟩ <;> rintro rfl <;> simp [ar] at h
theorem scan_text (t : Ty) : t.WF → ∀ (m n : Int) (r : List UInt8), n ≤ m → (t.text ++ r).foldl dstep (m, n) = r.foldl dstep (max m (n + t.depth), n) := by
  induction t with
  | leaf c =>
    intro h m n r hmn
    obtain ⟨h1, h2, _⟩ := leaf_ne h
    simp [Ty.text, dstep, h1, h2, Ty.depth]
    rw [Int.max_eq_left hmn]
  | one c t ih =>
    intro ⟨h, hw⟩ m n r hmn
    obtain ⟨h1, h2, _⟩ := leaf_ne h
    have e : (Ty.one c t).text ++ r = c :: 40 :: (t.text ++ (41 :: r)) := by simp [Ty.text]
    rw [e]
    simp only [List.foldl_cons]
    rw [show dstep (m, n) c = (m, n) by simp [dstep, h1, h2], show dstep (m, n) 40 = (max m (n + 1), n + 1) by simp [dstep], ih hw _ _ _ (by omega)]
    simp only [List.foldl_cons]
    congr 1
    simp [dstep, Ty.depth]
    omega
  | two c t u ih1 ih2 =>
    intro ⟨h, hw, hv⟩ m n r hmn
    obtain ⟨h1, h2, _⟩ := leaf_ne h
    have e : (Ty.two c t u).text ++ r = c :: 40 :: (t.text ++ (44 :: (u.text ++ (41 :: r)))) := by simp [Ty.text]
    rw [e]
    simp only [List.foldl_cons]
    rw [show dstep (m, n) c = (m, n) by simp [dstep, h1, h2], show dstep (m, n) 40 = (max m (n + 1), n + 1) by simp [dstep], ih1 hw _ _ _ (by omega)]
    simp only [List.foldl_cons]
    rw [show ∀ p, dstep p 44 = p by intro p; simp [dstep], ih2 hv _ _ _ (by omega)]
    simp only [List.foldl_cons]
    congr 1
    simp [dstep, Ty.depth]
    rcases Nat.le_total t.depth u.depth with hle | hle
    · rw [Nat.max_eq_right hle]; omega
    · rw [Nat.max_eq_left hle]; omega
theorem scan_depth {t : Ty} (h : t.WF) : (dscan t.text).1 = t.depth := by
  have := scan_text t h 0 0 [] (by omega)
  simp at this
  unfold dscan
  rw [this]
  first | done | (simp; done) | (simp; omega)
theorem count_size (t : Ty) : t.WF → t.text.count 40 + t.text.count 41 + t.text.count 44 + t.size = t.text.length := by
  induction t with
  | leaf c =>
    intro h
    obtain ⟨h1, h2, h3⟩ := leaf_ne h
    simp [Ty.text, Ty.size, List.count_cons, h1, h2, h3]
  | one c t ih =>
    intro ⟨h, hw⟩
    obtain ⟨h1, h2, h3⟩ := leaf_ne h
    have := ih hw
    simp [Ty.text, Ty.size, List.count_cons, List.count_append, h1, h2, h3]
    omega
  | two c t u ih1 ih2 =>
    intro ⟨h, hw, hv⟩
    obtain ⟨h1, h2, h3⟩ := leaf_ne h
    have a1 := ih1 hw
    have a2 := ih2 hv
    simp [Ty.text, Ty.size, List.count_cons, List.count_append, h1, h2, h3]
    omega
end Ty

end Go.Proofs.YtbdnhcfebgkpdaaDoor
