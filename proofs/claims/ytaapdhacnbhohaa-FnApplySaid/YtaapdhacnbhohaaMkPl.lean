/- Plain facts about the making of types: what is made is read back, a type is made of its head and parts, its size and its depth are theirs. Nothing of Go. Conditions: none. -/
import Derived.Test.YtaapdhacnbhohaaMkType
import Derived.Test.YtaapdhacnbhohaaTypeFns
set_option linter.unusedVariables false
set_option linter.unusedSimpArgs false
set_option maxRecDepth 100000
namespace Go.Proofs.Ytaapdhacnbhohaa
open Ty Parts MkType ListS Go.Proofs.Ytaapdhacnbhohaa.Text
namespace MkPl
theorem mk_back {nm : List UInt8} {xs : List ByteArray} {made : List UInt8} (h : mkT nm xs = some made) : headL made = nm ∧ texts (partsL made) = xs ∧ made.length ≤ 60 := by
  match nm, h with
  | [], h => simp [mkT] at h
  | a :: b :: r, h => simp [mkT] at h
  | [c], h =>
    rw [mkT_one] at h
    split at h
    · rename_i hc
      cases h
      obtain ⟨T, h1, h2, h3, h4⟩ := good hc.1 hc.2.1
      have h5 : ty (mtext c xs) = some T := by rw [← h4]; exact ty_of h1 (by rw [h4]; exact hc.2.2)
      refine ⟨?_, ?_, hc.2.2⟩
      · unfold headL; rw [h5, ← h2]
      · unfold partsL; rw [h5]; exact h3
    · simp at h
theorem part_ok {l : List UInt8} {t : Ty} (h : ty l = some t) {u : Ty} (hu : u ∈ t.parts) : u.WF ∧ u.text.length ≤ 60 ∧ ty u.text = some u := by
  obtain ⟨e1, e2, e3⟩ := ty_some h
  have hw := parts_WF e2 hu
  obtain ⟨j, hj⟩ := List.getElem?_of_mem hu
  have := text_parts_le t u j hj
  rw [← e1] at this
  exact ⟨hw, by omega, ty_of hw (by omega)⟩
theorem mk_self {l : List UInt8} {t : Ty} (h : ty l = some t) : mkT (headL l) (texts (partsL l)) = some l := by
  obtain ⟨e1, e2, e3⟩ := ty_some h
  have h1 : headL l = [t.head] := by unfold headL; rw [h]
  have h2 : partsL l = t.parts := by unfold partsL; rw [h]
  have h3 := text_mtext t
  rw [h1, h2, mkT_yes (by unfold arI; rw [ar_parts e2]; simp [texts]) (all_texts (fun u hu => ⟨(part_ok h hu).1, (part_ok h hu).2.1⟩)) (by rw [h3, ← e1]; exact e3), h3, ← e1]
def sz (ts : List Ty) (k : Nat) : Nat := 1 + ((ts.take k).map Ty.size).sum
def dp (ts : List Ty) : Nat → Nat
  | 0 => 0
  | k + 1 => match ts[k]? with | some u => max (dp ts k) (1 + u.depth) | none => dp ts k
theorem sz_step {ts : List Ty} {k : Nat} {u : Ty} (h : ts[k]? = some u) : sz ts (k + 1) = sz ts k + u.size := by
  obtain ⟨hk, hv⟩ := List.getElem?_eq_some_iff.1 h
  unfold sz
  rw [List.take_succ_eq_append_getElem hk, hv, List.map_append, List.sum_append]
  simp
  omega
theorem dp_step {ts : List Ty} {k : Nat} {u : Ty} (h : ts[k]? = some u) : dp ts (k + 1) = max (dp ts k) (1 + u.depth) := by
  show (match ts[k]? with | some u => _ | none => _) = _
  rw [h]
theorem sz_all (t : Ty) : sz t.parts t.parts.length = t.size := by
  cases t <;> simp [sz, Ty.parts, Ty.size] <;> omega
theorem dp_all (t : Ty) : dp t.parts t.parts.length = t.depth := by
  cases t <;> simp [dp, Ty.parts, Ty.depth]
theorem size_le (t : Ty) : t.size ≤ t.text.length ∧ t.depth ≤ t.text.length := by
  induction t with
  | leaf c => simp [Ty.size, Ty.depth, Ty.text]
  | one c a ih => simp [Ty.size, Ty.depth, Ty.text]; omega
  | two c a b ih1 ih2 => simp [Ty.size, Ty.depth, Ty.text]; omega
theorem strsLen3 (xs : List ByteArray) (h : xs.length ≤ 3) (hs : ∀ x ∈ xs, x.size ≤ 60) : StrsLen xs := by
  refine ⟨by omega, ?_⟩
  match xs, h with
  | [], _ => simp [Lib.join]
  | [a], _ =>
    have := hs a (by simp)
    simp [Lib.join_cons, Lib.joinTail]
    show a.size ≤ _
    omega
  | [a, b], _ =>
    have h1 := hs a (by simp)
    have h2 := hs b (by simp)
    simp [Lib.join_cons, Lib.joinTail]
    show a.size + (b.size + 1) ≤ _
    omega
  | [a, b, c], _ =>
    have h1 := hs a (by simp)
    have h2 := hs b (by simp)
    have h3 := hs c (by simp)
    simp [Lib.join_cons, Lib.joinTail]
    show a.size + (b.size + (c.size + 1) + 1) ≤ _
    omega
theorem parts_small {l : List UInt8} {t : Ty} (h : ty l = some t) : (texts (partsL l)).length ≤ 3 ∧ ∀ x ∈ texts (partsL l), x.size ≤ 60 := by
  have h2 : partsL l = t.parts := by unfold partsL; rw [h]
  rw [h2]
  refine ⟨by have := parts_len t; simp [texts]; omega, fun x hx => ?_⟩
  simp only [texts, List.mem_map] at hx
  obtain ⟨u, hu, rfl⟩ := hx
  exact (part_ok h hu).2.1
end MkPl
end Go.Proofs.Ytaapdhacnbhohaa
