/- A node of either side by the list of its parts; texts by parts; strings.Join over a row. Conditions: none. -/
import Derived.Test.YtcjalnianamlaaaL1Read
import Derived.Test.YtcjalnianamlaaaImplT
import Derived.Lib.Join
import Derived.Test.YtcjalnianamlaaaListS
set_option linter.unusedVariables false
set_option linter.unusedSimpArgs false
set_option maxRecDepth 100000
namespace Go.Proofs.Ytcjalnianamlaaa
open Go.RowKit Ty ListS
namespace Parts
theorem size_parts (t u : Ty) (j : Nat) (h : t.parts[j]? = some u) : u.size < t.size := by
  cases t with
  | leaf c => simp [Ty.parts] at h
  | one c a => rcases j with _ | j <;> simp [Ty.parts] at h; subst h; simp [Ty.size]
  | two c a b =>
    match j, h with
    | 0, h => simp [Ty.parts] at h; subst h; simp [Ty.size]; omega
    | 1, h => simp [Ty.parts] at h; subst h; simp [Ty.size]; have : 0 < a.size := by cases a <;> simp [Ty.size] <;> omega
              omega
    | j + 2, h => simp [Ty.parts] at h
theorem parts_len (t : Ty) : t.parts.length ≤ 2 := by cases t <;> simp [Ty.parts]
/-- the brackets and commas ahead of the parts -/
def pre : List Ty → List UInt8
  | [] => []
  | t :: ts => 40 :: (t.text ++ ts.flatMap fun u => 44 :: u.text)
def sep (ts : List Ty) : UInt8 := if ts = [] then 40 else 44
theorem pre_snoc (ts : List Ty) (t : Ty) : pre (ts ++ [t]) = pre ts ++ sep ts :: t.text := by
  cases ts with
  | nil => simp [pre, sep]
  | cons u us => simp [pre, sep]
def close (ts : List Ty) : List UInt8 := if ts = [] then [] else [41]
theorem text_pre (t : Ty) : t.text = t.head :: (pre t.parts ++ close t.parts) := by cases t <;> simp [Ty.text, Ty.head, Ty.parts, pre, close]
theorem text_parts_le (t u : Ty) (j : Nat) (h : t.parts[j]? = some u) : u.text.length < t.text.length := by
  cases t with
  | leaf c => simp [Ty.parts] at h
  | one c a => rcases j with _ | j <;> simp [Ty.parts] at h; subst h; simp [Ty.text]; omega
  | two c a b =>
    match j, h with
    | 0, h => simp [Ty.parts] at h; subst h; simp [Ty.text]; omega
    | 1, h => simp [Ty.parts] at h; subst h; simp [Ty.text]; omega
    | j + 2, h => simp [Ty.parts] at h
theorem pre_len (t : Ty) (k : Nat) : (pre (t.parts.take k)).length ≤ t.text.length := by
  rcases k with _ | _ | k <;> cases t <;> simp [Ty.parts, pre, Ty.text] <;> omega
def texts (ts : List Ty) : List ByteArray := ts.map fun u => ⟨u.text.toArray⟩
theorem join_pre (ts : List Ty) (h : ts ≠ []) : 40 :: Lib.join ((texts ts).map (·.data.toList)) [44] = pre ts := by
  cases ts with
  | nil => exact absurd rfl h
  | cons u us =>
    simp only [texts, List.map_cons, Lib.join_cons, pre]
    congr 2
    unfold Lib.joinTail
    rw [List.map_map]
    induction us with
    | nil => rfl
    | cons v vs ih => simp at ih ⊢; exact ih
/-- the program's node, by its parts -/
theorem inode {lo : Nat} {w : World} {t : Ty} {b : Nat} (h : INode lo w t b) : lo ≤ b ∧ ∃ v ps, w.heap[b]? = some (.cells #[.string ⟨#[t.head]⟩, v, .pointer none] 113 (0, 0)) ∧ w.ownsRow lo 81 1 v t.parts.length ps ∧ ∀ (j : Nat) (u : Ty), t.parts[j]? = some u → ∃ p, ps[j]? = some (.pointer (some ⟨p, 0, none⟩)) ∧ INode lo w u p := by
  cases t with
  | leaf c =>
    obtain ⟨hl, v, h1, h2⟩ := h
    exact ⟨hl, v, [], h1, h2, fun j u hj => by simp [Ty.parts] at hj⟩
  | one c a =>
    obtain ⟨hl, v, p, h1, h2, h3⟩ := h
    refine ⟨hl, v, _, h1, h2, fun j u hj => ?_⟩
    rcases j with _ | j <;> simp [Ty.parts] at hj
    subst hj
    exact ⟨p, rfl, h3⟩
  | two c a b =>
    obtain ⟨hl, v, p, q, h1, h2, h3, h4⟩ := h
    refine ⟨hl, v, _, h1, h2, fun j u hj => ?_⟩
    match j, hj with
    | 0, hj => simp [Ty.parts] at hj; subst hj; exact ⟨p, rfl, h3⟩
    | 1, hj => simp [Ty.parts] at hj; subst hj; exact ⟨q, rfl, h4⟩
    | j + 2, hj => simp [Ty.parts] at hj
/-- the reference's node, by its parts -/
theorem snode {lo : Nat} {w : World} {t : Ty} {h s : Value} (hn : SNode lo w t h s) : h = .int .u8 t.head.toNat ∧ ∃ ps, w.ownsRow lo 70 2 s t.parts.length ps ∧ ∀ (j : Nat) (u : Ty), t.parts[j]? = some u → ∃ h1 s1, ps[j * 2]? = some h1 ∧ ps[j * 2 + 1]? = some s1 ∧ SNode lo w u h1 s1 := by
  cases t with
  | leaf c =>
    obtain ⟨e, h2⟩ := hn
    exact ⟨e, [], h2, fun j u hj => by simp [Ty.parts] at hj⟩
  | one c a =>
    obtain ⟨e, h1, s1, h2, h3⟩ := hn
    refine ⟨e, _, h2, fun j u hj => ?_⟩
    rcases j with _ | j <;> simp [Ty.parts] at hj
    subst hj
    exact ⟨h1, s1, rfl, rfl, h3⟩
  | two c a b =>
    obtain ⟨e, h1, s1, g1, r1, h2, h3, h4⟩ := hn
    refine ⟨e, _, h2, fun j u hj => ?_⟩
    match j, hj with
    | 0, hj => simp [Ty.parts] at hj; subst hj; exact ⟨h1, s1, rfl, rfl, h3⟩
    | 1, hj => simp [Ty.parts] at hj; subst hj; exact ⟨g1, r1, rfl, rfl, h4⟩
    | j + 2, hj => simp [Ty.parts] at hj
end Parts
end Go.Proofs.Ytcjalnianamlaaa
