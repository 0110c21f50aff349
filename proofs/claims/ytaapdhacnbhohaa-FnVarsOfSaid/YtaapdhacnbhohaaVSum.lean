/- Plain facts about the variables of a type: how often they stand in it. Nothing of Go. Conditions: none. -/
import Derived.Test.YtaapdhacnbhohaaVarsS
import Derived.Test.YtaapdhacnbhohaaTypeFns
set_option linter.unusedVariables false
set_option linter.unusedSimpArgs false
set_option maxRecDepth 100000
namespace Go.Proofs.Ytaapdhacnbhohaa
open Ty
namespace VSum
def vs (l : List UInt8) : Nat := (vlist.map fun v => l.count v).sum
theorem vs_app (x y : List UInt8) : vs (x ++ y) = vs x + vs y := by
  simp only [vs, vlist, List.map_cons, List.map_nil, List.sum_cons, List.sum_nil, List.count_append]
  omega
theorem vs_one (c : UInt8) : vs [c] ≤ 1 := by
  simp only [vs, vlist, List.map_cons, List.map_nil, List.sum_cons, List.sum_nil, List.count_singleton]
  by_cases h1 : c = 88
  · subst h1; decide
  by_cases h2 : c = 89
  · subst h2; decide
  by_cases h3 : c = 90
  · subst h3; decide
  by_cases h4 : c = 120
  · subst h4; decide
  by_cases h5 : c = 121
  · subst h5; decide
  simp only [beq_iff_eq, h1, h2, h3, h4, h5, if_false]
  split <;> omega
theorem vs_cons (c : UInt8) (x : List UInt8) : vs (c :: x) = vs [c] + vs x := vs_app [c] x
theorem vs_size : ∀ (t : Ty), vs t.text ≤ t.size
  | .leaf c => by simpa [Ty.text, Ty.size] using vs_one c
  | .one c t => by
    have h := vs_size t
    have h1 := vs_one c
    have h2 : vs [40] = 0 := by decide
    have h3 : vs [41] = 0 := by decide
    rw [Ty.text, vs_cons, vs_cons 40, vs_app, Ty.size]
    omega
  | .two c t u => by
    have h := vs_size t
    have h' := vs_size u
    have h1 := vs_one c
    have h2 : vs [40] = 0 := by decide
    have h3 : vs [41] = 0 := by decide
    have h4 : vs [44] = 0 := by decide
    rw [Ty.text, vs_cons, vs_cons 40, vs_app, vs_cons 44, vs_app, Ty.size]
    omega
theorem sum_filter (p : UInt8 → Bool) (f : UInt8 → Nat) : ∀ (xs : List UInt8), ((xs.filter p).map f).sum ≤ (xs.map f).sum
  | [] => by simp
  | x :: xs => by
    have h := sum_filter p f xs
    rw [List.filter_cons]
    split
    · simp only [List.map_cons, List.sum_cons]; omega
    · simp only [List.map_cons, List.sum_cons]; omega
/-- the sum of the first k counts -/
def part (l : List UInt8) (k : Nat) : Nat := (((varsL l).take k).map fun v => l.count v).sum
theorem part_step {l : List UInt8} {k : Nat} {v : UInt8} (h : (varsL l)[k]? = some v) : part l (k + 1) = part l k + l.count v := by
  obtain ⟨hk, hv⟩ := List.getElem?_eq_some_iff.1 h
  unfold part
  rw [List.take_succ_eq_append_getElem hk, hv, List.map_append, List.sum_append]
  simp
theorem count_small (l : List UInt8) (h : l.length ≤ 60) (v : UInt8) : l.count v ≤ 60 := Nat.le_trans List.count_le_length h
theorem part_small (l : List UInt8) (k : Nat) : part l k ≤ 1000000 := by
  cases h : ty l with
  | none =>
    have : varsL l = [] := by
      unfold varsL
      rw [List.filter_eq_nil_iff]
      intro v _
      simp [countI, h]
    unfold part
    rw [this]
    simp
  | some t =>
    have h1 := (ty_some h).2.2
    have h2 : ∀ (xs : List UInt8), (xs.map fun v => l.count v).sum ≤ xs.length * 60 := by
      intro xs
      induction xs with
      | nil => simp
      | cons x xs ih =>
        have := count_small l h1 x
        simp only [List.map_cons, List.sum_cons, List.length_cons]
        omega
    have h3 := h2 ((varsL l).take k)
    have h4 := varsL_len l
    have h5 : ((varsL l).take k).length ≤ 6 := by rw [List.length_take]; omega
    unfold part
    omega
theorem part_le {l : List UInt8} {t : Ty} (h : ty l = some t) : (part l (varsL l).length : Int) ≤ sizeI l := by
  have h1 := (ty_some h).1
  unfold part sizeI
  rw [List.take_length, h]
  have h2 := sum_filter (fun v => decide (0 < countI l [v])) (fun v => l.count v) vlist
  have h3 := vs_size t
  rw [← h1] at h3
  unfold vs at h3
  unfold varsL
  show (_ : Int) ≤ (t.size : Int)
  omega
theorem count_at {l : List UInt8} {k : Nat} {v : UInt8} (h : (varsL l)[k]? = some v) : countI l [v] = (l.count v : Int) ∧ 1 ≤ l.count v := by
  have hm := List.mem_of_getElem? h
  unfold varsL at hm
  have h2 := (List.mem_filter.1 hm).2
  have h3 : 0 < countI l [v] := by simpa using h2
  have h4 : countI l [v] = (l.count v : Int) := by
    unfold countI at h3 ⊢
    split at h3
    · rename_i h5
      rw [if_pos h5]
      simp only at h3 ⊢
      split at h3
      · rename_i h6
        rw [if_pos h6]
      · omega
    · omega
  exact ⟨h4, by omega⟩
theorem vars_none {l : List UInt8} (h : ty l = none) : varsL l = [] := by
  unfold varsL
  rw [List.filter_eq_nil_iff]
  intro v _
  simp [countI, h]
end VSum
end Go.Proofs.Ytaapdhacnbhohaa
