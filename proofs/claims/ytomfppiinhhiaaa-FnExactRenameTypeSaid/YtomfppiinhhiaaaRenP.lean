/- Plain facts about the renaming of variables to capital ones. Nothing of Go. Conditions: none. -/
import Derived.Test.YtomfppiinhhiaaaVarsS
import Derived.Test.YtomfppiinhhiaaaTypeFns
set_option linter.unusedVariables false
set_option linter.unusedSimpArgs false
set_option maxRecDepth 100000
namespace Go.Proofs.Ytomfppiinhhiaaa
open Ty
namespace RenP
/-- the capital letter of a variable -/
def cap (c : UInt8) : UInt8 := if c = 120 then 88 else if c = 121 then 89 else if c = 122 then 90 else c
theorem cap_three (c : UInt8) : cap c ≠ 120 ∧ cap c ≠ 121 ∧ cap c ≠ 122 := by
  unfold cap
  by_cases h1 : c = 120
  · rw [if_pos h1]; decide
  rw [if_neg h1]
  by_cases h2 : c = 121
  · rw [if_pos h2]; decide
  rw [if_neg h2]
  by_cases h3 : c = 122
  · rw [if_pos h3]; decide
  rw [if_neg h3]
  exact ⟨h1, h2, h3⟩
theorem cap_id {c : UInt8} (h1 : c ≠ 120) (h2 : c ≠ 121) (h3 : c ≠ 122) : cap c = c := by unfold cap; rw [if_neg h1, if_neg h2, if_neg h3]
theorem cap_cap (c : UInt8) : cap (cap c) = cap c := cap_id (cap_three c).1 (cap_three c).2.1 (cap_three c).2.2
theorem ar_cap (c : UInt8) : ar (cap c) = ar c := by
  by_cases h1 : c = 120
  · subst h1; decide
  by_cases h2 : c = 121
  · subst h2; decide
  by_cases h3 : c = 122
  · subst h3; decide
  rw [cap_id h1 h2 h3]
def capT : Ty → Ty
  | .leaf c => .leaf (cap c)
  | .one c t => .one (cap c) (capT t)
  | .two c t u => .two (cap c) (capT t) (capT u)
theorem capT_text : ∀ t : Ty, (capT t).text = t.text.map cap
  | .leaf c => rfl
  | .one c t => by
    have h := capT_text t
    simp only [capT, Ty.text, List.map_cons, List.map_append, h, List.map_nil]
    rfl
  | .two c t u => by
    have h := capT_text t
    have h2 := capT_text u
    simp only [capT, Ty.text, List.map_cons, List.map_append, h, h2, List.map_nil]
    rfl
theorem capT_WF : ∀ t : Ty, t.WF → (capT t).WF
  | .leaf c, h => by show ar (cap c) = some 0; rw [ar_cap]; exact h
  | .one c t, h => ⟨by show ar (cap c) = some 1; rw [ar_cap]; exact h.1, capT_WF t h.2⟩
  | .two c t u, h => ⟨by show ar (cap c) = some 2; rw [ar_cap]; exact h.1, capT_WF t h.2.1, capT_WF u h.2.2⟩
theorem capT_size : ∀ t : Ty, (capT t).size = t.size ∧ (capT t).depth = t.depth
  | .leaf c => ⟨rfl, rfl⟩
  | .one c t => by
    have h := capT_size t
    simp [capT, Ty.size, Ty.depth, h.1, h.2]
  | .two c t u => by
    have h := capT_size t
    have h2 := capT_size u
    simp [capT, Ty.size, Ty.depth, h.1, h.2, h2.1, h2.2]
/-- what RenameType returns -/
def renL (l : List UInt8) : List UInt8 := if (ty l).isSome then l.map cap else []
theorem ren_some {l : List UInt8} {t : Ty} (h : ty l = some t) : renL l = l.map cap ∧ ty (l.map cap) = some (capT t) := by
  obtain ⟨e1, e2, e3⟩ := ty_some h
  refine ⟨by unfold renL; rw [h]; rfl, ?_⟩
  have h2 := ty_of (capT_WF t e2) (by rw [capT_text, List.length_map, ← e1]; exact e3)
  rw [capT_text, ← e1] at h2
  exact h2
theorem ren_none {l : List UInt8} (h : ty l = none) : renL l = [] := by unfold renL; rw [h]; rfl
theorem ren_again {l : List UInt8} {t : Ty} (h : ty l = some t) : renL (l.map cap) = l.map cap := by
  obtain ⟨-, h2⟩ := ren_some h
  obtain ⟨h3, -⟩ := ren_some h2
  rw [h3, List.map_map]
  apply List.map_congr_left
  intro c _
  exact cap_cap c
theorem size_same {l : List UInt8} {t : Ty} (h : ty l = some t) : sizeI (l.map cap) = sizeI l ∧ depthI (l.map cap) = depthI l := by
  obtain ⟨-, h2⟩ := ren_some h
  unfold sizeI depthI
  rw [h, h2]
  have := capT_size t
  exact ⟨by show ((capT t).size : Int) = t.size; rw [this.1], by show ((capT t).depth : Int) = t.depth; rw [this.2]⟩
theorem vars_mem {l : List UInt8} {v : UInt8} (h : v ∈ varsL l) : v ∈ l ∧ v ∈ vlist := by
  unfold varsL at h
  obtain ⟨h1, h2⟩ := List.mem_filter.1 h
  refine ⟨?_, h1⟩
  have h3 : 0 < countI l [v] := by simpa using h2
  unfold countI at h3
  split at h3
  · simp only at h3
    split at h3
    · exact List.count_pos_iff.1 (by omega)
    · omega
  · omega
theorem vars_cap {l : List UInt8} {k : Nat} {v : UInt8} (h : (varsL (l.map cap))[k]? = some v) : v.toNat ≤ 90 := by
  obtain ⟨h1, h2⟩ := vars_mem (List.mem_of_getElem? h)
  obtain ⟨c, -, rfl⟩ := List.mem_map.1 h1
  obtain ⟨q1, q2, q3⟩ := cap_three c
  simp only [vlist, List.mem_cons, List.not_mem_nil, or_false] at h2
  rcases h2 with h | h | h | h | h | h
  · rw [h]; decide
  · rw [h]; decide
  · rw [h]; decide
  · exact absurd h q1
  · exact absurd h q2
  · exact absurd h q3
end RenP
end Go.Proofs.Ytomfppiinhhiaaa
