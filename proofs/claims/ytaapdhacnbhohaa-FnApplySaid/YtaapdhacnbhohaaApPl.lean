/- Plain facts about bindings applied to a type and to its parts. Nothing of Go. Conditions: none. -/
import Derived.Test.YtaapdhacnbhohaaMkPl
import Derived.Test.YtaapdhacnbhohaaSubI
set_option linter.unusedVariables false
set_option linter.unusedSimpArgs false
set_option maxRecDepth 100000
namespace Go.Proofs.Ytaapdhacnbhohaa
open Ty Parts MkType ListS Go.Proofs.Ytaapdhacnbhohaa.Text Go.Proofs.Ytaapdhacnbhohaa.Sub
namespace ApPl
theorem flat_part {g : UInt8 → List UInt8} {t p : Ty} (hp : p ∈ t.parts) : (p.text.flatMap g).length ≤ (t.text.flatMap g).length := by
  cases t with
  | leaf c => simp [Ty.parts] at hp
  | one c a =>
    simp [Ty.parts] at hp
    subst hp
    simp only [Ty.text, List.flatMap_cons, List.flatMap_append, List.length_append]
    omega
  | two c a b =>
    simp [Ty.parts] at hp
    rcases hp with rfl | rfl
    · simp only [Ty.text, List.flatMap_cons, List.flatMap_append, List.length_append]
      omega
    · simp only [Ty.text, List.flatMap_cons, List.flatMap_append, List.length_append]
      omega
theorem of_some {xs : List BB} {l u : List UInt8} (h : applyB xs l = some u) : bvB xs = true ∧ (∃ t, ty l = some t) ∧ u = l.flatMap (chL xs) ∧ u.length ≤ 60 := by
  unfold applyB at h
  split at h
  · rename_i h1
    split at h
    · rename_i h2
      cases h
      cases ht : ty l with
      | none => rw [ht] at h1; simp at h1
      | some t => exact ⟨h1.1, ⟨t, rfl⟩, rfl, h2⟩
    · simp at h
  · simp at h
theorem part_apply {xs : List BB} {l u : List UInt8} {t : Ty} (h : applyB xs l = some u) (ht : ty l = some t) {p : Ty} (hp : p ∈ t.parts) : applyB xs p.text = some (sub (bmap xs) p).text := by
  obtain ⟨h1, -, h2, h3⟩ := of_some h
  obtain ⟨p1, p2, p3⟩ := MkPl.part_ok ht hp
  have hg := bv_good h1
  have h4 := flat_part (g := chL xs) hp
  rw [← (ty_some ht).1, ← h2] at h4
  rw [apply_yes h1 (by rw [p3]; rfl) (by omega), sub_text hg p3]
theorem whole {xs : List BB} {l u : List UInt8} {t : Ty} (h : applyB xs l = some u) (ht : ty l = some t) (hp : t.parts ≠ []) : mkT (headL l) (texts (t.parts.map (sub (bmap xs)))) = some u := by
  obtain ⟨h1, -, h2, h3⟩ := of_some h
  have hg := bv_good h1
  obtain ⟨e1, e2, e3⟩ := ty_some ht
  have hV : isV t.head = false := by
    cases hv : isV t.head with
    | false => rfl
    | true =>
      have := isV_ar hv
      rw [ar_parts e2] at this
      simp at this
      exact absurd this hp
  have hn := bmap_only hg xs.length t.head hV
  rw [List.take_length] at hn
  obtain ⟨s1, s2⟩ := sub_none hn
  have hW := sub_WF (f := bmap xs) (fun c u hu => (bmap_WF hu).1) t e2
  have hT := sub_text hg ht
  rw [← h2] at hT
  have hu : ty u = some (sub (bmap xs) t) := by rw [← hT]; exact ty_of hW (by rw [hT]; exact h3)
  have hm := MkPl.mk_self hu
  have q1 : headL u = headL l := by
    unfold headL
    rw [hu, ht]
    show [(sub (bmap xs) t).head] = [t.head]
    rw [s1]
  have q2 : partsL u = t.parts.map (sub (bmap xs)) := by unfold partsL; rw [hu]; exact s2
  rw [q1, q2] at hm
  exact hm
theorem leaf_one {l : List UInt8} {t : Ty} (ht : ty l = some t) (hp : t.parts = []) : ∃ c, l = [c] := by
  have e1 := (ty_some ht).1
  cases t with
  | leaf c => exact ⟨c, e1⟩
  | one c a => simp [Ty.parts] at hp
  | two c a b => simp [Ty.parts] at hp
theorem sub_small {xs : List BB} {l u : List UInt8} {t : Ty} (h : applyB xs l = some u) (ht : ty l = some t) {p : Ty} (hp : p ∈ t.parts) : (sub (bmap xs) p).text.length ≤ 60 := (of_some (part_apply h ht hp)).2.2.2
end ApPl
end Go.Proofs.Ytaapdhacnbhohaa
