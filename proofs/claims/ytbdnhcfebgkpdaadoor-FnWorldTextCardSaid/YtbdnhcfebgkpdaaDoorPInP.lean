/- Which instance a text spells: plain facts. Conditions: none. -/
import Derived.Test.YtbdnhcfebgkpdaaDoorSplP
import Derived.Test.YtbdnhcfebgkpdaaDoorNeedP
import Derived.Test.YtbdnhcfebgkpdaaDoorPairs
set_option linter.unusedVariables false
set_option linter.unusedSimpArgs false
namespace Go.Proofs.YtbdnhcfebgkpdaaDoor
open Ty SplP
namespace PInP
/-- the need that a text spells, as it lies in memory -/
def needB (l : List UInt8) : Option BB := (need l).map fun p => (⟨#[p.1]⟩, ⟨p.2.toArray⟩)
def allN : List (List UInt8) → Option (List BB)
  | [] => some []
  | p :: ps => match needB p, allN ps with | some x, some xs => some (x :: xs) | _, _ => none
/-- the instance that a text spells -/
def instL (l : List UInt8) : Option (BB × List BB) := match splitC 58 l with
  | [a] => (needB a).map (fun n => (n, []))
  | [a, b] => match needB a, allN (splitC 38 b) with | some n, some ns => some (n, ns) | _, _ => none
  | _ => none
/-- the signs of types -/
def signs : List UInt8 := [105, 98, 117, 108, 109, 112, 120, 121, 122, 88, 89, 90, 40, 41, 44]
theorem ar_sign {c : UInt8} (h : ar c ≠ none) : c ∈ signs := by
  rcases ar_cases c with h0 | h0 | h0 | h0
  · exact absurd h0 h
  all_goals
    unfold ar at h0
    simp [signs]
    split at h0
    · rename_i hh; rcases hh with hh | hh | hh | hh | hh | hh | hh | hh | hh <;> simp [hh]
    · split at h0
      · rename_i hh; rcases hh with hh | hh <;> simp [hh]
      · split at h0
        · rename_i hh; simp [hh]
        · simp at h0
theorem text_signs : ∀ t : Ty, t.WF → ∀ c ∈ t.text, c ∈ signs := by
  intro t
  induction t with
  | leaf d =>
    intro hw c hc
    simp [Ty.text] at hc
    subst hc
    exact ar_sign (by rw [show ar c = some 0 from hw]; simp)
  | one d t ih =>
    intro hw c hc
    simp [Ty.text] at hc
    rcases hc with rfl | rfl | hc | rfl
    · exact ar_sign (by rw [show ar c = some 1 from hw.1]; simp)
    · decide
    · exact ih hw.2 c hc
    · decide
  | two d t u ih1 ih2 =>
    intro hw c hc
    simp [Ty.text] at hc
    rcases hc with rfl | rfl | hc | rfl | hc | rfl
    · exact ar_sign (by rw [show ar c = some 2 from hw.1]; simp)
    · decide
    · exact ih1 hw.2.1 c hc
    · decide
    · exact ih2 hw.2.2 c hc
    · decide
theorem ty_signs {l : List UInt8} (h : (ty l).isSome = true) : ∀ c ∈ l, c ∈ signs := by
  obtain ⟨t, ht⟩ := Option.isSome_iff_exists.1 h
  obtain ⟨he, hw, -⟩ := ty_some ht
  rw [he]
  exact text_signs t hw
theorem need_some {l : List UInt8} {c : UInt8} {t : List UInt8} (h : need l = some (c, t)) : l = c :: 32 :: t ∧ isCap c = true ∧ (ty t).isSome = true := by
  unfold need at h
  split at h
  · split at h
    · rename_i hh
      cases h
      exact ⟨by rw [hh.1], hh.2.1, hh.2.2⟩
    · simp at h
  · simp at h
theorem need_mk {c : UInt8} {t : List UInt8} (h1 : isCap c = true) (h2 : (ty t).isSome = true) : need (c :: 32 :: t) = some (c, t) := by
  unfold need
  simp [h1, h2]
theorem needB_some {l : List UInt8} {p : BB} (h : needB l = some p) : ∃ c t, l = c :: 32 :: t ∧ isCap c = true ∧ (ty t).isSome = true ∧ p = (⟨#[c]⟩, ⟨t.toArray⟩) := by
  unfold needB at h
  obtain ⟨⟨c, t⟩, h1, h2⟩ := Option.map_eq_some_iff.1 h
  obtain ⟨h3, h4, h5⟩ := need_some h1
  exact ⟨c, t, h3, h4, h5, h2.symm⟩
/-- a need's text has none of these signs -/
theorem need_free {l : List UInt8} {p : BB} (h : needB l = some p) {x : UInt8} (hx : x ∉ signs) (h32 : x ≠ 32) (hc : isCap x = false) : x ∉ l := by
  obtain ⟨c, t, rfl, h1, h2, -⟩ := needB_some h
  intro hm
  simp at hm
  rcases hm with rfl | rfl | hm
  · rw [h1] at hc; simp at hc
  · exact h32 rfl
  · exact hx (ty_signs h2 x hm)
theorem allN_len : ∀ {ps : List (List UInt8)} {xs : List BB}, allN ps = some xs → xs.length = ps.length
  | [], xs, h => by simp [allN] at h; subst h; rfl
  | p :: ps, xs, h => by
    unfold allN at h
    split at h
    · rename_i x ys h1 h2
      cases h
      simp [allN_len h2]
    · simp at h
theorem allN_at : ∀ {ps : List (List UInt8)} {xs : List BB}, allN ps = some xs → ∀ (k : Nat) (p : List UInt8), ps[k]? = some p → ∃ x, xs[k]? = some x ∧ needB p = some x
  | [], xs, h, k, p, hk => by simp at hk
  | q :: ps, xs, h, k, p, hk => by
    unfold allN at h
    split at h
    · rename_i x ys h1 h2
      cases h
      cases k with
      | zero => simp at hk; subst hk; exact ⟨x, by simp, h1⟩
      | succ k => exact allN_at h2 k p (by simpa using hk)
    · simp at h
theorem allN_none : ∀ {ps : List (List UInt8)} {k : Nat} {p : List UInt8}, ps[k]? = some p → needB p = none → allN ps = none
  | [], k, p, hk, h => by simp at hk
  | q :: ps, k, p, hk, h => by
    unfold allN
    cases k with
    | zero => simp at hk; subst hk; rw [h]
    | succ k =>
      rw [allN_none (ps := ps) (k := k) (by simpa using hk) h]
      split
      · rename_i h1 h2; simp at h2
      · rfl
theorem allN_mk : ∀ {ps : List (List UInt8)} {xs : List BB}, xs.length = ps.length → (∀ (k : Nat) (p : List UInt8) (x : BB), ps[k]? = some p → xs[k]? = some x → needB p = some x) → allN ps = some xs
  | [], xs, hl, h => by have : xs = [] := by simpa using hl
                        subst this; rfl
  | q :: ps, [], hl, h => by simp at hl
  | q :: ps, x :: xs, hl, h => by
    have h1 := h 0 q x (by simp) (by simp)
    have h2 := allN_mk (ps := ps) (xs := xs) (by simpa using hl) (fun k p y hk hy => h (k + 1) p y (by simpa using hk) (by simpa using hy))
    unfold allN
    rw [h1, h2]
/-- the program's way: no colon -/
theorem inst_plain {l : List UInt8} (h : 58 ∉ l) : instL l = (needB l).map (fun n => (n, [])) := by
  unfold instL
  rw [splitC_none h]
/-- the program's way: behind the first colon stand the needs -/
theorem inst_cut {a b : List UInt8} (h : 58 ∉ a) : instL (a ++ 58 :: b) = match needB a, allN (splitC 38 b) with | some n, some ns => some (n, ns) | _, _ => none := by
  unfold instL
  rw [splitC_at b h]
  rcases cut_first 58 b with hb | ⟨a2, b2, rfl, hb⟩
  · rw [splitC_none hb]
  · rw [splitC_at b2 hb]
    have hbad : allN (splitC 38 (a2 ++ 58 :: b2)) = none := by
      cases he : allN (splitC 38 (a2 ++ 58 :: b2)) with
      | none => rfl
      | some xs =>
        exfalso
        have hm : (58 : UInt8) ∈ Lib.join (splitC 38 (a2 ++ 58 :: b2)) [38] := by rw [splitC_join]; simp
        have hj : ∀ (ps : List (List UInt8)), (58 : UInt8) ∈ Lib.join ps [38] → ∃ p ∈ ps, (58 : UInt8) ∈ p := by
          intro ps
          cases ps with
          | nil => intro h; simp [Lib.join_nil] at h
          | cons p ps =>
            rw [Lib.join_cons]
            intro h
            rw [List.mem_append] at h
            rcases h with h | h
            · exact ⟨p, by simp, h⟩
            · simp [Lib.joinTail] at h
              obtain ⟨q, ⟨r, hr, rfl⟩, h⟩ := h
              simp at h
              exact ⟨r, by simp [hr], h⟩
        obtain ⟨p, hp, h58⟩ := hj _ hm
        obtain ⟨k, hk, hh⟩ := List.mem_iff_getElem.1 hp
        obtain ⟨x, -, hx⟩ := allN_at he k p (by rw [List.getElem?_eq_getElem hk, hh])
        exact need_free hx (by decide) (by decide) (by decide) h58
    rw [hbad]
    cases hs : splitC 58 b2 with
    | nil => exact absurd hs (splitC_ne 58 b2)
    | cons p ps =>
      cases needB a <;> rfl
end PInP
end Go.Proofs.YtbdnhcfebgkpdaaDoor
