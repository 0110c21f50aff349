/- What the matching of a pattern with a type binds: plain. Nothing of Go. Conditions: none. -/
import Derived.Test.YtcjalnianamlaaaVar
set_option linter.unusedVariables false
set_option linter.unusedSimpArgs false
set_option maxRecDepth 100000
namespace Go.Proofs.Ytcjalnianamlaaa
open Ty
namespace MatP
/-- what each variable stands for -/
abbrev Sg := UInt8 → Option Ty
def upd (s : Sg) (c : UInt8) (t : Ty) : Sg := fun d => if d = c then some t else s d
/-- the bindings after a pattern was held against a type, none if it is not of its form -/
def mt : Ty → Ty → Sg → Option Sg
  | .leaf c, t, s => if isV c then (match s c with | some u => if u = t then some s else none | none => some (upd s c t)) else if t.head = c then some s else none
  | .one c p, t, s => if t.head = c then (match t with | .one _ u => mt p u s | _ => none) else none
  | .two c p q, t, s => if t.head = c then (match t with | .two _ u v => (mt p u s).bind (mt q v) | _ => none) else none
theorem upd_same (s : Sg) (c : UInt8) (t : Ty) : upd s c t c = some t := by simp [upd]
theorem upd_ne {s : Sg} {c d : UInt8} {t : Ty} (h : d ≠ c) : upd s c t d = s d := by simp [upd, h]
/-- every binding is a part of what was there or of the type: its text is no longer -/
theorem mt_small : ∀ (p t : Ty) (s s' : Sg) (n : Nat), t.WF → t.text.length ≤ n → (∀ c u, s c = some u → u.WF ∧ u.text.length ≤ n) → mt p t s = some s' → ∀ c u, s' c = some u → u.WF ∧ u.text.length ≤ n
  | .leaf d, t, s, s', n, hw, hn, hs, h => by
    unfold mt at h
    split at h
    · split at h
      · split at h
        · cases h; exact hs
        · simp at h
      · cases h
        intro c u hu
        unfold upd at hu
        split at hu
        · cases hu; exact ⟨hw, hn⟩
        · exact hs c u hu
    · split at h
      · cases h; exact hs
      · simp at h
  | .one d p, t, s, s', n, hw, hn, hs, h => by
    unfold mt at h
    split at h
    · match t, hw, hn, h with
      | .one e u, hw, hn, h => exact mt_small p u s s' n hw.2 (by simp [Ty.text] at hn; omega) hs h
      | .leaf e, hw, hn, h => simp at h
      | .two e u v, hw, hn, h => simp at h
    · simp at h
  | .two d p q, t, s, s', n, hw, hn, hs, h => by
    unfold mt at h
    split at h
    · match t, hw, hn, h with
      | .two e u v, hw, hn, h =>
        simp only at h
        cases h1 : mt p u s with
        | none => rw [h1] at h; simp at h
        | some s1 =>
          rw [h1] at h
          have q1 := mt_small p u s s1 n hw.2.1 (by simp [Ty.text] at hn; omega) hs h1
          exact mt_small q v s1 s' n hw.2.2 (by simp [Ty.text] at hn; omega) q1 h
      | .leaf e, hw, hn, h => simp at h
      | .one e u, hw, hn, h => simp at h
    · simp at h
end MatP
end Go.Proofs.Ytcjalnianamlaaa
