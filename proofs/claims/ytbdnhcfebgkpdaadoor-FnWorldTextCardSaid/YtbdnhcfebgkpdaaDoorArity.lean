/- How many parts a letter has: what the program's arity and the reference's l1Arity return. Conditions: none. -/
import Derived.Test.YtbdnhcfebgkpdaaDoorStr
import Derived.Test.YtbdnhcfebgkpdaaDoorTy
set_option linter.unusedVariables false
set_option linter.unusedSimpArgs false
set_option maxRecDepth 100000
namespace Go.Proofs.YtbdnhcfebgkpdaaDoor
open Go.RowKit Ty

/-- as the code counts: -1 for no letter -/
def arI (c : UInt8) : Int := match ar c with | some k => k | none => -1

theorem contains_leaf (c : UInt8) : ([105, 98, 117, 120, 121, 122, 88, 89, 90] : List UInt8).contains c = decide (ar c = some 0) := by
  unfold ar
  by_cases h : c = 105 ∨ c = 98 ∨ c = 117 ∨ c = 120 ∨ c = 121 ∨ c = 122 ∨ c = 88 ∨ c = 89 ∨ c = 90
  · rw [if_pos h]; simp; rcases h with h | h | h | h | h | h | h | h | h <;> simp [h]
  · rw [if_neg h]
    have : ([105, 98, 117, 120, 121, 122, 88, 89, 90] : List UInt8).contains c = false := by
      simp only [not_or] at h; simp [h]
    rw [this]
    split
    · simp
    · split <;> simp
theorem ar_one {c : UInt8} : ar c = some 1 ↔ c = 108 ∨ c = 109 := by
  unfold ar
  constructor
  · intro h; split at h
    · simp at h
    · split at h
      · assumption
      · split at h <;> simp at h
  · rintro (rfl | rfl) <;> simp
theorem ar_two {c : UInt8} : ar c = some 2 ↔ c = 112 := by
  unfold ar
  constructor
  · intro h; split at h
    · simp at h
    · split at h
      · simp at h
      · split at h
        · assumption
        · simp at h
  · rintro rfl; simp

theorem arity_any (c : UInt8) (w : World) :
    Calls Tryd.prog 84 #[.string ⟨#[c]⟩] w fun e w' => e = .returned (.int .i64 (arI c)) ∧ w = w' := by
  have H := contains_leaf c
  have H2 := @ar_one c
  have H3 := @ar_two c
  rcases ar_cases c with h | h | h | h
  · rw [h] at H H2 H3
    have e0 : Hid (([105, 98, 117, 120, 121, 122, 88, 89, 90] : List UInt8).contains c = false) := by rw [H]; rfl
    have e1 : ([c] == [108]) = false := by simp at H2 ⊢; exact H2.1
    have e2 : ([c] == [109]) = false := by simp at H2 ⊢; exact H2.2
    have e3 : ([c] == [112]) = false := by simp at H3 ⊢; exact H3
    have e4 : Hid (arI c = -1) := by simp [arI, h, Hid]
    clear H H2 H3 h
    go_enter Tryd.func84, Tryd.ntmps84
    go_wp2_with (go_at_call 70; refine (sContains _ _ _).mono ?_; rintro e w' ⟨rfl, rfl⟩; rw [e0.out])
    go_ret
    exact ⟨ret_int e4.out.symm, rfl⟩
  · rw [h] at H
    have e0 : Hid (([105, 98, 117, 120, 121, 122, 88, 89, 90] : List UInt8).contains c = true) := by rw [H]; rfl
    have e4 : Hid (arI c = 0) := by simp [arI, h, Hid]
    clear H H2 H3 h
    go_enter Tryd.func84, Tryd.ntmps84
    go_wp2_with (go_at_call 70; refine (sContains _ _ _).mono ?_; rintro e w' ⟨rfl, rfl⟩; rw [e0.out])
    go_ret
    exact ⟨ret_int e4.out.symm, rfl⟩
  · rw [h] at H
    have e0 : Hid (([105, 98, 117, 120, 121, 122, 88, 89, 90] : List UInt8).contains c = false) := by rw [H]; rfl
    have e4 : Hid (arI c = 1) := by simp [arI, h, Hid]
    rcases H2.1 h with rfl | rfl
    all_goals
      clear H H2 H3 h
      go_enter Tryd.func84, Tryd.ntmps84
      go_wp2_with (go_at_call 70; refine (sContains _ _ _).mono ?_; rintro e w' ⟨rfl, rfl⟩; rw [e0.out])
      go_ret
      exact ⟨ret_int e4.out.symm, rfl⟩
  · rw [h] at H
    have e0 : Hid (([105, 98, 117, 120, 121, 122, 88, 89, 90] : List UInt8).contains c = false) := by rw [H]; rfl
    have e4 : Hid (arI c = 2) := by simp [arI, h, Hid]
    obtain rfl := H3.1 h
    clear H H2 H3 h
    go_enter Tryd.func84, Tryd.ntmps84
    go_wp2_with (go_at_call 70; refine (sContains _ _ _).mono ?_; rintro e w' ⟨rfl, rfl⟩; rw [e0.out])
    go_ret
    exact ⟨ret_int e4.out.symm, rfl⟩

/-- what a text that is no letter has -/
theorem arity_len (s : ByteArray) (w : World) (h : s.size ≠ 1) :
    Calls Tryd.prog 84 #[.string s] w fun e w' => e = .returned (.int .i64 (-1)) ∧ w = w' := by
  have h1 : (!((s.size : Int) == 1)) = true := by
    have : (s.size : Int) ≠ 1 := by omega
    simpa using this
  go_enter Tryd.func84, Tryd.ntmps84
  go_wp2
  go_ret
  exact ⟨rfl, rfl⟩

theorem l1Arity_any (c : UInt8) (w : World) :
    Calls Tryd.prog 98 #[.int .u8 c.toNat] w fun e w' => e = .returned (.int .i64 (arI c)) ∧ w = w' := by
  have key : ∃ k : Int, Lib.indexByte [105, 98, 117, 108, 109, 112, 120, 121, 122, 88, 89, 90] c = k ∧ ((k < 0 ∧ arI c = -1) ∨ ((k = 3 ∨ k = 4) ∧ arI c = 1) ∨ (k = 5 ∧ arI c = 2) ∨ (0 ≤ k ∧ k ≠ 3 ∧ k ≠ 4 ∧ k ≠ 5 ∧ arI c = 0)) := by
    refine ⟨_, rfl, ?_⟩
    rcases ar_cases c with h | h | h | h
    · left
      refine ⟨?_, by simp [arI, h]⟩
      rw [indexByte_neg]
      · omega
      intro j hj e
      have : c ∈ ([105, 98, 117, 108, 109, 112, 120, 121, 122, 88, 89, 90] : List UInt8) := List.mem_of_getElem? e
      simp at this
      rcases this with rfl | rfl | rfl | rfl | rfl | rfl | rfl | rfl | rfl | rfl | rfl | rfl <;> simp [ar] at h
    · right; right; right
      have hc := contains_leaf c
      rw [h] at hc
      simp at hc
      rcases hc with rfl | rfl | rfl | rfl | rfl | rfl | rfl | rfl | rfl <;> decide
    · right; left
      rcases ar_one.1 h with rfl | rfl <;> decide
    · right; right; left
      obtain rfl := ar_two.1 h
      decide
  obtain ⟨k, hk, H⟩ := key
  have HK := hid hk
  clear hk
  rcases H with ⟨h, e⟩ | ⟨h, e⟩ | ⟨h, e⟩ | ⟨h1, h3, h4, h5, e⟩
  · have E := hid e
    clear e
    go_enter Tryd.func98, Tryd.ntmps98
    go_wp2_with (go_at_call 88; refine (l13Find _ _ _ (by decide)).mono ?_; rintro e w' ⟨rfl, rfl⟩; rw [HK.out])
    go_ret
    exact ⟨ret_int E.out.symm, rfl⟩
  · have E := hid e
    clear e
    rcases h with rfl | rfl
    all_goals
      go_enter Tryd.func98, Tryd.ntmps98
      go_wp2_with (go_at_call 88; refine (l13Find _ _ _ (by decide)).mono ?_; rintro e w' ⟨rfl, rfl⟩; rw [HK.out])
      go_ret
      exact ⟨ret_int E.out.symm, rfl⟩
  · have E := hid e
    subst h
    clear e
    go_enter Tryd.func98, Tryd.ntmps98
    go_wp2_with (go_at_call 88; refine (l13Find _ _ _ (by decide)).mono ?_; rintro e w' ⟨rfl, rfl⟩; rw [HK.out])
    go_ret
    exact ⟨ret_int E.out.symm, rfl⟩
  · have E := hid e
    have g3 : (k == 3) = false := by simpa using h3
    have g4 : (k == 4) = false := by simpa using h4
    have g5 : (k == 5) = false := by simpa using h5
    have g0 : ¬ k < 0 := by omega
    clear e h3 h4 h5
    go_enter Tryd.func98, Tryd.ntmps98
    go_wp2_with (go_at_call 88; refine (l13Find _ _ _ (by decide)).mono ?_; rintro e w' ⟨rfl, rfl⟩; rw [HK.out])
    go_ret
    exact ⟨ret_int E.out.symm, rfl⟩

end Go.Proofs.YtbdnhcfebgkpdaaDoor
