/- What the library's functions on strings return at a substring of one byte, and the reference's search for a byte. Conditions: those typed. -/
import Derived.Test.YtbdnhcfebgkpdaaDoorRows
import Derived.WalkKit
import Derived.ProofKit
import Derived.Lib.Walk
import Derived.Lib.Strings
import Derived.Lib.Bytealg
import Derived.Lib.IndexAny
set_option linter.unusedVariables false
set_option linter.unusedSimpArgs false
set_option maxRecDepth 100000
namespace Go.Proofs.YtbdnhcfebgkpdaaDoor
open Go.RowKit

theorem hid {p : Prop} (h : p) : Hid p := h
theorem ret_int {k : IntKind} {a b : Int} (h : a = b) : Ending.returned (.int k a) = .returned (.int k b) := by rw [h]
theorem ret_bool {a b : Bool} (h : a = b) : Ending.returned (.bool a) = .returned (.bool b) := by rw [h]
theorem ret_string {a b : ByteArray} (h : a = b) : Ending.returned (.string a) = .returned (.string b) := by rw [h]

theorem indexByte_at : ∀ (l : List UInt8) (c : UInt8) (k : Nat), l[k]? = some c → (∀ j, j < k → l[j]? ≠ some c) → Lib.indexByte l c = k := by
  intro l c
  induction l with
  | nil => intro k h; simp at h
  | cons x l ih =>
    intro k h hj
    unfold Lib.indexByte
    cases k with
    | zero => simp at h; subst h; simp
    | succ k =>
      have hx : (x == c) = false := by
        have := hj 0 (by omega)
        simpa using this
      have := ih k (by simpa using h) (fun j hlt => by have := hj (j + 1) (by omega); simpa using this)
      rw [hx, this]
      have e : (((k : Nat) : Int) == -1) = false := by simp
      simp [e]

theorem indexByte_neg : ∀ (l : List UInt8) (c : UInt8), (∀ j, j < l.length → l[j]? ≠ some c) → Lib.indexByte l c = -1 := by
  intro l c
  induction l with
  | nil => intro _; rfl
  | cons x l ih =>
    intro hj
    unfold Lib.indexByte
    have hx : (x == c) = false := by
      have := hj 0 (by simp)
      simpa using this
    rw [hx, ih (fun j hlt => by have := hj (j + 1) (by simp; omega); simpa using this)]
    simp

theorem slIndexByte (s : ByteArray) (c : Int) (w : World) :
    Calls Tryd.prog 90 #[.string s, .int .u8 c] w fun e w' => e = .returned (.int .i64 (Lib.indexByte s.data.toList c.toNat.toUInt8)) ∧ w = w' := by
  go_enter Tryd.func90, Tryd.ntmps90
  go_wp2
  rw [run_callFunc_extern Tryd.func103 (by kernel_rfl) (by kernel_rfl) (by kernel_rfl) (e := Extern.BytealgIndexByte.indexByte) (by kernel_rfl), Lib.run_indexByteString]
  simp only [Result.andThen]
  rw [Oper.upon_value]
  go_wp2
  go_ret
  exact ⟨rfl, rfl⟩

theorem slIndex (s : ByteArray) (c : UInt8) (w : World) :
    Calls Tryd.prog 77 #[.string s, .string ⟨#[c]⟩] w fun e w' => e = .returned (.int .i64 (Lib.indexByte s.data.toList c)) ∧ w = w' := by
  by_cases h : ([c] == s.toList) = true
  · go_enter Tryd.func77, Tryd.ntmps77
    go_wp2_with (go_at_call 90; refine (slIndexByte _ _ _).mono ?_; rintro e w' ⟨rfl, rfl⟩)
    go_ret
    have e : s.data.toList = [c] := by rw [← ByteArray.toList_eq]; simpa using (beq_iff_eq.1 h).symm
    exact ⟨by rw [e]; simp [Lib.indexByte], rfl⟩
  · have h' : ([c] == s.toList) = false := by simpa using h
    clear h
    go_enter Tryd.func77, Tryd.ntmps77
    go_wp2_with (go_at_call 90; refine (slIndexByte _ _ _).mono ?_; rintro e w' ⟨rfl, rfl⟩)
    go_ret
    exact ⟨by simp; rfl, rfl⟩

theorem sIndex (s : ByteArray) (c : UInt8) (w : World) :
    Calls Tryd.prog 80 #[.string s, .string ⟨#[c]⟩] w fun e w' => e = .returned (.int .i64 (Lib.indexByte s.data.toList c)) ∧ w = w' := by
  go_enter Tryd.func80, Tryd.ntmps80
  go_wp2_with (go_at_call 77; refine (slIndex _ _ _).mono ?_; rintro e w' ⟨rfl, rfl⟩)
  go_ret
  exact ⟨rfl, rfl⟩

theorem sContains (s : ByteArray) (c : UInt8) (w : World) :
    Calls Tryd.prog 70 #[.string s, .string ⟨#[c]⟩] w fun e w' => e = .returned (.bool (s.data.toList.contains c)) ∧ w = w' := by
  rw [Lib.contains_iff_indexByte]
  go_enter Tryd.func70, Tryd.ntmps70
  go_wp2_with (go_at_call 80; refine (sIndex _ _ _).mono ?_; rintro e w' ⟨rfl, rfl⟩)
  go_ret
  exact ⟨rfl, rfl⟩

theorem slHasPrefix (l : List UInt8) (c : UInt8) (w : World) :
    Calls Tryd.prog 101 #[.string ⟨l.toArray⟩, .string ⟨#[c]⟩] w fun e w' => e = .returned (.bool (l.head? == some c)) ∧ w = w' := by
  cases l with
  | nil =>
    go_enter Tryd.func101, Tryd.ntmps101
    go_wp2
    go_ret
    exact ⟨by simp, rfl⟩
  | cons x l =>
    go_enter Tryd.func101, Tryd.ntmps101
    go_wp2
    go_ret
    exact ⟨by rw [ByteArray.extract_mk]; simp, rfl⟩

theorem sHasPrefix (l : List UInt8) (c : UInt8) (w : World) :
    Calls Tryd.prog 85 #[.string ⟨l.toArray⟩, .string ⟨#[c]⟩] w fun e w' => e = .returned (.bool (l.head? == some c)) ∧ w = w' := by
  go_enter Tryd.func85, Tryd.ntmps85
  go_wp2_with (go_at_call 101; refine (slHasPrefix _ _ _).mono ?_; rintro e w' ⟨rfl, rfl⟩)
  go_ret
  exact ⟨rfl, rfl⟩

theorem l13Find (s : ByteArray) (c : UInt8) (w : World) (hs : s.size ≤ maxLen) :
    Calls Tryd.prog 88 #[.string s, .int .u8 c.toNat] w fun e w' => e = .returned (.int .i64 (Lib.indexByte s.data.toList c)) ∧ w = w' := by
  unfold maxLen at hs
  go_enter Tryd.func88, Tryd.ntmps88
  go_wp2
  go_loop [5] (fun i => ∃ k : Nat, k ≤ s.size ∧ i = .int .i64 k ∧ Hid (∀ j (_ : j < k), s.data.toList[j]? ≠ some c)) (fun i => s.size - (intOf i).toNat)
  case atStart => exact ⟨0, Nat.zero_le _, rfl, by intro j h; omega⟩
  case round =>
    obtain ⟨k, hk, rfl, hj⟩ := hrel
    by_cases hlt : k < s.size
    · have HK : Hid (s.data.toList[k]? = some s[k]) := by
        show _ = _
        rw [List.getElem?_eq_getElem (by simpa using hlt)]; rfl
      by_cases hc : s[k] = c
      · have HC : Hid (s[k] = c) := hc
        have hd : ((s[k].toNat : Int) == (c.toNat : Int)) = true := by rw [hc]; simp
        clear hc
        go_wp2
        go_ret
        exact ⟨ret_int (indexByte_at _ _ k (by rw [HK.out, HC.out]) hj.out).symm, rfl⟩
      · have HC : Hid (¬ s[k] = c) := hc
        have hd : ((s[k].toNat : Int) == (c.toNat : Int)) = false := by
          rw [beq_eq_false_iff_ne]
          intro h
          exact hc (UInt8.toNat_inj.1 (by exact_mod_cast h))
        clear hc
        go_wp2
        go_round
        case rel =>
          refine ⟨k + 1, by omega, by go_num, ?_⟩
          intro j h
          by_cases e : j = k
          · subst e; rw [HK.out]; intro h; exact HC.out (Option.some.inj h)
          · exact hj.out j (by omega)
        case measure => simp [intOf]; omega
    · go_wp2
      go_ret
      exact ⟨ret_int (indexByte_neg _ _ (fun j h => hj.out j (by simp at h; omega))).symm, rfl⟩

end Go.Proofs.YtbdnhcfebgkpdaaDoor
