/- Variables: isVar, l1Variable and CountVar of both sides. Conditions: the text is at most 2^31 bytes long. -/
import Derived.Test.YtebdkafblohojaaImplT
import Derived.Test.YtebdkafblohojaaL1Read
import Derived.Test.YtebdkafblohojaaDepthI
import Derived.Deep.QuietTactic
import Derived.BigQuiet
set_option linter.unusedVariables false
set_option linter.unusedSimpArgs false
set_option maxRecDepth 100000
namespace Go.Proofs.Ytebdkafblohojaa
open Go.RowKit Ty

/-- a letter that is a variable -/
def isV (c : UInt8) : Bool := ([120, 121, 122, 88, 89, 90] : List UInt8).contains c
/-- a text that is a variable -/
def isVarL (v : List UInt8) : Bool := match v with | [c] => isV c | _ => false

theorem isVar_impl (v : List UInt8) (w : World) (hv : v.length ≤ 2147483648) : Calls Try.prog 21 #[.string ⟨v.toArray⟩] w fun e w' => e = .returned (.bool (isVarL v)) ∧ w = w' := by
  match v, hv with
  | [c], _ =>
    obtain ⟨bv, hbv⟩ : ∃ b, b = isV c := ⟨_, rfl⟩
    have HBV := hid hbv
    clear hbv
    go_enter Try.func21, Try.ntmps21
    go_wp2_with (go_at_call 30; refine (sContains _ _ _).mono ?_; rintro e w' ⟨rfl, rfl⟩; rw [show ({ data := #[120, 121, 122, 88, 89, 90] } : ByteArray).data.toList.contains c = bv from HBV.out.symm])
    go_ret
    exact ⟨ret_bool HBV.out, rfl⟩
  | [], _ =>
    go_enter Try.func21, Try.ntmps21
    go_wp2
    go_ret
    exact ⟨rfl, rfl⟩
  | a :: b :: v, hv =>
    simp only [List.length_cons] at hv
    have h1 : ((v.length : Int) + 1 + 1 == 1) = false := by rw [beq_eq_false_iff_ne]; omega
    go_enter Try.func21, Try.ntmps21
    go_wp2
    go_ret
    exact ⟨rfl, rfl⟩

theorem isV_index (c : UInt8) : isV c = decide (6 ≤ Lib.indexByte [105, 98, 117, 108, 109, 112, 120, 121, 122, 88, 89, 90] c) := by
  by_cases h : c ∈ ([105, 98, 117, 108, 109, 112, 120, 121, 122, 88, 89, 90] : List UInt8)
  · simp at h
    rcases h with rfl | rfl | rfl | rfl | rfl | rfl | rfl | rfl | rfl | rfl | rfl | rfl <;> decide
  · have e1 : isV c = false := by
      simp only [List.mem_cons, not_or] at h
      simp [isV, h]
    rw [e1, indexByte_neg]
    · decide
    · intro j hj e
      exact h (List.mem_of_getElem? e)

/-- what CountVar returns -/
def countI (l v : List UInt8) : Int := if (ty l).isSome then (match v with | [c] => if isV c then (l.count c : Int) else -1 | _ => -1) else -1


theorem count_take_succ (l : List UInt8) (c : UInt8) (k : Nat) (h : k < l.length) : (l.take (k + 1)).count c = (l.take k).count c + if l[k] = c then 1 else 0 := by
  rw [List.take_succ_eq_append_getElem h, List.count_append]
  by_cases e : l[k] = c <;> simp [e]

end Go.Proofs.Ytebdkafblohojaa
