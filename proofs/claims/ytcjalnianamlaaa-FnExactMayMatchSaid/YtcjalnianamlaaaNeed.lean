/- The laws' size of a need, its copy, and FormatNeed of both sides. Conditions: those typed. -/
import Derived.Test.YtcjalnianamlaaaRows
import Derived.WalkKit
import Derived.ProofKit
import Derived.Test.YtcjalnianamlaaaReg
import Derived.Test.YtcjalnianamlaaaStr
set_option linter.unusedVariables false
set_option linter.unusedSimpArgs false
set_option maxRecDepth 100000
namespace Go.Proofs.Ytcjalnianamlaaa
open Go.RowKit

theorem szNeed_ok (a b : ByteArray) (L : Int) (w : World) (h0 : L ≤ 1048576) (h : (a.size : Int) + b.size ≤ L) :
    Calls Try.prog 5 #[.agg #[.string a, .string b], .int .i64 L] w fun e w' => e = .returned (.int .i64 (L - a.size - b.size)) ∧ Below w.heap.size w w' := by
  go_enter Try.func5, Try.ntmps5
  go_wp2
  go_ret
  exact ⟨rfl, (Below.refl _ _).alloc (Nat.le_refl _) _⟩
theorem szNeed_no (a b : ByteArray) (L : Int) (w : World) (ha : a.size ≤ maxLen) (hb : b.size ≤ maxLen) (hL : 0 ≤ L) (h0 : L ≤ 1048576) (h : L < (a.size : Int) + b.size) :
    Calls Try.prog 5 #[.agg #[.string a, .string b], .int .i64 L] w fun e w' => e = .returned (.int .i64 (-1)) ∧ Below w.heap.size w w' := by
  unfold maxLen at ha hb
  by_cases h1 : L - (a.size : Int) < 0
  · go_enter Try.func5, Try.ntmps5
    go_wp2
    go_ret
    exact ⟨rfl, (Below.refl _ _).alloc (Nat.le_refl _) _⟩
  · have h2 : L - (a.size : Int) - b.size < 0 := by omega
    go_enter Try.func5, Try.ntmps5
    go_wp2
    go_ret
    exact ⟨rfl, (Below.refl _ _).alloc (Nat.le_refl _) _⟩

theorem toNeed_any (a b : ByteArray) (w : World) :
    Calls Try.prog 8 #[.agg #[.string a, .string b]] w fun e w' => e = .returned (.agg #[.string a, .string b]) ∧ Below w.heap.size w w' := by
  go_enter Try.func8, Try.ntmps8
  go_wp2
  refine bodyPost_ret (v := .agg #[.string a, .string b]) (by simp [results, Try.results8, go_sem]) rfl ⟨rfl, ?_⟩
  exact (((Below.refl _ _).alloc (Nat.le_refl _) _).alloc (by simp) _).alloc (by simp; omega) _

def needText (a b : ByteArray) : ByteArray := a ++ ⟨#[32]⟩ ++ b
end Go.Proofs.Ytcjalnianamlaaa
