/- HeadOf, DepthOf and SizeOf of the program and of the reference. Conditions: the text is at most 2^31 bytes long. -/
import Derived.Test.YtbdmdhhocncopaaImplT
import Derived.Test.YtbdmdhhocncopaaSizes
import Derived.Test.YtbdmdhhocncopaaDepthI
set_option linter.unusedVariables false
set_option linter.unusedSimpArgs false
set_option maxRecDepth 100000
namespace Go.Proofs.Ytbdmdhhocncopaa
open Go.RowKit Ty
attribute [local go_sem] take1

def headL (l : List UInt8) : List UInt8 := match ty l with | some t => [t.head] | none => []
def depthI (l : List UInt8) : Int := match ty l with | some t => t.depth | none => -1
def sizeI (l : List UInt8) : Int := match ty l with | some t => t.size | none => -1
theorem headL_len (l : List UInt8) : (headL l).length ≤ 1 := by unfold headL; split <;> simp

theorem SizeOf_impl (l : List UInt8) (w : World) (hl : l.length ≤ 2147483648) : Calls Try.prog 17 #[.string ⟨l.toArray⟩] w fun e w' => e = .returned (.int .i64 (sizeI l)) ∧ Below w.heap.size w w' := by
  have ho := TypeValid_impl l w (by unfold maxLen; omega)
  cases h : ty l with
  | none =>
    have hh : Hid (sizeI l = -1) := by show sizeI l = -1; simp [sizeI, h]
    rw [h] at ho
    clear h
    go_enter Try.func17, Try.ntmps17
    go_wp2_with (first
      | (go_at_call 15; refine ho.mono ?_; rintro e w1 ⟨rfl, hb⟩; have HB := hid hb; clear hb))
    go_ret
    exact ⟨ret_int hh.out.symm, HB.out⟩
  | some t =>
    have hc : (l.length : Int) - l.count 40 - l.count 41 - l.count 44 = sizeI l ∧ l.count 40 + l.count 41 + l.count 44 ≤ l.length := by
      obtain ⟨e, hw, _⟩ := ty_some h
      have := count_size t hw
      simp only [sizeI, h]
      rw [e]
      omega
    obtain ⟨n40, h40⟩ : ∃ n, n = l.count 40 := ⟨_, rfl⟩
    obtain ⟨n41, h41⟩ : ∃ n, n = l.count 41 := ⟨_, rfl⟩
    obtain ⟨n44, h44⟩ : ∃ n, n = l.count 44 := ⟨_, rfl⟩
    rw [← h40, ← h41, ← h44] at hc
    obtain ⟨hc1, hc2⟩ := hc
    have C1 := hid hc1
    have H40 := hid h40
    have H41 := hid h41
    have H44 := hid h44
    rw [h] at ho
    clear h hc1 h40 h41 h44
    go_enter Try.func17, Try.ntmps17
    go_wp2_with (first
      | (go_at_call 15; refine ho.mono ?_; rintro e w1 ⟨rfl, hb⟩; have HB := hid hb; clear hb)
      | (go_at_call 43; refine (sCount _ _ _).mono ?_; rintro e w1 ⟨rfl, rfl⟩; first | rw [← H40.out] | rw [← H41.out] | rw [← H44.out]))
    go_ret
    exact ⟨ret_int C1.out, HB.out⟩

end Go.Proofs.Ytbdmdhhocncopaa
