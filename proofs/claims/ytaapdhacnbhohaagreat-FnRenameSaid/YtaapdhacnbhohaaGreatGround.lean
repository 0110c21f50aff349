/- IsGround of both sides. Conditions: the text is at most 2^31 bytes long. -/
import Derived.Test.YtaapdhacnbhohaaGreatVarsI
set_option linter.unusedVariables false
set_option linter.unusedSimpArgs false
set_option maxRecDepth 100000
namespace Go.Proofs.YtaapdhacnbhohaaGreat
open Go.RowKit Ty

/-- what IsGround returns -/
def groundB (l : List UInt8) : Bool := (ty l).isSome && (varsL l).isEmpty

theorem IsGround_impl (l : List UInt8) (w : World) (hl : l.length ≤ 2147483648) : Calls Tryz.prog 11 #[.string ⟨l.toArray⟩] w fun e w' => e = .returned (.bool (groundB l)) ∧ Below w.heap.size w w' := by
  have ho := TypeValid_impl l w (by unfold maxLen; omega)
  have hV := fun w1 => VarsOf_impl l w1 hl
  cases h : (ty l).isSome with
  | false =>
    have hh : Hid (groundB l = false) := by show groundB l = false; simp [groundB, h]
    rw [h] at ho
    clear h hV
    go_enter Tryz.func11, Tryz.ntmps11
    go_wp2_with (go_at_call 7; refine ho.mono ?_; rintro e w1 ⟨rfl, hb⟩; have HB := hid hb; clear hb)
    go_ret
    exact ⟨ret_bool hh.out.symm, HB.out⟩
  | true =>
    rw [h] at ho
    match h2 : varsL l with
    | [] =>
      have hh : Hid (groundB l = true) := by show groundB l = true; simp [groundB, h, h2]
      rw [h2] at hV
      clear h h2
      go_enter Tryz.func11, Tryz.ntmps11
      go_wp2_with (first
        | (go_at_call 7; refine ho.mono ?_; rintro e w1 ⟨rfl, hb⟩; have HB := hid hb; clear hb)
        | (go_at_call 8; refine (hV _).mono ?_; rintro e w2 ⟨rfl, hb⟩; have HB2 := hid (HB.out.trans (hb.mono HB.out.size)); clear hb))
      go_ret
      exact ⟨ret_bool hh.out.symm, HB2.out⟩
    | c :: r =>
      have hh : Hid (groundB l = false) := by show groundB l = false; simp [groundB, h, h2]
      rw [h2] at hV
      have e1 : ((⟨(c :: r).toArray⟩ : ByteArray) == ⟨#[]⟩) = false := by
        show ((c :: r).toArray == #[]) = false
        simp
      clear h h2
      go_enter Tryz.func11, Tryz.ntmps11
      go_wp2_with (first
        | (go_at_call 7; refine ho.mono ?_; rintro e w1 ⟨rfl, hb⟩; have HB := hid hb; clear hb)
        | (go_at_call 8; refine (hV _).mono ?_; rintro e w2 ⟨rfl, hb⟩; have HB2 := hid (HB.out.trans (hb.mono HB.out.size)); clear hb))
      go_ret
      exact ⟨ret_bool hh.out.symm, HB2.out⟩

end Go.Proofs.YtaapdhacnbhohaaGreat
