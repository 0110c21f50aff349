/- ParseNeed of both sides, and what it calls: strings.Cut at one byte, isClass, l3Capital, l1In, the laws' eqNeed. Conditions: those typed. -/
import Derived.Test.YtcjalnianamlaaaImplT
import Derived.Test.YtcjalnianamlaaaL1Read
import Derived.Test.YtcjalnianamlaaaStrOrd
import Derived.Deep.QuietTactic
import Derived.BigQuiet
import Derived.OwnWalk
set_option linter.unusedVariables false
set_option linter.unusedSimpArgs false
set_option maxRecDepth 100000
namespace Go.Proofs.Ytcjalnianamlaaa
open Go.RowKit Ty

theorem extract_take (l : List UInt8) (n : Nat) : (ByteArray.mk l.toArray).extract 0 n = ⟨(l.take n).toArray⟩ := by
  rw [ByteArray.extract_mk]; simp
theorem extract_drop (l : List UInt8) (n m : Nat) (h : l.length ≤ m) : (ByteArray.mk l.toArray).extract n m = ⟨(l.drop n).toArray⟩ := by
  rw [ByteArray.extract_mk]
  simp
  rw [List.take_of_length_le (by simp; omega)]

/-- a letter that is a class -/
def isCap (c : UInt8) : Bool := decide (65 ≤ c.toNat) && decide (c.toNat ≤ 84)
def isCapL (a : List UInt8) : Bool := match a with | [c] => isCap c | _ => false

theorem isClass_any (a : List UInt8) (w : World) (ha : a.length ≤ 2147483648) :
    Calls Try.prog 81 #[.string ⟨a.toArray⟩] w fun e w' => e = .returned (.bool (isCapL a)) ∧ w = w' := by
  match a, ha with
  | [], _ =>
    go_enter Try.func81, Try.ntmps81
    go_wp2
    go_ret
    exact ⟨rfl, rfl⟩
  | x :: y :: a, ha =>
    simp only [List.length_cons] at ha
    have h1 : ((a.length : Int) + 1 + 1 == 1) = false := by rw [beq_eq_false_iff_ne]; omega
    go_enter Try.func81, Try.ntmps81
    go_wp2
    go_ret
    exact ⟨rfl, rfl⟩
  | [c], _ =>
    by_cases h1 : 65 ≤ c.toNat
    · by_cases h2 : c.toNat ≤ 84
      · have H : Hid (isCapL [c] = true) := by show isCapL [c] = true; simp [isCapL, isCap, h1, h2]
        go_enter Try.func81, Try.ntmps81
        go_wp2
        rw [geq1, show decide ((65 : UInt8).toNat ≤ c.toNat) = true by simpa using h1]
        go_wp2
        rw [leq1, show decide (c.toNat ≤ (84 : UInt8).toNat) = true by simpa using h2]
        go_wp2
        go_ret
        exact ⟨ret_bool H.out.symm, rfl⟩
      · have H : Hid (isCapL [c] = false) := by show isCapL [c] = false; simp [isCapL, isCap, h1, h2]
        go_enter Try.func81, Try.ntmps81
        go_wp2
        rw [geq1, show decide ((65 : UInt8).toNat ≤ c.toNat) = true by simpa using h1]
        go_wp2
        rw [leq1, show decide (c.toNat ≤ (84 : UInt8).toNat) = false by simpa using h2]
        go_wp2
        go_ret
        exact ⟨ret_bool H.out.symm, rfl⟩
    · have H : Hid (isCapL [c] = false) := by show isCapL [c] = false; simp [isCapL, isCap, h1]
      go_enter Try.func81, Try.ntmps81
      go_wp2
      rw [geq1, show decide ((65 : UInt8).toNat ≤ c.toNat) = false by simpa using h1]
      go_wp2
      go_ret
      exact ⟨ret_bool H.out.symm, rfl⟩

theorem l1In_cap (c : UInt8) (w : World) :
    Calls Try.prog 75 #[.int .i64 c.toNat, .int .i64 65, .int .i64 84] w fun e w' => e = .returned (.bool (isCap c)) ∧ w = w' := by
  have hc := c.toNat_lt
  by_cases h1 : 65 ≤ c.toNat
  · by_cases h2 : c.toNat ≤ 84
    · have H : Hid (isCap c = true) := by show isCap c = true; simp [isCap, h1, h2]
      go_enter Try.func75, Try.ntmps75
      go_wp2
      go_ret
      exact ⟨ret_bool (by rw [H.out]; simp; omega), rfl⟩
    · have H : Hid (isCap c = false) := by show isCap c = false; simp [isCap, h1, h2]
      go_enter Try.func75, Try.ntmps75
      go_wp2
      go_ret
      exact ⟨ret_bool (by rw [H.out]; simp; omega), rfl⟩
  · have H : Hid (isCap c = false) := by show isCap c = false; simp [isCap, h1]
    go_enter Try.func75, Try.ntmps75
    go_wp2
    go_ret
    exact ⟨ret_bool H.out.symm, rfl⟩

theorem l3Capital_one (c : UInt8) (w : World) :
    Calls Try.prog 74 #[.string ⟨#[c]⟩] w fun e w' => e = .returned (.bool (isCap c)) ∧ w = w' := by
  go_enter Try.func74, Try.ntmps74
  go_wp2_with fail
  rw [show wrap64 (({ data := #[c] } : ByteArray)[0]'(by show 0 < 1; omega)).toNat = (c.toNat : Int) by
    have := c.toNat_lt
    show wrap64 (c.toNat : Int) = _
    exact IntWalk.wrap64_in _ (by omega)]
  refine (l1In_cap c _).mono ?_
  rintro e w' ⟨rfl, rfl⟩
  go_wp2
  go_ret
  exact ⟨rfl, rfl⟩

theorem eqNeed_same (a b : ByteArray) (w : World) :
    Calls Try.prog 69 #[.agg #[.string a, .string b], .agg #[.string a, .string b]] w fun e w' => e = .returned (.bool true) ∧ Below w.heap.size w w' := by
  go_enter Try.func69, Try.ntmps69
  go_wp2
  go_ret
  exact ⟨rfl, ((Below.refl _ _).alloc (Nat.le_refl _) _).alloc (by simp) _⟩

/-- the need that a text spells -/
def need (l : List UInt8) : Option (UInt8 × List UInt8) := match l with | c :: d :: t => if d = 32 ∧ isCap c = true ∧ (ty t).isSome = true then some (c, t) else none | _ => none
def NeedPost (w : World) (l : List UInt8) (e : Ending) (w' : World) : Prop :=
  e = .returned (match need l with | some (c, t) => .tuple #[.agg #[.string ⟨#[c]⟩, .string ⟨t.toArray⟩], .bool true] | none => .tuple #[.agg #[.string ⟨#[]⟩, .string ⟨#[]⟩], .bool false]) ∧ Below w.heap.size w w'

end Go.Proofs.Ytcjalnianamlaaa
