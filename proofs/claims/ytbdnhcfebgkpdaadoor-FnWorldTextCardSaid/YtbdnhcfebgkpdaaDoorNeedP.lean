/- ParseNeed of both sides, and what it calls: strings.Cut at one byte, isClass, l3Capital, l1In, the laws' eqNeed. Conditions: those typed. -/
import Derived.Test.YtbdnhcfebgkpdaaDoorImplT
import Derived.Test.YtbdnhcfebgkpdaaDoorL1Read
import Derived.Test.YtbdnhcfebgkpdaaDoorStrOrd
import Derived.Deep.QuietTactic
import Derived.BigQuiet
import Derived.OwnWalk
set_option linter.unusedVariables false
set_option linter.unusedSimpArgs false
set_option maxRecDepth 100000
namespace Go.Proofs.YtbdnhcfebgkpdaaDoor
open Go.RowKit Ty

theorem extract_take (l : List UInt8) (n : Nat) : (ByteArray.mk l.toArray).extract 0 n = ⟨(l.take n).toArray⟩ := by
  rw [ByteArray.extract_mk]; simp
theorem extract_drop (l : List UInt8) (n m : Nat) (h : l.length ≤ m) : (ByteArray.mk l.toArray).extract n m = ⟨(l.drop n).toArray⟩ := by
  rw [ByteArray.extract_mk]
  simp
  rw [List.take_of_length_le (by simp; omega)]

theorem slCut (a b : List UInt8) (c : UInt8) (w : World) (h : c ∉ a) (hl : a.length + b.length + 1 ≤ 2147483648) :
    Calls Tryd.prog 56 #[.string ⟨(a ++ c :: b).toArray⟩, .string ⟨#[c]⟩] w fun e w' => e = .returned (.tuple #[.string ⟨a.toArray⟩, .string ⟨b.toArray⟩, .bool true]) ∧ ∃ n, w' = w.drewN n := by
  have hi : Hid (Lib.indexByte (ByteArray.mk (a ++ c :: b).toArray).data.toList c = a.length) := by
    show Lib.indexByte (a ++ c :: b) c = a.length
    refine indexByte_at _ _ _ (by simp) ?_
    intro j hj e
    rw [List.getElem?_append_left hj] at e
    exact h (List.mem_of_getElem? e)
  have e1 : Hid ((ByteArray.mk (a ++ c :: b).toArray).extract 0 a.length = ⟨a.toArray⟩) := by
    show _ = _
    rw [extract_take]; simp
  have e2 : Hid ((ByteArray.mk (a ++ c :: b).toArray).extract (a.length + 1) (a.length + (b.length + 1)) = ⟨b.toArray⟩) := by
    show _ = _
    rw [extract_drop _ _ _ (by simp)]
    congr 2
    rw [show a ++ c :: b = (a ++ [c]) ++ b by simp, show a.length + 1 = (a ++ [c]).length by simp, List.drop_left]
  have hz : (a ++ c :: b).length = a.length + (b.length + 1) := by simp
  clear h
  go_enter Tryd.func56, Tryd.ntmps56
  go_wp2_with (go_at_call 77; refine (slIndex _ _ _).mono ?_; rintro e w' ⟨rfl, rfl⟩; rw [hi.out])
  go_quiet (fail)
  go_wp2
  go_ret3
  refine ⟨?_, _, rfl⟩
  rw [e1.out, e2.out]
  rfl

theorem slCut_no (l : List UInt8) (c : UInt8) (w : World) (h : c ∉ l) :
    Calls Tryd.prog 56 #[.string ⟨l.toArray⟩, .string ⟨#[c]⟩] w fun e w' => e = .returned (.tuple #[.string ⟨l.toArray⟩, .string ⟨#[]⟩, .bool false]) ∧ w = w' := by
  have hi : Hid (Lib.indexByte (ByteArray.mk l.toArray).data.toList c = -1) := by
    show Lib.indexByte l c = -1
    refine indexByte_neg _ _ ?_
    intro j hj e
    exact h (List.mem_of_getElem? e)
  clear h
  go_enter Tryd.func56, Tryd.ntmps56
  go_wp2_with (go_at_call 77; refine (slIndex _ _ _).mono ?_; rintro e w' ⟨rfl, rfl⟩; rw [hi.out])
  go_ret3
  exact ⟨rfl, rfl⟩

theorem sCut (a b : List UInt8) (c : UInt8) (w : World) (h : c ∉ a) (hl : a.length + b.length + 1 ≤ 2147483648) :
    Calls Tryd.prog 32 #[.string ⟨(a ++ c :: b).toArray⟩, .string ⟨#[c]⟩] w fun e w' => e = .returned (.tuple #[.string ⟨a.toArray⟩, .string ⟨b.toArray⟩, .bool true]) ∧ ∃ n, w' = w.drewN n := by
  go_enter Tryd.func32, Tryd.ntmps32
  go_wp2_with (go_at_call 56; refine (slCut _ _ _ _ h hl).mono ?_; rintro e w' ⟨rfl, n, rfl⟩)
  go_ret3
  exact ⟨rfl, n, rfl⟩

theorem sCut_no (l : List UInt8) (c : UInt8) (w : World) (h : c ∉ l) :
    Calls Tryd.prog 32 #[.string ⟨l.toArray⟩, .string ⟨#[c]⟩] w fun e w' => e = .returned (.tuple #[.string ⟨l.toArray⟩, .string ⟨#[]⟩, .bool false]) ∧ w = w' := by
  go_enter Tryd.func32, Tryd.ntmps32
  go_wp2_with (go_at_call 56; refine (slCut_no _ _ _ h).mono ?_; rintro e w' ⟨rfl, rfl⟩)
  go_ret3
  exact ⟨rfl, rfl⟩

/-- a letter that is a class -/
def isCap (c : UInt8) : Bool := decide (65 ≤ c.toNat) && decide (c.toNat ≤ 84)
def isCapL (a : List UInt8) : Bool := match a with | [c] => isCap c | _ => false

theorem isClass_any (a : List UInt8) (w : World) (ha : a.length ≤ 2147483648) :
    Calls Tryd.prog 36 #[.string ⟨a.toArray⟩] w fun e w' => e = .returned (.bool (isCapL a)) ∧ w = w' := by
  match a, ha with
  | [], _ =>
    go_enter Tryd.func36, Tryd.ntmps36
    go_wp2
    go_ret
    exact ⟨rfl, rfl⟩
  | x :: y :: a, ha =>
    simp only [List.length_cons] at ha
    have h1 : ((a.length : Int) + 1 + 1 == 1) = false := by rw [beq_eq_false_iff_ne]; omega
    go_enter Tryd.func36, Tryd.ntmps36
    go_wp2
    go_ret
    exact ⟨rfl, rfl⟩
  | [c], _ =>
    by_cases h1 : 65 ≤ c.toNat
    · by_cases h2 : c.toNat ≤ 84
      · have H : Hid (isCapL [c] = true) := by show isCapL [c] = true; simp [isCapL, isCap, h1, h2]
        go_enter Tryd.func36, Tryd.ntmps36
        go_wp2
        rw [geq1, show decide ((65 : UInt8).toNat ≤ c.toNat) = true by simpa using h1]
        go_wp2
        rw [leq1, show decide (c.toNat ≤ (84 : UInt8).toNat) = true by simpa using h2]
        go_wp2
        go_ret
        exact ⟨ret_bool H.out.symm, rfl⟩
      · have H : Hid (isCapL [c] = false) := by show isCapL [c] = false; simp [isCapL, isCap, h1, h2]
        go_enter Tryd.func36, Tryd.ntmps36
        go_wp2
        rw [geq1, show decide ((65 : UInt8).toNat ≤ c.toNat) = true by simpa using h1]
        go_wp2
        rw [leq1, show decide (c.toNat ≤ (84 : UInt8).toNat) = false by simpa using h2]
        go_wp2
        go_ret
        exact ⟨ret_bool H.out.symm, rfl⟩
    · have H : Hid (isCapL [c] = false) := by show isCapL [c] = false; simp [isCapL, isCap, h1]
      go_enter Tryd.func36, Tryd.ntmps36
      go_wp2
      rw [geq1, show decide ((65 : UInt8).toNat ≤ c.toNat) = false by simpa using h1]
      go_wp2
      go_ret
      exact ⟨ret_bool H.out.symm, rfl⟩

theorem l1In_cap (c : UInt8) (w : World) :
    Calls Tryd.prog 59 #[.int .i64 c.toNat, .int .i64 65, .int .i64 84] w fun e w' => e = .returned (.bool (isCap c)) ∧ w = w' := by
  have hc := c.toNat_lt
  by_cases h1 : 65 ≤ c.toNat
  · by_cases h2 : c.toNat ≤ 84
    · have H : Hid (isCap c = true) := by show isCap c = true; simp [isCap, h1, h2]
      go_enter Tryd.func59, Tryd.ntmps59
      go_wp2
      go_ret
      exact ⟨ret_bool (by rw [H.out]; simp; omega), rfl⟩
    · have H : Hid (isCap c = false) := by show isCap c = false; simp [isCap, h1, h2]
      go_enter Tryd.func59, Tryd.ntmps59
      go_wp2
      go_ret
      exact ⟨ret_bool (by rw [H.out]; simp; omega), rfl⟩
  · have H : Hid (isCap c = false) := by show isCap c = false; simp [isCap, h1]
    go_enter Tryd.func59, Tryd.ntmps59
    go_wp2
    go_ret
    exact ⟨ret_bool H.out.symm, rfl⟩

theorem l3Capital_one (c : UInt8) (w : World) :
    Calls Tryd.prog 37 #[.string ⟨#[c]⟩] w fun e w' => e = .returned (.bool (isCap c)) ∧ w = w' := by
  go_enter Tryd.func37, Tryd.ntmps37
  go_wp2_with fail
  rw [show wrap64 (({ data := #[c] } : ByteArray)[0]'(by show 0 < 1; omega)).toNat = (c.toNat : Int) by
    have := c.toNat_lt
    show wrap64 (c.toNat : Int) = _
    exact IntWalk.wrap64_in _ (by omega)]
  refine (l1In_cap c _).mono ?_
  rintro e w' ⟨rfl, rfl⟩
  go_wp2
  go_ret
  exact ⟨rfl, rfl⟩

/-- the need that a text spells -/
def need (l : List UInt8) : Option (UInt8 × List UInt8) := match l with | c :: d :: t => if d = 32 ∧ isCap c = true ∧ (ty t).isSome = true then some (c, t) else none | _ => none
def NeedPost (w : World) (l : List UInt8) (e : Ending) (w' : World) : Prop :=
  e = .returned (match need l with | some (c, t) => .tuple #[.agg #[.string ⟨#[c]⟩, .string ⟨t.toArray⟩], .bool true] | none => .tuple #[.agg #[.string ⟨#[]⟩, .string ⟨#[]⟩], .bool false]) ∧ Below w.heap.size w w'

theorem ParseNeed_impl (l : List UInt8) (w : World) (hl : l.length ≤ 2147483648) : Calls Tryd.prog 9 #[.string ⟨l.toArray⟩] w (NeedPost w l) := by
  by_cases h : (32 : UInt8) ∈ l
  rotate_left
  · have hn : Hid (need l = none) := by
      show need l = none
      match l, h with
      | [], _ => rfl
      | [_], _ => rfl
      | c :: d :: t, h => simp at h; simp [need, Ne.symm h.2.1]
    go_enter Tryd.func9, Tryd.ntmps9
    go_wp2_with (go_at_call 32; refine (sCut_no _ _ _ h).mono ?_; rintro e w' ⟨rfl, rfl⟩)
    refine bodyPost_ret (results_row_tmp rfl _ _ w.heap.size 25 #[.string ⟨#[]⟩, .string ⟨#[]⟩] (0, 0) _ rfl (heap_alloc_new _ _) Tryd.underlying25 rfl (by kernel_rfl)) rfl ?_
    exact ⟨by rw [hn.out]; rfl, (Below.refl _ _).alloc (Nat.le_refl _) _⟩
  obtain ⟨a, b, rfl, ha⟩ := List.eq_append_cons_of_mem h
  simp only [List.length_append, List.length_cons] at hl
  have hb0 : ∀ n, Hid (Below w.heap.size w (((w.alloc (Obj.cells #[.string ⟨#[]⟩, .string ⟨#[]⟩] 25)).drewN n))) := fun n => ⟨rfl, rfl, rfl, by simp, fun k hk => Below.heap_alloc _ _ _ hk⟩
  have hh0 : ∀ n, Hid (((w.alloc (Obj.cells #[.string ⟨#[]⟩, .string ⟨#[]⟩] 25)).drewN n).heap[w.heap.size]? = some (Obj.cells #[.string ⟨#[]⟩, .string ⟨#[]⟩] 25)) := fun n => heap_alloc_new w _
  cases hc : isCapL a with
  | false =>
    have hn : Hid (need (a ++ 32 :: b) = none) := by
      show need (a ++ 32 :: b) = none
      match a, ha, hc with
      | [], _, _ => cases b <;> simp [need, isCap]
      | [c], _, hc => simp only [isCapL] at hc; simp [need, hc]
      | c :: d :: t, h, _ => simp at h; simp [need, Ne.symm h.2.1]
    have HC := hid hc
    clear h hc
    go_enter Tryd.func9, Tryd.ntmps9
    go_wp2_with (first
      | (go_at_call 32; refine (sCut a b 32 _ ha (by omega)).mono ?_; rintro e w' ⟨rfl, nq, rfl⟩)
      | (go_at_call 36; refine (isClass_any a _ (by omega)).mono ?_; rintro e w' ⟨rfl, rfl⟩; rw [HC.out]))
    refine bodyPost_ret (results_row_tmp rfl _ _ w.heap.size 25 #[.string ⟨#[]⟩, .string ⟨#[]⟩] (0, 0) _ rfl (heap_set (heap_set (hh0 nq).out 0 _) 1 _) Tryd.underlying25 rfl (by kernel_rfl)) rfl ?_
    exact ⟨by rw [hn.out]; rfl, ((hb0 nq).out.setCell (Nat.le_refl _) _).setCell (Nat.le_refl _) _⟩
  | true =>
    obtain ⟨c, rfl⟩ : ∃ c, a = [c] := by
      match a, hc with
      | [c], _ => exact ⟨c, rfl⟩
    have ho := fun w => TypeValid_impl b w (by unfold maxLen; omega)
    cases hv : (ty b).isSome with
    | false =>
      have hn : Hid (need (c :: 32 :: b) = none) := by
        show need (c :: 32 :: b) = none
        simp [need, hv]
      rw [hv] at ho
      have HC := hid hc
      clear h hc hv
      go_enter Tryd.func9, Tryd.ntmps9
      go_wp2_with (first
        | (go_at_call 32; refine (sCut [c] b 32 _ ha (by omega)).mono ?_; rintro e w' ⟨rfl, nq, rfl⟩)
        | (go_at_call 36; refine (isClass_any [c] _ (by simp)).mono ?_; rintro e w' ⟨rfl, rfl⟩; rw [HC.out])
        | (go_at_call 17; refine (ho _).mono ?_; rintro e w1 ⟨rfl, hb⟩; have h1 := below_heap hb (by simp) (hh0 nq).out; have k0 := heap_cell h1 0; have k1 := heap_cell h1 1; have f0 := heap_free h1 0; have f1 := heap_free h1 1; have H1 := hid h1; have HB := hid ((hb0 nq).out.trans (hb.mono (by simp))); clear hb h1))
      refine bodyPost_ret (results_row_tmp rfl _ _ w.heap.size 25 #[.string ⟨#[]⟩, .string ⟨#[]⟩] (0, 0) _ rfl (heap_set (heap_set H1.out 0 _) 1 _) Tryd.underlying25 rfl (by kernel_rfl)) rfl ?_
      exact ⟨by rw [hn.out]; rfl, (HB.out.setCell (Nat.le_refl _) _).setCell (Nat.le_refl _) _⟩
    | true =>
      have hn : Hid (need (c :: 32 :: b) = some (c, b)) := by
        show need (c :: 32 :: b) = _
        simp only [isCapL] at hc
        simp [need, hv, hc]
      rw [hv] at ho
      have HC := hid hc
      clear h hc hv
      go_enter Tryd.func9, Tryd.ntmps9
      go_wp2_with (first
        | (go_at_call 32; refine (sCut [c] b 32 _ ha (by omega)).mono ?_; rintro e w' ⟨rfl, nq, rfl⟩)
        | (go_at_call 36; refine (isClass_any [c] _ (by simp)).mono ?_; rintro e w' ⟨rfl, rfl⟩; rw [HC.out])
        | (go_at_call 17; refine (ho _).mono ?_; rintro e w1 ⟨rfl, hb⟩; have h1 := below_heap hb (by simp) (hh0 nq).out; have k0 := heap_cell h1 0; have k1 := heap_cell h1 1; have f0 := heap_free h1 0; have f1 := heap_free h1 1; have H1 := hid h1; have HB := hid ((hb0 nq).out.trans (hb.mono (by simp))); clear hb h1))
      refine bodyPost_ret (results_row_tmp rfl _ _ w.heap.size 25 #[.string ⟨#[c]⟩, .string ⟨b.toArray⟩] (0, 0) _ rfl (heap_set (heap_set H1.out 0 _) 1 _) Tryd.underlying25 rfl (by kernel_rfl)) rfl ?_
      exact ⟨by rw [hn.out]; rfl, (HB.out.setCell (Nat.le_refl _) _).setCell (Nat.le_refl _) _⟩

theorem ParseNeed_spec (l : List UInt8) (w : World) (hl : l.length ≤ 2147483648) : Calls Tryd.prog 10 #[.string ⟨l.toArray⟩] w (NeedPost w l) := by
  match l, hl with
  | [], _ =>
    go_enter Tryd.func10, Tryd.ntmps10
    go_wp2
    refine bodyPost_ret (results_row_tmp rfl _ _ w.heap.size 25 #[.string ⟨#[]⟩, .string ⟨#[]⟩] (0, 0) _ rfl (heap_alloc_new _ _) Tryd.underlying25 rfl (by kernel_rfl)) rfl ?_
    exact ⟨rfl, (Below.refl _ _).alloc (Nat.le_refl _) _⟩

  | [c], _ =>
    go_enter Tryd.func10, Tryd.ntmps10
    go_wp2
    refine bodyPost_ret (results_row_tmp rfl _ _ w.heap.size 25 #[.string ⟨#[]⟩, .string ⟨#[]⟩] (0, 0) _ rfl (heap_alloc_new _ _) Tryd.underlying25 rfl (by kernel_rfl)) rfl ?_
    exact ⟨rfl, (Below.refl _ _).alloc (Nat.le_refl _) _⟩

  | [c, d], _ =>
    have hn : Hid (need [c, d] = none) := by
      show need [c, d] = none
      simp only [need]
      rw [if_neg]
      rintro ⟨-, -, h⟩
      exact absurd h (by decide)
    go_enter Tryd.func10, Tryd.ntmps10
    go_wp2
    refine bodyPost_ret (results_row_tmp rfl _ _ w.heap.size 25 #[.string ⟨#[]⟩, .string ⟨#[]⟩] (0, 0) _ rfl (heap_alloc_new _ _) Tryd.underlying25 rfl (by kernel_rfl)) rfl ?_
    exact ⟨by rw [hn.out]; rfl, (Below.refl _ _).alloc (Nat.le_refl _) _⟩

  | c :: d :: x :: t, hl =>
    simp only [List.length_cons] at hl
    by_cases hd : d = 32
    rotate_left
    · have hn : Hid (need (c :: d :: x :: t) = none) := by show need (c :: d :: x :: t) = none; simp [need, hd]
      have h1 : ¬ ((({ data := (c :: d :: x :: t).toArray } : ByteArray)[1]'(by show 1 < (c :: d :: x :: t).length; simp)).toNat : Int) = 32 := by
        show ¬ (d.toNat : Int) = 32
        intro e
        exact hd (UInt8.toNat_inj.1 (by simpa using (by exact_mod_cast e : d.toNat = 32)))
      clear hd
      go_enter Tryd.func10, Tryd.ntmps10
      go_wp2
      refine bodyPost_ret (results_row_tmp rfl _ _ w.heap.size 25 #[.string ⟨#[]⟩, .string ⟨#[]⟩] (0, 0) _ rfl (heap_alloc_new _ _) Tryd.underlying25 rfl (by kernel_rfl)) rfl ?_
      exact ⟨by rw [hn.out]; rfl, (Below.refl _ _).alloc (Nat.le_refl _) _⟩
    subst hd
    have h1 : (((({ data := (c :: 32 :: x :: t).toArray } : ByteArray)[1]'(by show 1 < (c :: 32 :: x :: t).length; simp)).toNat : Int) == 32) = true := rfl
    have s0 : ({ data := (c :: 32 :: x :: t).toArray } : ByteArray).extract 0 1 = ⟨#[c]⟩ := by rw [extract_take]; rfl
    have s1 : ({ data := (c :: 32 :: x :: t).toArray } : ByteArray).extract 2 (t.length + 1 + 1 + 1) = ⟨(x :: t).toArray⟩ := by rw [extract_drop _ _ _ (by simp)]; rfl
    have ho := fun w => TypeValid_spec (x :: t) w (by simp only [List.length_cons]; unfold maxLen; omega)
    cases hc : isCap c with
    | false =>
      have hn : Hid (need (c :: 32 :: x :: t) = none) := by show need (c :: 32 :: x :: t) = none; simp [need, hc]
      have HC := hid hc
      clear hc
      go_enter Tryd.func10, Tryd.ntmps10
      go_wp2_with (first
        | (go_at_call 37; refine (l3Capital_one c _).mono ?_; rintro e w' ⟨rfl, rfl⟩; rw [HC.out]))
      refine bodyPost_ret (results_row_tmp rfl _ _ w.heap.size 25 #[.string ⟨#[]⟩, .string ⟨#[]⟩] (0, 0) _ rfl (heap_alloc_new _ _) Tryd.underlying25 rfl (by kernel_rfl)) rfl ?_
      exact ⟨by rw [hn.out]; rfl, (Below.refl _ _).alloc (Nat.le_refl _) _⟩
    | true =>
      cases hv : (ty (x :: t)).isSome with
      | false =>
        have hn : Hid (need (c :: 32 :: x :: t) = none) := by show need (c :: 32 :: x :: t) = none; simp [need, hv]
        rw [hv] at ho
        have HC := hid hc
        clear hc hv
        go_enter Tryd.func10, Tryd.ntmps10
        go_wp2_with (first
          | (go_at_call 37; refine (l3Capital_one c _).mono ?_; rintro e w' ⟨rfl, rfl⟩; rw [HC.out])
          | (go_at_call 38; refine (ho _).mono ?_; rintro e w1 ⟨rfl, hb⟩; have h1 := below_heap hb (by simp) (heap_alloc_new _ _); have k0 := heap_cell h1 0; have k1 := heap_cell h1 1; have f0 := heap_free h1 0; have f1 := heap_free h1 1; have H1 := hid h1; have HB : Hid (Below w.heap.size w w1) := hid (((Below.refl _ _).alloc (Nat.le_refl _) _).trans (hb.mono (by simp))); clear hb h1))
        refine bodyPost_ret (results_row_tmp rfl _ _ w.heap.size 25 #[.string ⟨#[]⟩, .string ⟨#[]⟩] (0, 0) _ rfl (heap_set (heap_set H1.out 0 _) 1 _) Tryd.underlying25 rfl (by kernel_rfl)) rfl ?_
        exact ⟨by rw [hn.out]; rfl, (HB.out.setCell (Nat.le_refl _) _).setCell (Nat.le_refl _) _⟩
      | true =>
        have hn : Hid (need (c :: 32 :: x :: t) = some (c, x :: t)) := by show need (c :: 32 :: x :: t) = _; simp [need, hv, hc]
        rw [hv] at ho
        have HC := hid hc
        clear hc hv
        go_enter Tryd.func10, Tryd.ntmps10
        go_wp2_with (first
          | (go_at_call 37; refine (l3Capital_one c _).mono ?_; rintro e w' ⟨rfl, rfl⟩; rw [HC.out])
          | (go_at_call 38; refine (ho _).mono ?_; rintro e w1 ⟨rfl, hb⟩; have h1 := below_heap hb (by simp) (heap_alloc_new _ _); have k0 := heap_cell h1 0; have k1 := heap_cell h1 1; have f0 := heap_free h1 0; have f1 := heap_free h1 1; have H1 := hid h1; have HB : Hid (Below w.heap.size w w1) := hid (((Below.refl _ _).alloc (Nat.le_refl _) _).trans (hb.mono (by simp))); clear hb h1))
        go_region
        all_goals go_wp2
        refine bodyPost_ret (results_row_tmp rfl _ _ w.heap.size 25 #[.string ⟨#[c]⟩, .string ⟨(x :: t).toArray⟩] (0, 0) _ rfl (heap_set (heap_set H1.out 0 _) 1 _) Tryd.underlying25 rfl (by kernel_rfl)) rfl ?_
        exact ⟨by rw [hn.out]; rfl, ((HB.out.setCell (Nat.le_refl _) _).setCell (Nat.le_refl _) _).drew⟩

end Go.Proofs.YtbdnhcfebgkpdaaDoor
