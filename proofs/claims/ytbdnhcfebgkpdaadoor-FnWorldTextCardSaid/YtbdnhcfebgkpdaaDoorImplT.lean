/- The program's TypeValid and typeOf at every text. Conditions: the text is shorter than 2^62 bytes. -/
import Derived.Test.YtbdnhcfebgkpdaaDoorReadT
set_option linter.unusedVariables false
set_option linter.unusedSimpArgs false
set_option maxRecDepth 100000
namespace Go.Proofs.YtbdnhcfebgkpdaaDoor
open Go.RowKit Ty

theorem headEq {l : List UInt8} {c : UInt8} (h : l.head? ≠ some c) : (l.head? == some c) = false := by simpa using h

theorem readType_all (n : Nat) : ∀ s : List UInt8, s.length ≤ n → s.length + 4 ≤ maxLen → (∀ t r, parse n s = some (t, r) → ReadT.Ok s t r) ∧ (parse n s = none → ReadT.No s) := by
  induction n with
  | zero =>
    intro s hs _
    obtain rfl : s = [] := List.eq_nil_of_length_eq_zero (by omega)
    exact ⟨fun t r h => by simp [parse] at h, fun _ => ReadT.nil⟩
  | succ n ih =>
    intro s hs hm
    match s, hs, hm with
    | [], _, _ => exact ⟨fun t r h => by simp [parse] at h, fun _ => ReadT.nil⟩
    | c :: s, hs, hm =>
      simp only [List.length_cons] at hs hm
      rcases ar_cases c with ha | ha | ha | ha
      · rw [parse_none ha]
        exact ⟨fun t r h => by simp at h, fun _ => ReadT.none c s (by omega) ha⟩
      · rw [parse_leaf ha]
        refine ⟨fun t r h => ?_, fun h => by simp at h⟩
        simp at h
        obtain ⟨rfl, rfl⟩ := h
        exact ReadT.leaf c s (by omega) ha
      all_goals
        by_cases ho : s.head? = some 40
        · obtain ⟨s1, rfl⟩ : ∃ s1, s = 40 :: s1 := by
            cases s with
            | nil => simp at ho
            | cons x s1 => simp at ho; exact ⟨s1, by rw [ho]⟩
          simp only [List.length_cons] at hs hm
          obtain ⟨i1, i2⟩ := ih s1 (by omega) (by omega)
          cases hp : parse n s1 with
          | none =>
            rw [parse_no_first ha hp]
            exact ⟨fun t r h => by simp at h, fun _ => ReadT.noFirst c _ s1 (by omega) ha (i2 hp)⟩
          | some x =>
            obtain ⟨t1, r1⟩ := x
            have hr := parse_len hp
            have o1 := i1 _ _ hp
            first
            | (by_cases hc : r1.head? = some 41
               · obtain ⟨s2, rfl⟩ : ∃ s2, r1 = 41 :: s2 := by
                   cases r1 with
                   | nil => simp at hc
                   | cons x s1 => simp at hc; exact ⟨s1, by rw [hc]⟩
                 simp only [List.length_cons] at hr
                 rw [parse_one ha hp]
                 refine ⟨fun t r h => ?_, fun h => by simp at h⟩
                 simp at h
                 obtain ⟨rfl, rfl⟩ := h
                 exact ReadT.one c s1 s2 t1 (by omega) (by omega) ha o1
               · rw [parse_one_no_close ha hp hc]
                 exact ⟨fun t r h => by simp at h, fun _ => ReadT.oneNoClose c s1 r1 t1 (by omega) (by omega) ha (headEq hc) o1⟩)
            | (by_cases hc : r1.head? = some 44
               · obtain ⟨s2, rfl⟩ : ∃ s2, r1 = 44 :: s2 := by
                   cases r1 with
                   | nil => simp at hc
                   | cons x s1 => simp at hc; exact ⟨s1, by rw [hc]⟩
                 simp only [List.length_cons] at hr
                 obtain ⟨j1, j2⟩ := ih s2 (by omega) (by omega)
                 cases hq : parse n s2 with
                 | none =>
                   rw [parse_two_no_second ha hp hq]
                   exact ⟨fun t r h => by simp at h, fun _ => ReadT.twoNoSecond c s1 s2 t1 (by omega) (by omega) ha o1 (j2 hq)⟩
                 | some y =>
                   obtain ⟨u1, r2⟩ := y
                   have hr2 := parse_len hq
                   have o2 := j1 _ _ hq
                   by_cases hd : r2.head? = some 41
                   · obtain ⟨s3, rfl⟩ : ∃ s3, r2 = 41 :: s3 := by
                       cases r2 with
                       | nil => simp at hd
                       | cons x s1 => simp at hd; exact ⟨s1, by rw [hd]⟩
                     simp only [List.length_cons] at hr2
                     rw [parse_two ha hp hq]
                     refine ⟨fun t r h => ?_, fun h => by simp at h⟩
                     simp at h
                     obtain ⟨rfl, rfl⟩ := h
                     exact ReadT.two c s1 s2 s3 t1 u1 (by omega) (by omega) (by omega) ha o1 o2
                   · rw [parse_two_no_close ha hp hq hd]
                     exact ⟨fun t r h => by simp at h, fun _ => ReadT.twoNoClose c s1 s2 r2 t1 u1 (by omega) (by omega) ha (headEq hd) o1 o2⟩
               · rw [parse_two_no_comma ha hp hc]
                 exact ⟨fun t r h => by simp at h, fun _ => ReadT.twoNoComma c s1 r1 t1 (by omega) (by omega) ha (headEq hc) o1⟩)
        · first
          | (rw [parse_no_open (k := 0) ha n ho]
             exact ⟨fun t r h => by simp at h, fun _ => ReadT.noOpen c 0 s (by omega) ha (headEq ho)⟩)
          | (rw [parse_no_open (k := 1) ha n ho]
             exact ⟨fun t r h => by simp at h, fun _ => ReadT.noOpen c 1 s (by omega) ha (headEq ho)⟩)

/-- typeOf at a type -/
def TOok (w : World) (t : Ty) (e : Ending) (w' : World) : Prop := ∃ b, e = .returned (.pointer (some ⟨b, 0, none⟩)) ∧ INode w.heap.size w' t b ∧ Below w.heap.size w w'
def TOno (w : World) (e : Ending) (w' : World) : Prop := e = .returned (.pointer none) ∧ Below w.heap.size w w'

theorem typeOf_some (l : List UInt8) (t : Ty) (w : World) (h : ty l = some t) : Calls Tryd.prog 42 #[.string ⟨l.toArray⟩] w (TOok w t) := by
  obtain ⟨rfl, hw, hl⟩ := ty_some h
  have hp := parse_text t hw t.text.length [] (Nat.le_refl _)
  simp only [List.append_nil] at hp
  have ho := (readType_all t.text.length t.text (Nat.le_refl _) (by simp [maxLen]; omega)).1 _ _ hp
  clear hp h
  generalize t.text = l at *
  go_enter Tryd.func42, Tryd.ntmps42
  go_wp2_with (first
    | (go_at_call 64; refine (ho _).mono ?_; rintro e w1 ⟨b, rfl, hn, hb⟩; have HN := hid hn; have HB := hid hb; clear hn hb))
  go_ret
  exact ⟨_, rfl, HN.out, HB.out⟩

theorem typeOf_none (l : List UInt8) (w : World) (hl : l.length + 4 ≤ maxLen) (h : ty l = none) : Calls Tryd.prog 42 #[.string ⟨l.toArray⟩] w (TOno w) := by
  by_cases hlen : 60 < l.length
  · clear h
    unfold maxLen at hl
    go_enter Tryd.func42, Tryd.ntmps42
    go_wp2
    go_ret
    exact ⟨rfl, Below.refl _ _⟩
  · obtain ⟨o1, o2⟩ := readType_all l.length l (Nat.le_refl _) hl
    unfold maxLen at hl
    cases hp : parse l.length l with
    | none =>
      have ho := o2 hp
      clear o1 o2 hp h
      go_enter Tryd.func42, Tryd.ntmps42
      go_wp2_with (first
        | (go_at_call 64; refine (ho _).mono ?_; rintro e w1 ⟨r, rfl, hb⟩; have HB := hid hb; clear hb))
      all_goals
        go_ret
        exact ⟨rfl, HB.out⟩
    | some x =>
      obtain ⟨t, r⟩ := x
      have ho := o1 _ _ hp
      cases r with
      | nil => rw [ty_parse_some (Nat.le_refl _) hp (by omega)] at h; simp at h
      | cons x r =>
        clear o1 o2 hp h
        go_enter Tryd.func42, Tryd.ntmps42
        go_wp2_with (first
          | (go_at_call 64; refine (ho _).mono ?_; rintro e w1 ⟨b, rfl, hn, hb⟩; have HB := hid hb; clear hn hb))
        go_ret
        exact ⟨rfl, HB.out⟩

theorem TypeValid_impl (l : List UInt8) (w : World) (hl : l.length + 4 ≤ maxLen) : Calls Tryd.prog 17 #[.string ⟨l.toArray⟩] w fun e w' => e = .returned (.bool (ty l).isSome) ∧ Below w.heap.size w w' := by
  cases h : ty l with
  | none =>
    have ho := typeOf_none l w hl h
    clear h
    go_enter Tryd.func17, Tryd.ntmps17
    go_wp2_with (first
      | (go_at_call 42; refine ho.mono ?_; rintro e w1 ⟨rfl, hb⟩; have HB := hid hb; clear hb))
    go_ret
    exact ⟨rfl, HB.out⟩
  | some t =>
    have ho := typeOf_some l t w h
    clear h
    go_enter Tryd.func17, Tryd.ntmps17
    go_wp2_with (first
      | (go_at_call 42; refine ho.mono ?_; rintro e w1 ⟨b, rfl, hn, hb⟩; have HB := hid hb; clear hb hn))
    go_ret
    exact ⟨rfl, HB.out⟩

end Go.Proofs.YtbdnhcfebgkpdaaDoor
