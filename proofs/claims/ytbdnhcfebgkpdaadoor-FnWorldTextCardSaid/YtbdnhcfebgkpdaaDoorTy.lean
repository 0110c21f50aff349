/- Plain facts about the texts of types: the tree of a text, its reading and its printing. Nothing of Go. Conditions: none. -/
set_option linter.unusedVariables false
set_option linter.unusedSimpArgs false
set_option maxRecDepth 100000
namespace Go.Proofs.YtbdnhcfebgkpdaaDoor.Ty

/-- how many parts a letter has -/
def ar (c : UInt8) : Option Nat :=
  if c = 105 ∨ c = 98 ∨ c = 117 ∨ c = 120 ∨ c = 121 ∨ c = 122 ∨ c = 88 ∨ c = 89 ∨ c = 90 then some 0
  else if c = 108 ∨ c = 109 then some 1
  else if c = 112 then some 2
  else none

inductive Ty where
  | leaf (c : UInt8)
  | one (c : UInt8) (t : Ty)
  | two (c : UInt8) (t u : Ty)
  deriving DecidableEq

def Ty.WF : Ty → Prop
  | .leaf c => ar c = some 0
  | .one c t => ar c = some 1 ∧ t.WF
  | .two c t u => ar c = some 2 ∧ t.WF ∧ u.WF

def Ty.text : Ty → List UInt8
  | .leaf c => [c]
  | .one c t => c :: 40 :: (t.text ++ [41])
  | .two c t u => c :: 40 :: (t.text ++ 44 :: (u.text ++ [41]))

def Ty.head : Ty → UInt8
  | .leaf c => c
  | .one c _ => c
  | .two c _ _ => c

def Ty.parts : Ty → List Ty
  | .leaf _ => []
  | .one _ t => [t]
  | .two _ t u => [t, u]

def Ty.size : Ty → Nat
  | .leaf _ => 1
  | .one _ t => 1 + t.size
  | .two _ t u => 1 + t.size + u.size

def Ty.depth : Ty → Nat
  | .leaf _ => 0
  | .one _ t => 1 + t.depth
  | .two _ t u => max (1 + t.depth) (1 + u.depth)

/-- the reading: a type from the begin of a text, and what is behind it -/
def parse : Nat → List UInt8 → Option (Ty × List UInt8)
  | 0, _ => none
  | _ + 1, [] => none
  | n + 1, c :: s =>
    match ar c with
    | some 0 => some (.leaf c, s)
    | some 1 =>
      match s with
      | 40 :: s1 =>
        match parse n s1 with
        | some (t, 41 :: s2) => some (.one c t, s2)
        | _ => none
      | _ => none
    | some 2 =>
      match s with
      | 40 :: s1 =>
        match parse n s1 with
        | some (t, 44 :: s2) =>
          match parse n s2 with
          | some (u, 41 :: s3) => some (.two c t u, s3)
          | _ => none
        | _ => none
      | _ => none
    | _ => none

theorem ar_cases (c : UInt8) : ar c = none ∨ ar c = some 0 ∨ ar c = some 1 ∨ ar c = some 2 := by
  unfold ar; split
  · simp
  · split
    · simp
    · split <;> simp

theorem parse_nil (n : Nat) : parse n [] = none := by cases n <;> rfl
theorem parse_none {c : UInt8} (h : ar c = none) (n : Nat) (s : List UInt8) : parse (n + 1) (c :: s) = none := by simp [parse, h]
theorem parse_leaf {c : UInt8} (h : ar c = some 0) (n : Nat) (s : List UInt8) : parse (n + 1) (c :: s) = some (.leaf c, s) := by simp [parse, h]
theorem parse_one {c : UInt8} (h : ar c = some 1) {n : Nat} {s s2 : List UInt8} {t : Ty} (h1 : parse n s = some (t, 41 :: s2)) : parse (n + 1) (c :: 40 :: s) = some (.one c t, s2) := by simp [parse, h, h1]
theorem parse_two {c : UInt8} (h : ar c = some 2) {n : Nat} {s s2 s3 : List UInt8} {t u : Ty} (h1 : parse n s = some (t, 44 :: s2)) (h2 : parse n s2 = some (u, 41 :: s3)) : parse (n + 1) (c :: 40 :: s) = some (.two c t u, s3) := by simp [parse, h, h1, h2]
/-- the ways in which a letter with parts is not read -/
theorem parse_no_open {c : UInt8} {k : Nat} (h : ar c = some (k + 1)) (n : Nat) {s : List UInt8} (hs : s.head? ≠ some 40) : parse (n + 1) (c :: s) = none := by
  rcases ar_cases c with h' | h' | h' | h' <;> rw [h'] at h <;> simp at h
  all_goals
    simp only [parse, h']
    match s, hs with
    | [], _ => rfl
    | x :: s, hs =>
      by_cases e : x = 40
      · subst e; simp at hs
      · simp [e]
theorem parse_no_first {c : UInt8} {k : Nat} (h : ar c = some (k + 1)) {n : Nat} {s : List UInt8} (hs : parse n s = none) : parse (n + 1) (c :: 40 :: s) = none := by
  rcases ar_cases c with h' | h' | h' | h' <;> rw [h'] at h <;> simp at h
  all_goals simp [parse, h', hs]
theorem parse_one_no_close {c : UInt8} (h : ar c = some 1) {n : Nat} {s r : List UInt8} {t : Ty} (hs : parse n s = some (t, r)) (hr : r.head? ≠ some 41) : parse (n + 1) (c :: 40 :: s) = none := by
  simp only [parse, h, hs]
  match r, hr with
  | [], _ => rfl
  | x :: r, hr =>
    by_cases e : x = 41
    · subst e; simp at hr
    · simp [e]
theorem parse_two_no_comma {c : UInt8} (h : ar c = some 2) {n : Nat} {s r : List UInt8} {t : Ty} (hs : parse n s = some (t, r)) (hr : r.head? ≠ some 44) : parse (n + 1) (c :: 40 :: s) = none := by
  simp only [parse, h, hs]
  match r, hr with
  | [], _ => rfl
  | x :: r, hr =>
    by_cases e : x = 44
    · subst e; simp at hr
    · simp [e]
theorem parse_two_no_second {c : UInt8} (h : ar c = some 2) {n : Nat} {s r : List UInt8} {t : Ty} (hs : parse n s = some (t, 44 :: r)) (hr : parse n r = none) : parse (n + 1) (c :: 40 :: s) = none := by
  simp [parse, h, hs, hr]
theorem parse_two_no_close {c : UInt8} (h : ar c = some 2) {n : Nat} {s r q : List UInt8} {t u : Ty} (hs : parse n s = some (t, 44 :: r)) (hr : parse n r = some (u, q)) (hq : q.head? ≠ some 41) : parse (n + 1) (c :: 40 :: s) = none := by
  simp only [parse, h, hs, hr]
  match q, hq with
  | [], _ => rfl
  | x :: r, hr =>
    by_cases e : x = 41
    · subst e; simp at hr
    · simp [e]

theorem Ty.text_pos (t : Ty) : 0 < t.text.length := by cases t <;> simp [Ty.text]
theorem Ty.text_cons (t : Ty) : ∃ l, t.text = t.head :: l := by cases t <;> exact ⟨_, rfl⟩

/-- what is read is the begin of the text -/
theorem parse_sound : ∀ (n : Nat) (s : List UInt8) (t : Ty) (r : List UInt8), parse n s = some (t, r) → s = t.text ++ r ∧ t.WF := by
  intro n
  induction n with
  | zero => intro s t r h; simp [parse] at h
  | succ n ih =>
    intro s t r h
    match s with
    | [] => simp [parse] at h
    | c :: s =>
      rcases ar_cases c with h' | h' | h' | h'
      · simp [parse, h'] at h
      · simp [parse, h'] at h
        obtain ⟨rfl, rfl⟩ := h
        exact ⟨rfl, h'⟩
      · simp only [parse, h'] at h
        split at h
        · split at h
          · rename_i s1 _ s2 heq
            simp at h
            obtain ⟨rfl, rfl⟩ := h
            obtain ⟨rfl, hw⟩ := ih _ _ _ heq
            exact ⟨by simp [Ty.text], h', hw⟩
          · simp at h
        · simp at h
      · simp only [parse, h'] at h
        split at h
        · split at h
          · split at h
            · rename_i s1 _ _ s2 heq _ _ s3 heq2
              simp at h
              obtain ⟨rfl, rfl⟩ := h
              obtain ⟨rfl, hw⟩ := ih _ _ _ heq
              obtain ⟨rfl, hv⟩ := ih _ _ _ heq2
              exact ⟨by simp [Ty.text], h', hw, hv⟩
            · simp at h
          · simp at h
        · simp at h

/-- a type's text is read -/
theorem parse_text : ∀ (t : Ty), t.WF → ∀ (n : Nat) (r : List UInt8), t.text.length ≤ n → parse n (t.text ++ r) = some (t, r) := by
  intro t
  induction t with
  | leaf c =>
    intro h n r hn
    obtain ⟨n, rfl⟩ : ∃ m, n = m + 1 := ⟨n - 1, by simp [Ty.text] at hn; omega⟩
    exact parse_leaf h n r
  | one c t ih =>
    intro ⟨h, hw⟩ n r hn
    obtain ⟨n, rfl⟩ : ∃ m, n = m + 1 := ⟨n - 1, by simp [Ty.text] at hn; omega⟩
    have e : (Ty.one c t).text ++ r = c :: 40 :: (t.text ++ (41 :: r)) := by simp [Ty.text]
    rw [e]
    exact parse_one h (ih hw n _ (by simp [Ty.text] at hn; omega))
  | two c t u ih1 ih2 =>
    intro ⟨h, hw, hv⟩ n r hn
    obtain ⟨n, rfl⟩ : ∃ m, n = m + 1 := ⟨n - 1, by simp [Ty.text] at hn; omega⟩
    have e : (Ty.two c t u).text ++ r = c :: 40 :: (t.text ++ (44 :: (u.text ++ (41 :: r)))) := by simp [Ty.text]
    rw [e]
    exact parse_two h (ih1 hw n _ (by simp [Ty.text] at hn; omega)) (ih2 hv n _ (by simp [Ty.text] at hn; omega))

theorem parse_len {n : Nat} {s r : List UInt8} {t : Ty} (h : parse n s = some (t, r)) : r.length < s.length := by
  obtain ⟨rfl, _⟩ := parse_sound _ _ _ _ h
  have := t.text_pos
  simp; omega

/-- more rounds tell the same, where there were enough -/
theorem parse_more (n m : Nat) (s : List UInt8) (hn : s.length ≤ n) (hm : s.length ≤ m) : parse n s = parse m s := by
  cases h : parse n s with
  | some x =>
    obtain ⟨t, r⟩ := x
    obtain ⟨rfl, hw⟩ := parse_sound _ _ _ _ h
    rw [parse_text t hw m r (by simp at hm; omega)]
  | none =>
    cases h' : parse m s with
    | none => rfl
    | some x =>
      obtain ⟨t, r⟩ := x
      obtain ⟨rfl, hw⟩ := parse_sound _ _ _ _ h'
      rw [parse_text t hw n r (by simp at hn; omega)] at h
      simp at h

/-- the type of a whole text of at most 60 bytes -/
def ty (s : List UInt8) : Option Ty :=
  if s.length ≤ 60 then
    match parse s.length s with
    | some (t, []) => some t
    | _ => none
  else none

theorem ty_some {s : List UInt8} {t : Ty} (h : ty s = some t) : s = t.text ∧ t.WF ∧ s.length ≤ 60 := by
  unfold ty at h
  split at h
  · split at h
    · rename_i t' heq
      simp at h
      subst h
      obtain ⟨h1, h2⟩ := parse_sound _ _ _ _ heq
      exact ⟨by simpa using h1, h2, by assumption⟩
    · simp at h
  · simp at h

theorem ty_of {t : Ty} (h : t.WF) (hl : t.text.length ≤ 60) : ty t.text = some t := by
  have := parse_text t h t.text.length [] (Nat.le_refl _)
  simp at this
  simp [ty, hl, this]

theorem ty_iff {s : List UInt8} {t : Ty} : ty s = some t ↔ s = t.text ∧ t.WF ∧ s.length ≤ 60 :=
  ⟨ty_some, fun ⟨h1, h2, h3⟩ => by subst h1; exact ty_of h2 h3⟩

/-- by a reading with enough rounds -/
theorem ty_parse_some {n : Nat} {s : List UInt8} {t : Ty} (hn : s.length ≤ n) (h : parse n s = some (t, [])) (hl : s.length ≤ 60) : ty s = some t := by
  rw [parse_more n s.length s hn (Nat.le_refl _)] at h
  simp [ty, hl, h]
theorem ty_parse_rest {n : Nat} {s : List UInt8} {t : Ty} {x : UInt8} {r : List UInt8} (hn : s.length ≤ n) (h : parse n s = some (t, x :: r)) : ty s = none := by
  rw [parse_more n s.length s hn (Nat.le_refl _)] at h
  simp [ty, h]
theorem ty_parse_none {n : Nat} {s : List UInt8} (hn : s.length ≤ n) (h : parse n s = none) : ty s = none := by
  rw [parse_more n s.length s hn (Nat.le_refl _)] at h
  simp [ty, h]
theorem ty_long {s : List UInt8} (h : 60 < s.length) : ty s = none := by simp [ty, Nat.not_le.2 h]
theorem ty_nil : ty [] = none := rfl

end Go.Proofs.YtbdnhcfebgkpdaaDoor.Ty
