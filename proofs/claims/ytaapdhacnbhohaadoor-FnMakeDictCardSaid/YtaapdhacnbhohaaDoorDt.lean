/- Plain facts about the texts of dictionaries: the forest of a text, its reading and its printing. Nothing of Go. Conditions: none. -/
set_option linter.unusedVariables false
set_option linter.unusedSimpArgs false
set_option maxRecDepth 100000
namespace Go.Proofs.YtaapdhacnbhohaaDoor.Dt

/-- dictionaries beside each other: the first one's letter, its parts, the others -/
inductive F where
  | nil
  | cons (c : UInt8) (k r : F)
  deriving DecidableEq

def F.len : F → Nat
  | .nil => 0
  | .cons _ _ r => r.len + 1

def F.app : F → F → F
  | .nil, g => g
  | .cons c k r, g => .cons c k (r.app g)

/-- the first comma turned into a bracket, and the closing one -/
def wrap : List UInt8 → List UInt8
  | [] => []
  | _ :: l => 40 :: (l ++ [41])

/-- a comma before each text -/
def F.ct : F → List UInt8
  | .nil => []
  | .cons c k r => 44 :: c :: (wrap k.ct ++ r.ct)

def dtext (c : UInt8) (k : F) : List UInt8 := c :: wrap k.ct

def dig (c : UInt8) : Prop := 48 ≤ c ∧ c ≤ 57
instance (c : UInt8) : Decidable (dig c) := inferInstanceAs (Decidable (_ ∧ _))

def F.WF : F → Prop
  | .nil => True
  | .cons c k r => dig c ∧ k.len ≤ 3 ∧ k.WF ∧ r.WF

def F.size : F → Nat
  | .nil => 0
  | .cons _ k r => 1 + k.size + r.size

def F.depth : F → Nat
  | .nil => 0
  | .cons _ k r => max (1 + k.depth) r.depth

mutual
/-- a dictionary from the begin of a text, and what is behind it -/
def pD : Nat → List UInt8 → Option (UInt8 × F × List UInt8)
  | 0, _ => none
  | _ + 1, [] => none
  | n + 1, c :: s =>
    if dig c then
      match s with
      | 40 :: s1 =>
        match pT n (44 :: s1) with
        | some (ks, 41 :: r) => if ks.len ≤ 3 then some (c, ks, r) else none
        | _ => none
      | _ => some (c, .nil, s)
    else none
/-- dictionaries with a comma before each, as many as there are -/
def pT : Nat → List UInt8 → Option (F × List UInt8)
  | 0, _ => none
  | n + 1, s =>
    match s with
    | 44 :: s1 =>
      match pD n s1 with
      | some (c, k, r) =>
        match pT n r with
        | some (ks, r') => some (.cons c k ks, r')
        | none => none
      | none => none
    | _ => some (.nil, s)
end

theorem pD_nil (n : Nat) : pD n [] = none := by cases n <;> simp [pD]
theorem pD_no {c : UInt8} (h : ¬ dig c) (n : Nat) (s : List UInt8) : pD n (c :: s) = none := by cases n <;> simp [pD, h]
theorem pD_leaf {c : UInt8} (h : dig c) (n : Nat) (s : List UInt8) (hs : s.head? ≠ some 40) : pD (n + 1) (c :: s) = some (c, .nil, s) := by
  simp only [pD, h, if_true]
  match s, hs with
  | [], _ => rfl
  | x :: s, hs =>
    by_cases e : x = 40
    · subst e; simp at hs
    · simp [e]
theorem pD_open {c : UInt8} (h : dig c) (n : Nat) (s : List UInt8) : pD (n + 1) (c :: 40 :: s) = (match pT n (44 :: s) with | some (ks, 41 :: r) => if ks.len ≤ 3 then some (c, ks, r) else none | _ => none) := by
  simp only [pD, h, if_true]
theorem pD_yes {c : UInt8} (h : dig c) {n : Nat} {s r : List UInt8} {ks : F} (ht : pT n (44 :: s) = some (ks, 41 :: r)) (hl : ks.len ≤ 3) : pD (n + 1) (c :: 40 :: s) = some (c, ks, r) := by
  simp [pD_open h, ht, hl]
theorem pD_many {c : UInt8} (h : dig c) {n : Nat} {s r : List UInt8} {ks : F} (ht : pT n (44 :: s) = some (ks, r)) (hl : ¬ ks.len ≤ 3) : pD (n + 1) (c :: 40 :: s) = none := by
  rw [pD_open h, ht]
  match r with
  | [] => rfl
  | x :: r =>
    by_cases e : x = 41
    · subst e; simp [hl]
    · simp [e]
theorem pD_noClose {c : UInt8} (h : dig c) {n : Nat} {s r : List UInt8} {ks : F} (ht : pT n (44 :: s) = some (ks, r)) (hr : r.head? ≠ some 41) : pD (n + 1) (c :: 40 :: s) = none := by
  rw [pD_open h, ht]
  match r, hr with
  | [], _ => rfl
  | x :: r, hr =>
    by_cases e : x = 41
    · subst e; simp at hr
    · simp [e]
theorem pD_noPart {c : UInt8} (h : dig c) {n : Nat} {s : List UInt8} (ht : pT n (44 :: s) = none) : pD (n + 1) (c :: 40 :: s) = none := by
  rw [pD_open h, ht]

theorem pT_end (n : Nat) {s : List UInt8} (hs : s.head? ≠ some 44) : pT (n + 1) s = some (.nil, s) := by
  simp only [pT]
  match s, hs with
  | [], _ => rfl
  | x :: s, hs =>
    by_cases e : x = 44
    · subst e; simp at hs
    · simp [e]
theorem pT_none {n : Nat} {s : List UInt8} (h : pD n s = none) : pT (n + 1) (44 :: s) = none := by simp [pT, h]
theorem pT_none2 {n : Nat} {s r : List UInt8} {c : UInt8} {k : F} (h : pD n s = some (c, k, r)) (h2 : pT n r = none) : pT (n + 1) (44 :: s) = none := by simp [pT, h, h2]
theorem pT_cons {n : Nat} {s r r' : List UInt8} {c : UInt8} {k ks : F} (h : pD n s = some (c, k, r)) (h2 : pT n r = some (ks, r')) : pT (n + 1) (44 :: s) = some (.cons c k ks, r') := by simp [pT, h, h2]

theorem F.app_nil (f : F) : f.app .nil = f := by induction f with | nil => rfl | cons c k r _ ih => simp [F.app, ih]
theorem F.app_assoc (f g h : F) : (f.app g).app h = f.app (g.app h) := by induction f with | nil => rfl | cons c k r _ ih => simp [F.app, ih]
theorem F.len_app (f g : F) : (f.app g).len = f.len + g.len := by induction f with | nil => simp [F.app, F.len] | cons c k r _ ih => simp [F.app, F.len, ih]; omega
theorem F.len_nil {f : F} (h : f.len = 0) : f = .nil := by cases f <;> simp [F.len] at h ⊢
theorem F.size_app (f g : F) : (f.app g).size = f.size + g.size := by induction f with | nil => simp [F.app, F.size] | cons c k r _ ih => simp [F.app, F.size, ih]; omega
theorem F.depth_app (f g : F) : (f.app g).depth = max f.depth g.depth := by induction f with | nil => simp [F.app, F.depth] | cons c k r _ ih => simp [F.app, F.depth, ih]
theorem F.ct_app (f g : F) : (f.app g).ct = f.ct ++ g.ct := by induction f with | nil => rfl | cons c k r _ ih => simp [F.app, F.ct, ih]
theorem F.WF_app (f g : F) : (f.app g).WF ↔ f.WF ∧ g.WF := by induction f with | nil => simp [F.app, F.WF] | cons c k r _ ih => simp [F.app, F.WF, ih]; constructor <;> (intro h; simp [h])

theorem F.ct_cases (f : F) : (f = .nil ∧ f.ct = []) ∨ (f ≠ .nil ∧ ∃ l, f.ct = 44 :: l) := by cases f <;> simp [F.ct]

theorem wrap_len (l : List UInt8) : (wrap l).length ≤ l.length + 1 := by cases l <;> simp [wrap]

/-- what is read is the begin of the text -/
theorem sound (n : Nat) : (∀ s c k r, pD n s = some (c, k, r) → s = dtext c k ++ r ∧ dig c ∧ k.len ≤ 3 ∧ k.WF ∧ (k = .nil → r.head? ≠ some 40)) ∧ (∀ s ks r, pT n s = some (ks, r) → s = ks.ct ++ r ∧ ks.WF ∧ r.head? ≠ some 44) := by
  induction n with
  | zero => exact ⟨fun s c k r h => by simp [pD] at h, fun s ks r h => by simp [pT] at h⟩
  | succ n ih =>
    obtain ⟨i1, i2⟩ := ih
    constructor
    · intro s c k r h
      match s with
      | [] => simp [pD] at h
      | x :: s =>
        by_cases hd : dig x
        · by_cases ho : s.head? = some 40
          · obtain ⟨s1, rfl⟩ : ∃ s1, s = 40 :: s1 := by
              cases s with
              | nil => simp at ho
              | cons y s1 => simp at ho; exact ⟨s1, by rw [ho]⟩
            rw [pD_open hd] at h
            split at h
            · rename_i ks r' heq
              split at h
              · rename_i hl
                simp only [Option.some.injEq, Prod.mk.injEq] at h
                obtain ⟨rfl, rfl, rfl⟩ := h
                obtain ⟨e, hw, _⟩ := i2 _ _ _ heq
                refine ⟨?_, hd, hl, hw, ?_⟩
                · rcases ks.ct_cases with ⟨rfl, h0⟩ | ⟨_, l, h0⟩
                  · rw [h0] at e; simp at e
                  · rw [h0] at e
                    simp at e
                    simp [dtext, h0, wrap, e]
                · rintro rfl
                  simp [F.ct] at e
              · simp at h
            · simp at h
          · rw [pD_leaf hd n s ho] at h
            simp only [Option.some.injEq, Prod.mk.injEq] at h
            obtain ⟨rfl, rfl, rfl⟩ := h
            exact ⟨by simp [dtext, F.ct, wrap], hd, by simp [F.len], trivial, fun _ => ho⟩
        · rw [pD_no hd] at h; simp at h
    · intro s ks r h
      by_cases hc : s.head? = some 44
      · obtain ⟨s1, rfl⟩ : ∃ s1, s = 44 :: s1 := by
          cases s with
          | nil => simp at hc
          | cons y s1 => simp at hc; exact ⟨s1, by rw [hc]⟩
        simp only [pT] at h
        split at h
        · rename_i c k r1 heq
          split at h
          · rename_i ks' r2 heq2
            simp only [Option.some.injEq, Prod.mk.injEq] at h
            obtain ⟨rfl, rfl⟩ := h
            obtain ⟨e1, a1, a2, a3, a4⟩ := i1 _ _ _ _ heq
            obtain ⟨e2, b1, b2⟩ := i2 _ _ _ heq2
            exact ⟨by rw [e1, e2]; simp [F.ct, dtext], ⟨a1, a2, a3, b1⟩, b2⟩
          · simp at h
        · simp at h
      · rw [pT_end n hc] at h
        simp only [Option.some.injEq, Prod.mk.injEq] at h
        obtain ⟨rfl, rfl⟩ := h
        exact ⟨by simp [F.ct], trivial, hc⟩

theorem dtext_pos (c : UInt8) (k : F) : 0 < (dtext c k).length := by simp [dtext]
theorem pD_len {n : Nat} {s r : List UInt8} {c : UInt8} {k : F} (h : pD n s = some (c, k, r)) : r.length < s.length := by
  obtain ⟨rfl, _⟩ := (sound n).1 _ _ _ _ h
  have := dtext_pos c k
  simp; omega
theorem pT_len {n : Nat} {s r : List UInt8} {ks : F} (h : pT n s = some (ks, r)) : r.length ≤ s.length := by
  obtain ⟨rfl, _⟩ := (sound n).2 _ _ _ h
  simp

/-- a forest's text is read, and so is a dictionary's -/
theorem complete : ∀ (ks : F), ks.WF → ∀ (n : Nat) (r : List UInt8), ks.ct.length + 1 ≤ n → r.head? ≠ some 44 → r.head? ≠ some 40 → pT n (ks.ct ++ r) = some (ks, r) := by
  intro ks
  induction ks with
  | nil =>
    intro _ n r hn h1 h2
    obtain ⟨n, rfl⟩ : ∃ m, n = m + 1 := ⟨n - 1, by omega⟩
    exact pT_end n h1
  | cons c k ks ih1 ih2 =>
    intro ⟨hd, hl, hw, hv⟩ n r hn h1 h2
    obtain ⟨n, rfl⟩ : ∃ m, n = m + 2 := ⟨n - 2, by simp [F.ct] at hn; omega⟩
    have hr2 : (ks.ct ++ r).head? ≠ some 40 := by
      rcases ks.ct_cases with ⟨rfl, h0⟩ | ⟨_, l, h0⟩ <;> rw [h0] <;> simp
      simpa using h2
    have e : (F.cons c k ks).ct ++ r = 44 :: (dtext c k ++ (ks.ct ++ r)) := by simp [F.ct, dtext]
    rw [e]
    have e2 := ih2 hv (n + 1) r (by simp [F.ct] at hn; omega) h1 h2
    refine pT_cons ?_ e2
    rcases k.ct_cases with ⟨rfl, h0⟩ | ⟨_, l, h0⟩
    · simp only [dtext, F.ct, wrap]
      exact pD_leaf hd n _ (by simpa using hr2)
    · have e3 : dtext c k ++ (ks.ct ++ r) = c :: 40 :: (l ++ 41 :: (ks.ct ++ r)) := by simp [dtext, h0, wrap]
      rw [e3]
      refine pD_yes hd ?_ hl
      have e4 := ih1 hw n (41 :: (ks.ct ++ r)) (by simp [F.ct, h0, wrap] at hn ⊢; omega) (by simp) (by simp)
      rw [h0] at e4
      simpa using e4

theorem pD_text {c : UInt8} {k : F} (hd : dig c) (hl : k.len ≤ 3) (hw : k.WF) (n : Nat) (r : List UInt8) (hn : (dtext c k).length ≤ n) (hr : k = .nil → r.head? ≠ some 40) : pD n (dtext c k ++ r) = some (c, k, r) := by
  obtain ⟨n, rfl⟩ : ∃ m, n = m + 1 := ⟨n - 1, by have := dtext_pos c k; omega⟩
  rcases k.ct_cases with ⟨rfl, h0⟩ | ⟨_, l, h0⟩
  · simp only [dtext, F.ct, wrap]
    exact pD_leaf hd n _ (by simpa using hr rfl)
  · have e3 : dtext c k ++ r = c :: 40 :: (l ++ 41 :: r) := by simp [dtext, h0, wrap]
    rw [e3]
    refine pD_yes hd ?_ hl
    have e4 := complete k hw n (41 :: r) (by simp [dtext, h0, wrap] at hn ⊢; omega) (by simp) (by simp)
    rw [h0] at e4
    simpa using e4

/-- more rounds tell the same, where there were enough -/
theorem more (n : Nat) : (∀ s : List UInt8, s.length ≤ n → pD (n + 1) s = pD n s) ∧ (∀ s : List UInt8, s.length ≤ n → 1 ≤ n → pT (n + 1) s = pT n s) := by
  induction n with
  | zero =>
    refine ⟨fun s h => ?_, fun s h h' => by omega⟩
    obtain rfl : s = [] := List.eq_nil_of_length_eq_zero (by omega)
    rw [pD_nil, pD_nil]
  | succ n ih =>
    obtain ⟨i1, i2⟩ := ih
    constructor
    · intro s hs
      match s, hs with
      | [], _ => rw [pD_nil, pD_nil]
      | c :: s, hs =>
        by_cases hd : dig c
        · by_cases ho : s.head? = some 40
          · obtain ⟨s1, rfl⟩ : ∃ s1, s = 40 :: s1 := by
              cases s with
              | nil => simp at ho
              | cons y s1 => simp at ho; exact ⟨s1, by rw [ho]⟩
            rw [pD_open hd, pD_open hd, i2 (44 :: s1) (by simp at hs ⊢; omega) (by simp at hs; omega)]
          · rw [pD_leaf hd _ s ho, pD_leaf hd _ s ho]
        · rw [pD_no hd, pD_no hd]
    · intro s hs hn
      by_cases hc : s.head? = some 44
      · obtain ⟨s1, rfl⟩ : ∃ s1, s = 44 :: s1 := by
          cases s with
          | nil => simp at hc
          | cons y s1 => simp at hc; exact ⟨s1, by rw [hc]⟩
        have e := i1 s1 (by simp at hs; omega)
        cases h : pD n s1 with
        | none => rw [pT_none h, pT_none (by rw [e, h])]
        | some x =>
          obtain ⟨c, k, r⟩ := x
          have hl := pD_len h
          have e2 := i2 r (by simp at hs; omega) (by simp at hs; omega)
          cases h2 : pT n r with
          | none => rw [pT_none2 h h2, pT_none2 (by rw [e, h]) (by rw [e2, h2])]
          | some y =>
            obtain ⟨ks, r2⟩ := y
            rw [pT_cons h h2, pT_cons (by rw [e, h]) (by rw [e2, h2])]
      · rw [pT_end _ hc, pT_end _ hc]
theorem pD_more (n : Nat) (s : List UInt8) (h : s.length ≤ n) : pD n s = pD s.length s := by
  induction n with
  | zero => rw [Nat.le_zero.1 h]
  | succ n ih =>
    by_cases e : s.length = n + 1
    · rw [e]
    · rw [(more n).1 s (by omega)]; exact ih (by omega)
theorem pT_more (n : Nat) (s : List UInt8) (h : s.length ≤ n) (h1 : 1 ≤ n) : pT n s = pT (s.length + 1) s := by
  induction n with
  | zero => omega
  | succ n ih =>
    by_cases e : s.length = n
    · rw [e]
    · by_cases e2 : s.length = n + 1
      · rw [← e2, (more s.length).2 s (Nat.le_refl _) (by omega)]
      · rw [(more n).2 s (by omega) (by omega)]; exact ih (by omega) (by omega)
/-- the readings with rounds enough -/
def rD (s : List UInt8) : Option (UInt8 × F × List UInt8) := pD s.length s
def rT (s : List UInt8) : Option (F × List UInt8) := pT (s.length + 1) s
theorem rD_nil : rD [] = none := pD_nil _
theorem rD_no {c : UInt8} (h : ¬ dig c) (s : List UInt8) : rD (c :: s) = none := pD_no h _ s
theorem rD_leaf {c : UInt8} (h : dig c) (s : List UInt8) (hs : s.head? ≠ some 40) : rD (c :: s) = some (c, .nil, s) := pD_leaf h _ s hs
theorem rD_yes {c : UInt8} (h : dig c) {s r : List UInt8} {ks : F} (ht : rT (44 :: s) = some (ks, 41 :: r)) (hl : ks.len ≤ 3) : rD (c :: 40 :: s) = some (c, ks, r) :=
  pD_yes h (by rw [pT_more _ _ (by simp) (by simp)]; exact ht) hl
theorem rD_many {c : UInt8} (h : dig c) {s r : List UInt8} {ks : F} (ht : rT (44 :: s) = some (ks, r)) (hl : ¬ ks.len ≤ 3) : rD (c :: 40 :: s) = none :=
  pD_many h (by rw [pT_more _ _ (by simp) (by simp)]; exact ht) hl
theorem rD_noClose {c : UInt8} (h : dig c) {s r : List UInt8} {ks : F} (ht : rT (44 :: s) = some (ks, r)) (hr : r.head? ≠ some 41) : rD (c :: 40 :: s) = none :=
  pD_noClose h (by rw [pT_more _ _ (by simp) (by simp)]; exact ht) hr
theorem rD_noPart {c : UInt8} (h : dig c) {s : List UInt8} (ht : rT (44 :: s) = none) : rD (c :: 40 :: s) = none :=
  pD_noPart h (by rw [pT_more _ _ (by simp) (by simp)]; exact ht)
theorem rT_end {s : List UInt8} (hs : s.head? ≠ some 44) : rT s = some (.nil, s) := pT_end _ hs
theorem rT_none {s : List UInt8} (h : rD s = none) : rT (44 :: s) = none := pT_none (by rw [pD_more _ _ (by simp)]; exact h)
theorem rD_len {s r : List UInt8} {c : UInt8} {k : F} (h : rD s = some (c, k, r)) : r.length < s.length := pD_len h
theorem rT_len {s r : List UInt8} {ks : F} (h : rT s = some (ks, r)) : r.length ≤ s.length := pT_len h
theorem rT_none2 {s r : List UInt8} {c : UInt8} {k : F} (h : rD s = some (c, k, r)) (h2 : rT r = none) : rT (44 :: s) = none :=
  pT_none2 (by rw [pD_more _ _ (by simp)]; exact h) (by have := rD_len h; rw [pT_more _ _ (by simp; omega) (by simp)]; exact h2)
theorem rT_cons {s r r' : List UInt8} {c : UInt8} {k ks : F} (h : rD s = some (c, k, r)) (h2 : rT r = some (ks, r')) : rT (44 :: s) = some (.cons c k ks, r') :=
  pT_cons (by rw [pD_more _ _ (by simp)]; exact h) (by have := rD_len h; rw [pT_more _ _ (by simp; omega) (by simp)]; exact h2)
/-- what a loop knows: A is read from s0 on, s is left -/
def cont (A : F) (x : Option (F × List UInt8)) : Option (F × List UInt8) := x.map fun p => (A.app p.1, p.2)
theorem cont_cons {A : F} {s r : List UInt8} {c : UInt8} {k : F} (h : rD s = some (c, k, r)) : cont A (rT (44 :: s)) = cont (A.app (.cons c k .nil)) (rT r) := by
  cases h2 : rT r with
  | none => rw [rT_none2 h h2]; rfl
  | some x => obtain ⟨ks, r'⟩ := x; rw [rT_cons h h2]; simp [cont, F.app_assoc, F.app]
theorem cont_none {A : F} {s : List UInt8} (h : rD s = none) : cont A (rT (44 :: s)) = none := by rw [rT_none h]; rfl
theorem cont_end {A : F} {s : List UInt8} (h : s.head? ≠ some 44) : cont A (rT s) = some (A, s) := by rw [rT_end h]; simp [cont, F.app_nil]
theorem cont_nil (x : Option (F × List UInt8)) : cont .nil x = x := by cases x <;> simp [cont, F.app]

/-- the dictionary of a whole text of at most 1200 bytes -/
def dt (s : List UInt8) : Option (UInt8 × F) :=
  if s.length ≤ 1200 then
    match pD s.length s with
    | some (c, k, []) => some (c, k)
    | _ => none
  else none

theorem dt_some {s : List UInt8} {c : UInt8} {k : F} (h : dt s = some (c, k)) : s = dtext c k ∧ dig c ∧ k.len ≤ 3 ∧ k.WF ∧ s.length ≤ 1200 := by
  unfold dt at h
  split at h
  · split at h
    · rename_i c' k' heq
      simp only [Option.some.injEq, Prod.mk.injEq] at h
      obtain ⟨rfl, rfl⟩ := h
      obtain ⟨h1, h2, h3, h4, _⟩ := (sound _).1 _ _ _ _ heq
      exact ⟨by simpa using h1, h2, h3, h4, by assumption⟩
    · simp at h
  · simp at h
theorem dt_of {c : UInt8} {k : F} (hd : dig c) (hl : k.len ≤ 3) (hw : k.WF) (hs : (dtext c k).length ≤ 1200) : dt (dtext c k) = some (c, k) := by
  have := pD_text hd hl hw (dtext c k).length [] (Nat.le_refl _) (by simp)
  simp at this
  simp [dt, hs, this]
theorem dt_pD_some {s : List UInt8} {c : UInt8} {k : F} (h : pD s.length s = some (c, k, [])) (hl : s.length ≤ 1200) : dt s = some (c, k) := by simp [dt, hl, h]
theorem dt_pD_rest {s : List UInt8} {c : UInt8} {k : F} {x : UInt8} {r : List UInt8} (h : pD s.length s = some (c, k, x :: r)) : dt s = none := by simp [dt, h]
theorem dt_pD_none {s : List UInt8} (h : pD s.length s = none) : dt s = none := by simp [dt, h]
theorem dt_long {s : List UInt8} (h : 1200 < s.length) : dt s = none := by simp [dt, Nat.not_le.2 h]

end Go.Proofs.YtaapdhacnbhohaaDoor.Dt
