/- The plain law of SupersOf: both sides compute what stands above a class. Conditions: the classes are those of a valid world. -/
import Derived.Lib.Hide
set_option linter.unusedVariables false
namespace Go.Proofs.Ytaijklafgcocmaa
namespace SupP
/-- a strictly ascending list is what its members make it -/
theorem sorted_ext : ∀ (xs ys : List UInt8), xs.Pairwise (fun a b => a.toNat < b.toNat) → ys.Pairwise (fun a b => a.toNat < b.toNat) → (∀ c, c ∈ xs ↔ c ∈ ys) → xs = ys
  | [], ys, _, _, h => by
    cases ys with
    | nil => rfl
    | cons y ys => exact absurd ((h y).2 (by simp)) (by simp)
  | x :: xs, [], _, _, h => absurd ((h x).1 (by simp)) (by simp)
  | x :: xs, y :: ys, hx, hy, h => by
    rw [List.pairwise_cons] at hx hy
    have e : x = y := by
      have h1 := (h x).1 (by simp)
      have h2 := (h y).2 (by simp)
      rw [List.mem_cons] at h1 h2
      rcases h1 with h1 | h1
      · exact h1
      · rcases h2 with h2 | h2
        · exact h2.symm
        · have a := hx.1 y h2
          have b := hy.1 x h1
          omega
    subst e
    rw [sorted_ext xs ys hx.2 hy.2 fun c => ⟨fun hc => ?_, fun hc => ?_⟩]
    · have h1 := (h c).1 (List.mem_cons_of_mem _ hc)
      rw [List.mem_cons] at h1
      rcases h1 with rfl | h1
      · exact absurd (hx.1 _ hc) (Nat.lt_irrefl _)
      · exact h1
    · have h1 := (h c).2 (List.mem_cons_of_mem _ hc)
      rw [List.mem_cons] at h1
      rcases h1 with rfl | h1
      · exact absurd (hy.1 _ hc) (Nat.lt_irrefl _)
      · exact h1

/-- classes as their letters and what stands above each -/
abbrev CS := List (UInt8 × List UInt8)
/-- the classes of a valid world: names ascend, what stands above one are names of those before it -/
def OK (cs : CS) : Prop := (cs.map (·.1)).Pairwise (fun a b => a.toNat < b.toNat) ∧ ∀ (i : Nat) (c : UInt8) (s : List UInt8), cs[i]? = some (c, s) → ∀ x ∈ s, ∃ j t, j < i ∧ cs[j]? = some (x, t)
/-- what stands above a letter -/
def sup (cs : CS) (c : UInt8) : List UInt8 := match cs.find? (fun p => p.1 == c) with | some p => p.2 | none => []
theorem name_inj {cs : CS} (h : OK cs) {i j : Nat} {c : UInt8} {s t : List UInt8} (hi : cs[i]? = some (c, s)) (hj : cs[j]? = some (c, t)) : i = j := by
  obtain ⟨li, gi⟩ := List.getElem?_eq_some_iff.1 hi
  obtain ⟨lj, gj⟩ := List.getElem?_eq_some_iff.1 hj
  rcases Nat.lt_trichotomy i j with e | e | e
  · have := (List.pairwise_iff_getElem.1 h.1) i j (by simpa using li) (by simpa using lj) e
    simp [gi, gj] at this
  · exact e
  · have := (List.pairwise_iff_getElem.1 h.1) j i (by simpa using lj) (by simpa using li) e
    simp [gi, gj] at this
theorem sup_at {cs : CS} (h : OK cs) {i : Nat} {c : UInt8} {s : List UInt8} (hi : cs[i]? = some (c, s)) : sup cs c = s := by
  unfold sup
  cases hf : cs.find? (fun p => p.1 == c) with
  | none =>
    rw [List.find?_eq_none] at hf
    exact absurd (hf _ (List.mem_of_getElem? hi)) (by simp)
  | some p =>
    obtain ⟨j, hj, hh⟩ := List.mem_iff_getElem.1 (List.mem_of_find?_eq_some hf)
    have hp := List.find?_some hf
    obtain ⟨d, t⟩ := p
    simp at hp
    subst hp
    have hj2 : cs[j]? = some (d, t) := by rw [List.getElem?_eq_getElem hj, hh]
    have := name_inj h hi hj2
    subst this
    rw [hi] at hj2; cases hj2; rfl
/-- x stands above c, through others -/
inductive Up (cs : CS) : UInt8 → UInt8 → Prop
  | one {c x} : x ∈ sup cs c → Up cs c x
  | more {c y x} : Up cs c y → x ∈ sup cs y → Up cs c x
theorem Up.index {cs : CS} (h : OK cs) {i : Nat} {c x : UInt8} {s : List UInt8} (hi : cs[i]? = some (c, s)) (u : Up cs c x) : ∃ j t, j < i ∧ cs[j]? = some (x, t) := by
  induction u with
  | one hx =>
    rw [sup_at h hi] at hx
    exact h.2 i _ s hi _ hx
  | more u hx ih =>
    obtain ⟨j, t, hj, hjt⟩ := ih
    rw [sup_at h hjt] at hx
    obtain ⟨j', t', h1, h2⟩ := h.2 j _ t hjt _ hx
    exact ⟨j', t', by omega, h2⟩

/-- the program: what it has when the classes from number i on are done, of k still to do -/
def acc (cs : CS) (c : UInt8) : Nat → List UInt8
  | 0 => []
  | k + 1 => acc cs c k ++ match cs[cs.length - (k + 1)]? with | some p => if p.1 = c ∨ p.1 ∈ acc cs c k then p.2 else [] | none => []
theorem acc_up {cs : CS} (h : OK cs) (c : UInt8) : ∀ k, ∀ x ∈ acc cs c k, Up cs c x
  | 0, x, hx => by simp [acc] at hx
  | k + 1, x, hx => by
    unfold acc at hx
    rw [List.mem_append] at hx
    rcases hx with hx | hx
    · exact acc_up h c k x hx
    · cases hp : cs[cs.length - (k + 1)]? with
      | none => rw [hp] at hx; simp at hx
      | some p =>
        obtain ⟨d, s⟩ := p
        rw [hp] at hx
        dsimp only at hx
        split at hx
        · rename_i hd
          rcases hd with rfl | hd
          · exact .one (by rw [sup_at h hp]; exact hx)
          · exact .more (acc_up h c k d hd) (by rw [sup_at h hp]; exact hx)
        · simp at hx
theorem acc_mono (cs : CS) (c : UInt8) {k m : Nat} (h : k ≤ m) : ∀ x ∈ acc cs c k, x ∈ acc cs c m := by
  induction h with
  | refl => exact fun _ h => h
  | step _ ih => intro x hx; unfold acc; exact List.mem_append_left _ (ih x hx)
theorem up_acc {cs : CS} (h : OK cs) {i : Nat} {c : UInt8} {s : List UInt8} (hi : cs[i]? = some (c, s)) {x : UInt8} (u : Up cs c x) : ∀ j t, cs[j]? = some (x, t) → x ∈ acc cs c (cs.length - (j + 1)) := by
  induction u with
  | one hx =>
    intro j t hj
    rw [sup_at h hi] at hx
    obtain ⟨j', t', h1, h2⟩ := h.2 i _ s hi _ hx
    have e := name_inj h hj h2
    subst e
    have li := (List.getElem?_eq_some_iff.1 hi).1
    refine acc_mono cs c (k := cs.length - i) (by omega) _ ?_
    rw [show cs.length - i = (cs.length - i - 1) + 1 by omega]
    unfold acc
    rw [show cs.length - (cs.length - i - 1 + 1) = i by omega, hi]
    simp [hx]
  | @more y x u hx ih =>
    intro j t hj
    obtain ⟨jy, ty, h1, h2⟩ := Up.index h hi u
    rw [sup_at h h2] at hx
    obtain ⟨j', t', h3, h4⟩ := h.2 jy _ ty h2 _ hx
    have e := name_inj h hj h4
    subst e
    have hy := ih jy ty h2
    have li := (List.getElem?_eq_some_iff.1 h2).1
    refine acc_mono cs c (k := cs.length - jy) (by omega) _ ?_
    rw [show cs.length - jy = (cs.length - (jy + 1)) + 1 by omega]
    unfold acc
    rw [show cs.length - (cs.length - (jy + 1) + 1) = jy by omega, h2]
    simp [hx, hy]
/-- what the program returns -/
def impl (cs : CS) (c : UInt8) : List UInt8 := (cs.map (·.1)).filter (fun x => (acc cs c cs.length).contains x)
theorem impl_mem {cs : CS} (h : OK cs) {i : Nat} {c : UInt8} {s : List UInt8} (hi : cs[i]? = some (c, s)) (x : UInt8) : x ∈ impl cs c ↔ Up cs c x := by
  unfold impl
  rw [List.mem_filter]
  constructor
  · rintro ⟨_, hx⟩
    exact acc_up h c _ x (by simpa using hx)
  · intro u
    obtain ⟨j, t, h1, h2⟩ := Up.index h hi u
    exact ⟨List.mem_map.2 ⟨_, List.mem_of_getElem? h2, rfl⟩, by simpa using acc_mono cs c (by omega) _ (up_acc h hi u j t h2)⟩
/-- the letters of classes -/
def caps : List UInt8 := [65, 66, 67, 68, 69, 70, 71, 72, 73, 74, 75, 76, 77, 78, 79, 80, 81, 82, 83, 84]
/-- what l3Sorted returns -/
def sortL (s : List UInt8) : List UInt8 := caps.filter (fun c => s.contains c)
/-- the reference: what it has behind k rounds -/
def rnd (cs : CS) (c : UInt8) : Nat → List UInt8
  | 0 => sup cs c
  | k + 1 => sortL (rnd cs c k ++ ((rnd cs c k).map (sup cs)).flatten)
theorem sort_mem {cs : CS} (hc : ∀ p ∈ cs, p.1 ∈ caps) (s : List UInt8) (hs : ∀ x ∈ s, ∃ (j : Nat) (t : List UInt8), cs[j]? = some (x, t)) (x : UInt8) : x ∈ sortL s ↔ x ∈ s := by
  unfold sortL
  rw [List.mem_filter]
  constructor
  · rintro ⟨_, hx⟩; simpa using hx
  · intro hx
    obtain ⟨j, t, hj⟩ := hs x hx
    exact ⟨hc _ (List.mem_of_getElem? hj), by simpa using hx⟩
theorem rnd_up {cs : CS} (h : OK cs) (c : UInt8) : ∀ k, ∀ x ∈ rnd cs c k, Up cs c x
  | 0, x, hx => .one hx
  | k + 1, x, hx => by
    have hx : x ∈ rnd cs c k ++ ((rnd cs c k).map (sup cs)).flatten := by
      unfold rnd sortL at hx
      simpa using (List.mem_filter.1 hx).2
    rw [List.mem_append] at hx
    rcases hx with hx | hx
    · exact rnd_up h c k x hx
    · rw [List.mem_flatten] at hx
      obtain ⟨l, hl, hx⟩ := hx
      obtain ⟨y, hy, rfl⟩ := List.mem_map.1 hl
      exact .more (rnd_up h c k y hy) hx
theorem rnd_step {cs : CS} (h : OK cs) (hc : ∀ p ∈ cs, p.1 ∈ caps) {i : Nat} {c : UInt8} {s : List UInt8} (hi : cs[i]? = some (c, s)) (k : Nat) (x : UInt8) : x ∈ rnd cs c (k + 1) ↔ x ∈ rnd cs c k ∨ ∃ y ∈ rnd cs c k, x ∈ sup cs y := by
  show x ∈ sortL _ ↔ _
  rw [sort_mem hc]
  · rw [List.mem_append, List.mem_flatten]
    constructor
    · rintro (hx | ⟨l, hl, hx⟩)
      · exact .inl hx
      · obtain ⟨y, hy, rfl⟩ := List.mem_map.1 hl
        exact .inr ⟨y, hy, hx⟩
    · rintro (hx | ⟨y, hy, hx⟩)
      · exact .inl hx
      · exact .inr ⟨_, List.mem_map.2 ⟨y, hy, rfl⟩, hx⟩
  · intro x hx
    have u : Up cs c x := by
      rw [List.mem_append] at hx
      rcases hx with hx | hx
      · exact rnd_up h c k x hx
      · rw [List.mem_flatten] at hx
        obtain ⟨l, hl, hx⟩ := hx
        obtain ⟨y, hy, rfl⟩ := List.mem_map.1 hl
        exact .more (rnd_up h c k y hy) hx
    obtain ⟨j, t, _, h2⟩ := Up.index h hi u
    exact ⟨j, t, h2⟩
theorem rnd_mono {cs : CS} (h : OK cs) (hc : ∀ p ∈ cs, p.1 ∈ caps) {i : Nat} {c : UInt8} {s : List UInt8} (hi : cs[i]? = some (c, s)) {k m : Nat} (hk : k ≤ m) : ∀ x ∈ rnd cs c k, x ∈ rnd cs c m := by
  induction hk with
  | refl => exact fun _ h => h
  | step _ ih => intro x hx; exact (rnd_step h hc hi _ x).2 (.inl (ih x hx))
theorem up_rnd {cs : CS} (h : OK cs) (hc : ∀ p ∈ cs, p.1 ∈ caps) {i : Nat} {c : UInt8} {s : List UInt8} (hi : cs[i]? = some (c, s)) {x : UInt8} (u : Up cs c x) : ∀ j t, cs[j]? = some (x, t) → x ∈ rnd cs c (i - j - 1) := by
  induction u with
  | one hx => intro j t hj; exact rnd_mono h hc hi (Nat.zero_le _) _ hx
  | @more y x u hx ih =>
    intro j t hj
    obtain ⟨jy, ty, h1, h2⟩ := Up.index h hi u
    have hy := ih jy ty h2
    have hx2 := hx
    rw [sup_at h h2] at hx2
    obtain ⟨j', t', h3, h4⟩ := h.2 jy _ ty h2 _ hx2
    have e := name_inj h hj h4
    subst e
    exact rnd_mono h hc hi (k := i - jy - 1 + 1) (by omega) _ ((rnd_step h hc hi _ x).2 (.inr ⟨y, hy, hx⟩))
theorem caps_sorted : caps.Pairwise (fun a b => a.toNat < b.toNat) := by decide
/-- both return the same -/
theorem same {cs : CS} (h : OK cs) (hc : ∀ p ∈ cs, p.1 ∈ caps) {i : Nat} {c : UInt8} {s : List UInt8} (hi : cs[i]? = some (c, s)) : rnd cs c cs.length = impl cs c := by
  have li := (List.getElem?_eq_some_iff.1 hi).1
  apply sorted_ext
  · rw [show cs.length = (cs.length - 1) + 1 by omega]
    exact caps_sorted.filter _
  · exact h.1.filter _
  · intro x
    rw [impl_mem h hi]
    constructor
    · exact rnd_up h c _ x
    · intro u
      obtain ⟨j, t, h1, h2⟩ := Up.index h hi u
      exact rnd_mono h hc hi (by omega) _ (up_rnd h hc hi u j t h2)
end SupP
end Go.Proofs.Ytaijklafgcocmaa
