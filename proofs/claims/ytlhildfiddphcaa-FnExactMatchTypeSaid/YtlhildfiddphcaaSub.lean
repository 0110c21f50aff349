/- Plain facts about bindings put into types: what a type becomes, what its text becomes. Conditions: none. -/
import Derived.Test.YtlhildfiddphcaaMkTypeS
import Derived.Test.YtlhildfiddphcaaBindV
set_option linter.unusedVariables false
set_option linter.unusedSimpArgs false
set_option maxRecDepth 100000
namespace Go.Proofs.Ytlhildfiddphcaa
open Go.RowKit Ty ListS Parts Go.Proofs.Ytlhildfiddphcaa.Text
namespace Sub
/-- the letters that a map of the reference's has places for -/
def lets : List UInt8 := [88, 89, 90, 120, 121, 122, 49, 50, 51, 52, 53, 54]
def ix (c : UInt8) : Int := Lib.indexByte lets c
theorem lets_len : lets.length = 12 := rfl
theorem ix_at : ∀ k : Nat, k < 12 → ∀ c, lets[k]? = some c → ix c = k := by
  intro k hk c hc
  rcases k with _ | _ | _ | _ | _ | _ | _ | _ | _ | _ | _ | _ | k
  all_goals first | omega | (simp [lets] at hc; subst hc; decide)
theorem ix_cases (c : UInt8) : (ix c = -1 ∧ c ∉ lets) ∨ ∃ k : Nat, k < 12 ∧ ix c = k ∧ lets[k]? = some c := by
  by_cases h : c ∈ lets
  · obtain ⟨k, hk⟩ := List.getElem?_of_mem h
    have hlt : k < 12 := (List.getElem?_eq_some_iff.1 hk).1
    exact .inr ⟨k, hlt, ix_at k hlt c hk, hk⟩
  · refine .inl ⟨?_, h⟩
    unfold ix
    rw [indexByte_neg]
    intro j hj e
    exact h (List.mem_of_getElem? e)
theorem lets_inj {j k : Nat} {c : UInt8} (hj : lets[j]? = some c) (hk : lets[k]? = some c) : j = k := by
  have h1 := ix_at j (List.getElem?_eq_some_iff.1 hj).1 c hj
  have h2 := ix_at k (List.getElem?_eq_some_iff.1 hk).1 c hk
  omega
theorem isV_lets {c : UInt8} (h : isV c = true) : c ∈ lets := by
  simp [isV] at h
  simp [lets]
  rcases h with h | h | h | h | h | h <;> simp [h]
theorem isV_ar {c : UInt8} (h : isV c = true) : ar c = some 0 := by
  simp [isV] at h
  rcases h with rfl | rfl | rfl | rfl | rfl | rfl <;> rfl

/-! what letters stand for -/
abbrev Bnd := UInt8 → Option Ty
def sub (f : Bnd) : Ty → Ty
  | .leaf c => match f c with | some u => u | none => .leaf c
  | .one c t => match f c with | some u => u | none => .one c (sub f t)
  | .two c t u => match f c with | some v => v | none => .two c (sub f t) (sub f u)
theorem sub_some {f : Bnd} {t u : Ty} (h : f t.head = some u) : sub f t = u := by
  cases t <;> simp [Ty.head] at h <;> simp [sub, h]
theorem sub_none {f : Bnd} {t : Ty} (h : f t.head = none) : (sub f t).head = t.head ∧ (sub f t).parts = t.parts.map (sub f) := by
  cases t <;> simp [Ty.head] at h <;> simp [sub, h, Ty.head, Ty.parts]
def OnlyV (f : Bnd) : Prop := ∀ c, isV c = false → f c = none
def ch (f : Bnd) (c : UInt8) : List UInt8 := match f c with | some u => u.text | none => [c]
theorem text_sub {f : Bnd} (hf : OnlyV f) : ∀ t : Ty, t.WF → (sub f t).text = t.text.flatMap (ch f) := by
  have ho : ∀ c, isV c = false → ch f c = [c] := fun c h => by simp [ch, hf c h]
  have hnv : ∀ c k, ar c = some (k + 1) → isV c = false := fun c k h => by
    cases hv : isV c with
    | false => rfl
    | true => rw [isV_ar hv] at h; simp at h
  intro t
  induction t with
  | leaf c =>
    intro _
    cases hc : f c with
    | none => simp [sub, Ty.text, ch, hc]
    | some u => simp [sub, Ty.text, ch, hc]
  | one c t ih =>
    intro hw
    have h1 := hnv c 0 hw.1
    have h2 := ho c h1
    simp [sub, hf c h1, Ty.text, ih hw.2, h2, ho 40 rfl, ho 41 rfl]
  | two c t u ih1 ih2 =>
    intro hw
    have h1 := hnv c 1 hw.1
    have h2 := ho c h1
    simp [sub, hf c h1, Ty.text, ih1 hw.2.1, ih2 hw.2.2, h2, ho 40 rfl, ho 41 rfl, ho 44 rfl]
theorem sub_WF {f : Bnd} (hf : ∀ c u, f c = some u → u.WF) : ∀ t : Ty, t.WF → (sub f t).WF := by
  intro t
  induction t with
  | leaf c =>
    intro h
    cases hc : f c with
    | none => simpa [sub, hc] using h
    | some u => simpa [sub, hc] using hf c u hc
  | one c t ih =>
    intro h
    cases hc : f c with
    | none => simp only [sub, hc]; exact ⟨h.1, ih h.2⟩
    | some u => simpa [sub, hc] using hf c u hc
  | two c t u ih1 ih2 =>
    intro h
    cases hc : f c with
    | none => simp only [sub, hc]; exact ⟨h.1, ih1 h.2.1, ih2 h.2.2⟩
    | some u => simpa [sub, hc] using hf c u hc
theorem flat_le {g : UInt8 → List UInt8} {n : Nat} (h : ∀ c, (g c).length ≤ n) : ∀ l : List UInt8, (l.flatMap g).length ≤ n * l.length := by
  intro l
  induction l with
  | nil => simp
  | cons c l ih =>
    have := h c
    rw [List.flatMap_cons, List.length_append, List.length_cons, Nat.mul_succ]
    omega

/-! the bindings of a list -/
/-- the text that a letter stands for, at the first binding of it -/
def chL (xs : List BB) (c : UInt8) : List UInt8 := match xs.find? (fun p => decide (p.1 = ⟨#[c]⟩)) with | some p => p.2.data.toList | none => [c]
def bmap (xs : List BB) : Bnd := fun c => match xs.find? (fun p => decide (p.1 = ⟨#[c]⟩)) with | some p => ty p.2.data.toList | none => none
open Classical in
/-- what ApplyBindings returns -/
noncomputable def applyB (xs : List BB) (l : List UInt8) : Option (List UInt8) :=
  if bvB xs = true ∧ (ty l).isSome = true then (if (l.flatMap (chL xs)).length ≤ 60 then some (l.flatMap (chL xs)) else none) else none
open Classical in
theorem bv_good {xs : List BB} (h : bvB xs = true) : ∀ i, i < xs.length → good xs i := by
  unfold bvB at h
  exact of_decide_eq_true h
theorem good_take {xs : List BB} (h : ∀ i, i < xs.length → good xs i) {k : Nat} {p : BB} (hk : xs[k]? = some p) : ∃ (c : UInt8) (u : Ty), p.1 = ⟨#[c]⟩ ∧ isV c = true ∧ ty p.2.data.toList = some u := by
  obtain ⟨hlt, _⟩ := List.getElem?_eq_some_iff.1 hk
  obtain ⟨c, y, e, h1, h2, _⟩ := h k hlt
  rw [hk] at e
  cases e
  obtain ⟨u, hu⟩ := Option.isSome_iff_exists.1 h2
  exact ⟨c, u, rfl, h1, hu⟩
theorem one_inj {c d : UInt8} (h : (ByteArray.mk #[c]) = ⟨#[d]⟩) : c = d := by
  have := congrArg ByteArray.data h
  simpa using this
/-- the letters rise -/
theorem good_rise {xs : List BB} (h : ∀ i, i < xs.length → good xs i) : ∀ (d j : Nat) (c e : UInt8) (y z : ByteArray), xs[j]? = some (⟨#[c]⟩, y) → xs[j + d + 1]? = some (⟨#[e]⟩, z) → c.toNat < e.toNat := by
  intro d
  induction d with
  | zero =>
    intro j c e y z h1 h2
    obtain ⟨hlt, _⟩ := List.getElem?_eq_some_iff.1 h2
    obtain ⟨c', y', e1, _, _, h3⟩ := h _ hlt
    obtain ⟨d', z', e2, h4⟩ := h3 j rfl
    rw [h2] at e1; rw [h1] at e2
    simp only [Option.some.injEq, Prod.mk.injEq] at e1 e2
    have q1 := one_inj e1.1
    have q2 := one_inj e2.1
    subst q1; subst q2
    exact h4
  | succ d ih =>
    intro j c e y z h1 h2
    obtain ⟨hlt, _⟩ := List.getElem?_eq_some_iff.1 h2
    obtain ⟨c', y', e1, _, _, h3⟩ := h _ hlt
    obtain ⟨d', z', e2, h4⟩ := h3 (j + d + 1) rfl
    rw [h2] at e1
    simp only [Option.some.injEq, Prod.mk.injEq] at e1
    have q1 := one_inj e1.1
    subst q1
    exact Nat.lt_trans (ih j c d' y z' h1 e2) h4
/-- no binding ahead of number k has its letter -/
theorem good_new {xs : List BB} (h : ∀ i, i < xs.length → good xs i) {k : Nat} {c : UInt8} {y : ByteArray} (hk : xs[k]? = some (⟨#[c]⟩, y)) : (xs.take k).find? (fun p => decide (p.1 = ⟨#[c]⟩)) = none := by
  rw [List.find?_eq_none]
  intro p hp
  obtain ⟨j, hj⟩ := List.getElem?_of_mem hp
  obtain ⟨hlt, _⟩ := List.getElem?_eq_some_iff.1 hj
  have hjk : j < k := by rw [List.length_take] at hlt; omega
  have hj2 : xs[j]? = some p := by rw [List.getElem?_take, if_pos hjk] at hj; exact hj
  obtain ⟨c', u, e1, _, _⟩ := good_take h hj2
  simp only [decide_eq_true_eq]
  intro e
  rw [e1] at e
  have e3 : c' = c := one_inj e
  subst e3
  have hjx : xs[j]? = some (⟨#[c']⟩, p.2) := by rw [hj2, ← e1]
  have hd : k = j + (k - j - 1) + 1 := by omega
  rw [hd] at hk
  have := good_rise h _ _ _ _ _ _ hjx hk
  omega
theorem bmap_step {xs : List BB} (h : ∀ i, i < xs.length → good xs i) {k : Nat} {c : UInt8} {y : ByteArray} {u : Ty} (hk : xs[k]? = some (⟨#[c]⟩, y)) (hu : ty y.data.toList = some u) :
    bmap (xs.take (k + 1)) = fun d => if d = c then some u else bmap (xs.take k) d := by
  funext d
  obtain ⟨hlt, hx⟩ := List.getElem?_eq_some_iff.1 hk
  unfold bmap
  rw [List.take_succ_eq_append_getElem hlt, List.find?_append, hx]
  by_cases e : d = c
  · subst e
    rw [good_new h hk]
    simp [hu]
  · rw [if_neg e]
    have e2 : ¬ c = d := fun h => e h.symm
    have : decide ((ByteArray.mk #[c]) = ⟨#[d]⟩) = false := by
      rw [decide_eq_false_iff_not]
      intro h2
      exact e (one_inj h2).symm
    simp [List.find?_cons, e2]
theorem bmap_only {xs : List BB} (h : ∀ i, i < xs.length → good xs i) (k : Nat) : OnlyV (bmap (xs.take k)) := by
  intro c hc
  unfold bmap
  cases hf : (xs.take k).find? (fun p => decide (p.1 = ⟨#[c]⟩)) with
  | none => rfl
  | some p =>
    exfalso
    have hm := List.mem_of_mem_take (List.mem_of_find?_eq_some hf)
    have he := List.find?_some hf
    obtain ⟨j, hj⟩ := List.getElem?_of_mem hm
    obtain ⟨c', u, e1, e2, _⟩ := good_take h hj
    simp only [decide_eq_true_eq] at he
    rw [he] at e1
    have : c = c' := one_inj e1
    subst this
    rw [hc] at e2; simp at e2
theorem ch_chL {xs : List BB} (h : ∀ i, i < xs.length → good xs i) : ch (bmap xs) = chL xs := by
  funext c
  unfold ch bmap chL
  cases hf : xs.find? (fun p => decide (p.1 = ⟨#[c]⟩)) with
  | none => rfl
  | some p =>
    obtain ⟨j, hj⟩ := List.getElem?_of_mem (List.mem_of_find?_eq_some hf)
    obtain ⟨c', u, e1, e2, e3⟩ := good_take h hj
    simp only [e3]
    exact (ty_some e3).1.symm
theorem chL_len {xs : List BB} (h : ∀ i, i < xs.length → good xs i) (c : UInt8) : (chL xs c).length ≤ 60 := by
  unfold chL
  cases hf : xs.find? (fun p => decide (p.1 = ⟨#[c]⟩)) with
  | none => simp
  | some p =>
    obtain ⟨j, hj⟩ := List.getElem?_of_mem (List.mem_of_find?_eq_some hf)
    obtain ⟨c', u, e1, e2, e3⟩ := good_take h hj
    exact (ty_some e3).2.2
theorem bmap_WF {xs : List BB} {c : UInt8} {u : Ty} (h : bmap xs c = some u) : u.WF ∧ u.text.length ≤ 60 := by
  unfold bmap at h
  cases hf : xs.find? (fun p => decide (p.1 = ⟨#[c]⟩)) with
  | none => rw [hf] at h; simp at h
  | some p =>
    rw [hf] at h
    obtain ⟨e1, e2, e3⟩ := ty_some h
    exact ⟨e2, by rw [← e1]; exact e3⟩
/-- the reference's type has the program's text -/
theorem sub_text {xs : List BB} (h : ∀ i, i < xs.length → good xs i) {l : List UInt8} {t : Ty} (ht : ty l = some t) : (sub (bmap xs) t).text = l.flatMap (chL xs) := by
  obtain ⟨e1, e2, e3⟩ := ty_some ht
  have ho := bmap_only h xs.length
  rw [List.take_length] at ho
  rw [text_sub ho t e2, ch_chL h, ← e1]
theorem flat_chL {xs : List BB} (h : ∀ i, i < xs.length → good xs i) {l : List UInt8} (hl : l.length ≤ 60) : (l.flatMap (chL xs)).length ≤ 3600 := by
  have := flat_le (chL_len h) l
  omega
end Sub
end Go.Proofs.Ytlhildfiddphcaa
