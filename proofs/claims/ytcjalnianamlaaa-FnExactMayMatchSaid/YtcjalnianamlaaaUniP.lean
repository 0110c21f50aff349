/- Making two types the same by what letters stand for, as the reference does it: it ends, and answers whether there is something to put in. Plain; nothing of Go. Conditions: none. -/
import Derived.Test.YtcjalnianamlaaaMatP
set_option linter.unusedVariables false
set_option linter.unusedSimpArgs false
set_option maxRecDepth 100000
namespace Go.Proofs.Ytcjalnianamlaaa
open Ty
namespace UniP
open MatP
/-- the letters that can be bound -/
def lts : List UInt8 := [88, 89, 90, 120, 121, 122, 49, 50, 51, 52, 53, 54]
/-- types over these letters -/
def TW : Ty → Prop
  | .leaf c => c = 105 ∨ c = 98 ∨ c = 117 ∨ c ∈ lts
  | .one c t => (c = 108 ∨ c = 109) ∧ TW t
  | .two c t u => c = 112 ∧ TW t ∧ TW u
/-- a letter stands in a type -/
def vin (d : UInt8) : Ty → Prop
  | .leaf c => c = d
  | .one _ t => vin d t
  | .two _ t u => vin d t ∨ vin d u
def ev (s : UInt8 → Ty) : Ty → Ty
  | .leaf c => if c ∈ lts then s c else .leaf c
  | .one c t => .one c (ev s t)
  | .two c t u => .two c (ev s t) (ev s u)
def Sol (m : Sg) (s : UInt8 → Ty) : Prop := ∀ c t, m c = some t → s c = ev s t
/-- the bindings run in no ring -/
def Inv (m : Sg) : Prop := ∃ h : UInt8 → Nat, ∀ c t, m c = some t → c ∈ lts ∧ TW t ∧ ∀ d, d ∈ lts → vin d t → h d < h c
theorem not_lts : (108 : UInt8) ∉ lts ∧ (109 : UInt8) ∉ lts ∧ (112 : UInt8) ∉ lts ∧ (105 : UInt8) ∉ lts ∧ (98 : UInt8) ∉ lts ∧ (117 : UInt8) ∉ lts := by decide
theorem tw_leaf {t : Ty} (h : TW t) (hl : t.head ∈ lts) : t = .leaf t.head := by
  cases t with
  | leaf c => rfl
  | one c u => rcases h.1 with e | e <;> (simp only [Ty.head] at hl; rw [e] at hl; exact absurd hl (by decide))
  | two c u v => simp only [Ty.head] at hl; rw [h.1] at hl; exact absurd hl (by decide)
theorem tw_parts {t u : Ty} (h : TW t) (hu : u ∈ t.parts) : TW u := by
  cases t with
  | leaf c => simp [Ty.parts] at hu
  | one c v => simp [Ty.parts] at hu; rw [hu]; exact h.2
  | two c v x => simp [Ty.parts] at hu; rcases hu with rfl | rfl; exact h.2.1; exact h.2.2
theorem tw_len {t u : Ty} (ht : TW t) (hu : TW u) (hn : t.head ∉ lts) (h : t.head = u.head) : t.parts.length = u.parts.length := by
  cases t <;> cases u <;> simp [Ty.head, Ty.parts, TW] at * <;> simp_all [lts]
  all_goals first | (rcases ht with rfl | rfl | rfl <;> simp at hu; done) | (rcases ht.1 with rfl | rfl <;> simp at hu; done) | (rcases hu with rfl | rfl | rfl <;> simp at ht; done) | skip
theorem size_pos (t : Ty) : 0 < t.size := by cases t <;> simp [Ty.size] <;> omega
theorem ev_head {s : UInt8 → Ty} {t : Ty} (h : t.head ∉ lts) : (ev s t).head = t.head ∧ (ev s t).parts = t.parts.map (ev s) := by
  cases t with
  | leaf c => simp only [Ty.head] at h; simp [ev, h, Ty.head, Ty.parts]
  | one c u => simp [ev, Ty.head, Ty.parts]
  | two c u v => simp [ev, Ty.head, Ty.parts]
theorem ev_leaf {s : UInt8 → Ty} {t : Ty} (ht : TW t) (h : t.head ∈ lts) : ev s t = s t.head := by
  cases t with
  | leaf c => show (if c ∈ lts then s c else .leaf c) = s c; rw [if_pos (show c ∈ lts from h)]
  | one c u => exact absurd (show c ∈ lts from h) (by rcases ht.1 with e | e <;> rw [e] <;> decide)
  | two c u v => exact absurd (show c ∈ lts from h) (by rw [ht.1]; decide)
theorem ev_same {s s' : UInt8 → Ty} {t : Ty} (h : ∀ d, d ∈ lts → vin d t → s d = s' d) : ev s t = ev s' t := by
  induction t with
  | leaf c =>
    unfold ev
    by_cases e : c ∈ lts
    · rw [if_pos e, if_pos e]; exact h c e rfl
    · rw [if_neg e, if_neg e]
  | one c t ih => unfold ev; rw [ih h]
  | two c t u ih1 ih2 => unfold ev; rw [ih1 (fun d a b => h d a (.inl b)), ih2 (fun d a b => h d a (.inr b))]
/-- what stands in a type is no greater than it -/
theorem vin_size {s : UInt8 → Ty} {t : Ty} {d : UInt8} (hd : d ∈ lts) (h : vin d t) : (s d).size ≤ (ev s t).size ∧ (t.parts ≠ [] → (s d).size < (ev s t).size) := by
  induction t with
  | leaf c =>
    have e : c = d := h
    subst e
    unfold ev
    rw [if_pos hd]
    exact ⟨Nat.le_refl _, fun h => absurd rfl h⟩
  | one c t ih =>
    have := (ih h).1
    simp only [ev, Ty.size]
    exact ⟨by omega, fun _ => by omega⟩
  | two c t u ih1 ih2 =>
    simp only [ev, Ty.size]
    rcases h with h | h
    · have := (ih1 h).1; exact ⟨by omega, fun _ => by omega⟩
    · have := (ih2 h).1; exact ⟨by omega, fun _ => by omega⟩
theorem parts_size {s : UInt8 → Ty} {t p : Ty} (h : t.head ∉ lts) (hp : p ∈ t.parts) : (ev s p).size < (ev s t).size := by
  cases t with
  | leaf c => simp [Ty.parts] at hp
  | one c u => simp [Ty.parts] at hp; rw [hp]; simp [ev, Ty.size]
  | two c u v => simp [Ty.parts] at hp; rcases hp with rfl | rfl <;> simp [ev, Ty.size] <;> omega

/-! bindings without a ring have what they ask -/
def sums (h : UInt8 → Nat) : Nat := (lts.map h).sum
theorem le_sums {h : UInt8 → Nat} {c : UInt8} (hc : c ∈ lts) : h c ≤ sums h := by
  unfold sums
  generalize lts = l at hc
  induction l with
  | nil => simp at hc
  | cons x l ih =>
    simp only [List.map_cons, List.sum_cons]
    rcases List.mem_cons.1 hc with rfl | hc
    · omega
    · have := ih hc; omega
def sN (m : Sg) : Nat → UInt8 → Ty
  | 0, c => .leaf c
  | n + 1, c => match m c with | some t => ev (sN m n) t | none => .leaf c
theorem sN_stable {m : Sg} {h : UInt8 → Nat} (hh : ∀ c t, m c = some t → c ∈ lts ∧ TW t ∧ ∀ d, d ∈ lts → vin d t → h d < h c) : ∀ n c, h c < n → sN m (n + 1) c = sN m n c := by
  intro n
  induction n with
  | zero => intro c h; omega
  | succ n ih =>
    intro c hc
    show (match m c with | some t => ev (sN m (n + 1)) t | none => .leaf c) = (match m c with | some t => ev (sN m n) t | none => .leaf c)
    cases hm : m c with
    | none => rfl
    | some t => exact ev_same fun d hd hv => ih d (by have := (hh c t hm).2.2 d hd hv; omega)
theorem Inv.sol {m : Sg} (h : Inv m) : ∃ s, Sol m s := by
  obtain ⟨h, hh⟩ := h
  refine ⟨sN m (sums h + 1), fun c t hc => ?_⟩
  rw [← sN_stable hh (sums h + 1) c (by have := le_sums (h := h) (hh c t hc).1; omega)]
  show (match m c with | some t => ev (sN m (sums h + 1)) t | none => .leaf c) = _
  rw [hc]

/-! the walk to what a letter stands for -/
inductive Wk (m : Sg) : Ty → Ty → Prop
  | stop {t : Ty} : m t.head = none → Wk m t t
  | step {t u v : Ty} : m t.head = some u → Wk m u v → Wk m t v
theorem wk_total {m : Sg} (hi : Inv m) {t : Ty} (ht : TW t) : ∃ u, Wk m t u ∧ m u.head = none ∧ TW u ∧ ∀ s, Sol m s → ev s u = ev s t := by
  obtain ⟨h, hh⟩ := hi
  have key : ∀ n (t : Ty), TW t → (t.head ∈ lts → h t.head ≤ n) → ∃ u, Wk m t u ∧ m u.head = none ∧ TW u ∧ ∀ s, Sol m s → ev s u = ev s t := by
    intro n
    induction n using Nat.strongRecOn with
    | ind n ih =>
      intro t ht hn
      cases hm : m t.head with
      | none => exact ⟨t, .stop hm, hm, ht, fun _ _ => rfl⟩
      | some u =>
        obtain ⟨h1, h2, h3⟩ := hh _ _ hm
        have hs : ∀ s, Sol m s → ev s u = ev s t := fun s hs => by rw [ev_leaf ht h1]; exact (hs _ _ hm).symm
        by_cases hu : u.head ∈ lts
        · have hv : vin u.head u := by rw [tw_leaf h2 hu]; rfl
          have hlt := h3 _ hu hv
          obtain ⟨v, q1, q2, q3, q4⟩ := ih (h u.head) (by have := hn h1; omega) u h2 (fun _ => Nat.le_refl _)
          exact ⟨v, .step hm q1, q2, q3, fun s hss => (q4 s hss).trans (hs s hss)⟩
        · have hmn : m u.head = none := by
            cases e : m u.head with
            | none => rfl
            | some x => exact absurd (hh _ _ e).1 hu
          exact ⟨u, .step hm (.stop hmn), hmn, h2, hs⟩
  by_cases hl : t.head ∈ lts
  · exact key (h t.head) t ht (fun _ => Nat.le_refl _)
  · exact key 0 t ht (fun h => absurd h hl)
theorem wk_det {m : Sg} {t u v : Ty} (h : Wk m t u) (h' : Wk m t v) : u = v := by
  induction h with
  | stop e => cases h' with
    | stop _ => rfl
    | step e' _ => rw [e] at e'; simp at e'
  | step e _ ih => cases h' with
    | stop e' => rw [e] at e'; simp at e'
    | step e' w => rw [e] at e'; cases e'; exact ih w

/-! whether a letter stands in a type, through what letters stand for -/
inductive Rch (m : Sg) (v : UInt8) : UInt8 → Prop
  | refl : Rch m v v
  | step {c d : UInt8} {t : Ty} : m c = some t → d ∈ lts → vin d t → Rch m v d → Rch m v c
inductive Oc (m : Sg) (v : UInt8) : Ty → Bool → Prop
  | here {t u : Ty} : Wk m t u → u.head = v → Oc m v t true
  | none {t u : Ty} : Wk m t u → u.head ≠ v → u.parts = [] → Oc m v t false
  | one {t u a : Ty} {r : Bool} : Wk m t u → u.head ≠ v → u.parts = [a] → Oc m v a r → Oc m v t r
  | twoT {t u a b : Ty} : Wk m t u → u.head ≠ v → u.parts = [a, b] → Oc m v a true → Oc m v t true
  | twoF {t u a b : Ty} {r : Bool} : Wk m t u → u.head ≠ v → u.parts = [a, b] → Oc m v a false → Oc m v b r → Oc m v t r
/-- what is to be reached through a type -/
def RT (m : Sg) (v : UInt8) (t : Ty) : Prop := ∃ d, d ∈ lts ∧ vin d t ∧ Rch m v d
theorem rt_walk {m : Sg} {v : UInt8} (hv : m v = none) {t u : Ty} (hw : Wk m t u) (hi : ∀ c t, m c = some t → c ∈ lts ∧ TW t) (ht : TW t) : RT m v u ↔ RT m v t := by
  induction hw with
  | stop _ => exact Iff.rfl
  | step e _ ih =>
    rename_i t x y _
    obtain ⟨h1, h2⟩ := hi _ _ e
    rw [ih h2]
    constructor
    · rintro ⟨d, hd, hvd, hr⟩
      exact ⟨t.head, h1, by rw [tw_leaf ht h1]; rfl, .step e hd hvd hr⟩
    · rintro ⟨d, hd, hvd, hr⟩
      rw [tw_leaf ht h1] at hvd
      have e2 : t.head = d := hvd
      rw [← e2] at hr
      cases hr with
      | refl => rw [hv] at e; simp at e
      | step e3 a b c => rw [e] at e3; cases e3; exact ⟨_, a, b, c⟩
theorem oc_total {m : Sg} (hi : Inv m) {v : UInt8} (hvl : v ∈ lts) (hv : m v = none) : ∀ {t : Ty}, TW t → ∃ r, Oc m v t r ∧ (r = true ↔ RT m v t) := by
  obtain ⟨s, hs⟩ := hi.sol
  have hi2 : ∀ c t, m c = some t → c ∈ lts ∧ TW t := fun c t h => by obtain ⟨hh, h2⟩ := hi; exact ⟨(h2 c t h).1, (h2 c t h).2.1⟩
  have key : ∀ n (t : Ty), (ev s t).size ≤ n → TW t → ∃ r, Oc m v t r ∧ (r = true ↔ RT m v t) := by
    intro n
    induction n with
    | zero => intro t h; have := size_pos (ev s t); omega
    | succ n ih =>
      intro t hn ht
      obtain ⟨u, hw, hun, hu, hse⟩ := wk_total hi ht
      have hse := hse s hs
      have hrt := rt_walk hv hw hi2 ht
      by_cases huv : u.head = v
      · refine ⟨true, .here hw huv, ⟨fun _ => hrt.1 ⟨v, hvl, ?_, .refl⟩, fun _ => rfl⟩⟩
        rw [tw_leaf hu (by rw [huv]; exact hvl), huv]; rfl
      · by_cases hul : u.head ∈ lts
        · refine ⟨false, .none hw huv (by rw [tw_leaf hu hul]; rfl), ⟨fun h => by simp at h, fun h => ?_⟩⟩
          obtain ⟨d, hd, hvd, hr⟩ := hrt.2 h
          rw [tw_leaf hu hul] at hvd
          have e : u.head = d := hvd
          rw [← e] at hr
          cases hr with
          | refl => exact absurd rfl huv
          | step e3 _ _ _ => rw [hun] at e3; simp at e3
        · have hps : ∀ p ∈ u.parts, (ev s p).size ≤ n ∧ TW p := fun p hp => ⟨by have := parts_size (s := s) hul hp; rw [hse] at this; omega, tw_parts hu hp⟩
          have hvin : RT m v u ↔ ∃ p ∈ u.parts, RT m v p := by
            cases u with
            | leaf c =>
              simp only [Ty.parts, List.not_mem_nil, false_and, exists_false, iff_false]
              rintro ⟨d, hd, hvd, hr⟩
              have e : c = d := hvd
              exact hul (by show c ∈ lts; rw [e]; exact hd)
            | one c a =>
              simp only [Ty.parts, List.mem_singleton, exists_eq_left]
              rfl
            | two c a b =>
              simp only [Ty.parts, List.mem_cons, List.not_mem_nil, or_false, exists_eq_or_imp, exists_eq_left]
              constructor
              · rintro ⟨d, hd, hvd | hvd, hr⟩
                · exact .inl ⟨d, hd, hvd, hr⟩
                · exact .inr ⟨d, hd, hvd, hr⟩
              · rintro (⟨d, hd, hvd, hr⟩ | ⟨d, hd, hvd, hr⟩)
                · exact ⟨d, hd, .inl hvd, hr⟩
                · exact ⟨d, hd, .inr hvd, hr⟩
          match hp : u.parts, (show u.parts.length ≤ 2 by cases u <;> simp [Ty.parts]) with
          | [], _ =>
            refine ⟨false, .none hw huv hp, ⟨fun h => by simp at h, fun h => ?_⟩⟩
            rw [← hrt, hvin, hp] at h
            simp at h
          | [a], _ =>
            obtain ⟨h1, h2⟩ := hps a (by rw [hp]; simp)
            obtain ⟨r, q1, q2⟩ := ih a h1 h2
            refine ⟨r, .one hw huv hp q1, ?_⟩
            rw [q2, ← hrt, hvin, hp]
            simp
          | [a, b], _ =>
            obtain ⟨h1, h2⟩ := hps a (by rw [hp]; simp)
            obtain ⟨h3, h4⟩ := hps b (by rw [hp]; simp)
            obtain ⟨r, q1, q2⟩ := ih a h1 h2
            have hor : RT m v t ↔ RT m v a ∨ RT m v b := by rw [← hrt, hvin, hp]; simp
            cases r with
            | true => exact ⟨true, .twoT hw huv hp q1, ⟨fun _ => hor.2 (.inl (q2.1 rfl)), fun _ => rfl⟩⟩
            | false =>
              obtain ⟨r2, q3, q4⟩ := ih b h3 h4
              refine ⟨r2, .twoF hw huv hp q1 q3, ?_⟩
              rw [q4, hor]
              constructor
              · exact .inr
              · rintro (h | h)
                · exact absurd (q2.2 h) (by simp)
                · exact h
          | _ :: _ :: _ :: _, h => simp at h
  intro t ht
  exact key _ t (Nat.le_refl _) ht
/-- a letter is bound: still no ring -/
theorem inv_upd {m : Sg} (hi : Inv m) {v : UInt8} (hvl : v ∈ lts) (hv : m v = none) {y : Ty} (hy : TW y) (hn : ¬ RT m v y) : Inv (upd m v y) := by
  obtain ⟨h, hh⟩ := hi
  classical
  refine ⟨fun c => h c + (if Rch m v c then sums h + 1 else 0), fun c t hc => ?_⟩
  by_cases e : c = v
  · subst e
    rw [upd_same] at hc
    cases hc
    refine ⟨hvl, hy, fun d hd hvd => ?_⟩
    have hnr : ¬ Rch m c d := fun hr => hn ⟨d, hd, hvd, hr⟩
    have := le_sums (h := h) hd
    simp only [if_neg hnr, if_pos (Rch.refl (m := m) (v := c))]
    omega
  · rw [upd_ne e] at hc
    obtain ⟨h1, h2, h3⟩ := hh _ _ hc
    refine ⟨h1, h2, fun d hd hvd => ?_⟩
    have hlt := h3 d hd hvd
    by_cases hr : Rch m v d
    · have hrc : Rch m v c := .step hc hd hvd hr
      simp only [if_pos hr, if_pos hrc]
      omega
    · simp only [if_neg hr]
      omega
theorem sol_upd {m : Sg} {v : UInt8} (hv : m v = none) {y : Ty} {s : UInt8 → Ty} : Sol (upd m v y) s ↔ Sol m s ∧ s v = ev s y := by
  constructor
  · intro h
    refine ⟨fun c t hc => h c t ?_, h v y (upd_same _ _ _)⟩
    have : c ≠ v := fun e => by rw [e, hv] at hc; simp at hc
    rw [upd_ne this]; exact hc
  · rintro ⟨h1, h2⟩ c t hc
    by_cases e : c = v
    · subst e; rw [upd_same] at hc; cases hc; exact h2
    · rw [upd_ne e] at hc; exact h1 c t hc
theorem rch_size {m : Sg} {v c : UInt8} (h : Rch m v c) {s : UInt8 → Ty} (hs : Sol m s) : (s v).size ≤ (s c).size := by
  induction h with
  | refl => exact Nat.le_refl _
  | step e hd hv _ ih =>
    have := (vin_size (s := s) hd hv).1
    rw [← hs _ _ e] at this
    omega
/-- a letter that stands in a type below is no such type -/
theorem occ_none {m : Sg} {v : UInt8} {y : Ty} (hy : TW y) (hyn : m y.head = none) (hne : y.head ≠ v) (h : RT m v y) {s : UInt8 → Ty} (hs : Sol m s) : s v ≠ ev s y := by
  intro e
  obtain ⟨d, hd, hvd, hr⟩ := h
  by_cases hyl : y.head ∈ lts
  · rw [tw_leaf hy hyl] at hvd
    have e2 : y.head = d := hvd
    rw [← e2] at hr
    cases hr with
    | refl => exact hne rfl
    | step e3 _ _ _ => rw [hyn] at e3; simp at e3
  · have hp : y.parts ≠ [] := by
      cases y with
      | leaf c => intro _; have e2 : c = d := hvd; exact hyl (by show c ∈ lts; rw [e2]; exact hd)
      | one c a => simp [Ty.parts]
      | two c a b => simp [Ty.parts]
    have h1 := (vin_size (s := s) hd hvd).2 hp
    have h2 := rch_size hr hs
    rw [e] at h2
    omega

/-! making two types the same -/
def ixl (c : UInt8) : Nat := lts.idxOf c
def First (x y : Ty) : Prop := x.head ∈ lts ∧ (y.head ∉ lts ∨ ixl x.head < ixl y.head)
inductive Un : Sg → Ty → Ty → Option Sg → Prop
  | same {m : Sg} {a b x y : Ty} : Wk m a x → Wk m b y → x.head ∈ lts → x.head = y.head → Un m a b (some m)
  | bind {m : Sg} {a b x y : Ty} : Wk m a x → Wk m b y → x.head ≠ y.head → First x y → Oc m x.head y false → Un m a b (some (upd m x.head y))
  | occ {m : Sg} {a b x y : Ty} : Wk m a x → Wk m b y → x.head ≠ y.head → First x y → Oc m x.head y true → Un m a b none
  | swap {m : Sg} {a b x y : Ty} {r : Option Sg} : Wk m a x → Wk m b y → x.head ≠ y.head → ¬ First x y → y.head ∈ lts → Un m y x r → Un m a b r
  | clash {m : Sg} {a b x y : Ty} : Wk m a x → Wk m b y → x.head ∉ lts → y.head ∉ lts → x.head ≠ y.head → Un m a b none
  | con0 {m : Sg} {a b x y : Ty} : Wk m a x → Wk m b y → x.head ∉ lts → x.head = y.head → x.parts = [] → y.parts = [] → Un m a b (some m)
  | con1 {m : Sg} {a b x y p q : Ty} {r : Option Sg} : Wk m a x → Wk m b y → x.head ∉ lts → x.head = y.head → x.parts = [p] → y.parts = [q] → Un m p q r → Un m a b r
  | con2n {m : Sg} {a b x y p p2 q q2 : Ty} : Wk m a x → Wk m b y → x.head ∉ lts → x.head = y.head → x.parts = [p, p2] → y.parts = [q, q2] → Un m p q none → Un m a b none
  | con2s {m m1 : Sg} {a b x y p p2 q q2 : Ty} {r : Option Sg} : Wk m a x → Wk m b y → x.head ∉ lts → x.head = y.head → x.parts = [p, p2] → y.parts = [q, q2] → Un m p q (some m1) → Un m1 p2 q2 r → Un m a b r
/-- how many letters are not bound -/
def ub (m : Sg) : Nat := (lts.filter fun c => (m c).isNone).length
theorem ub_upd {m : Sg} {v : UInt8} (hvl : v ∈ lts) (hv : m v = none) (y : Ty) : ub (upd m v y) < ub m := by
  unfold ub
  have key : ∀ l : List UInt8, (l.filter fun c => (upd m v y c).isNone).length ≤ (l.filter fun c => (m c).isNone).length ∧ (v ∈ l → (l.filter fun c => (upd m v y c).isNone).length < (l.filter fun c => (m c).isNone).length) := by
    intro l
    induction l with
    | nil => simp
    | cons c l ih =>
      obtain ⟨i1, i2⟩ := ih
      by_cases e : c = v
      · subst e
        simp only [List.filter_cons, upd_same, hv]
        simp
        omega
      · simp only [List.filter_cons, upd_ne e]
        constructor
        · cases (m c).isNone <;> simp <;> omega
        · intro h
          rcases List.mem_cons.1 h with h | h
          · exact absurd h.symm e
          · have := i2 h
            cases (m c).isNone <;> simp <;> omega
  exact (key lts).2 hvl
def UPost (m : Sg) (a b : Ty) : Option Sg → Prop
  | some m' => Inv m' ∧ (∀ s, Sol m' s ↔ Sol m s ∧ ev s a = ev s b) ∧ (m' = m ∨ ub m' < ub m)
  | none => ∀ s, Sol m s → ev s a ≠ ev s b
/-- a letter is bound, or stands in what it would stand for -/
theorem un_first {m : Sg} (hi : Inv m) {x y : Ty} (hx : TW x) (hy : TW y) (hxn : m x.head = none) (hyn : m y.head = none) (hne : x.head ≠ y.head) (hf : First x y) :
    (Oc m x.head y false ∧ UPost m x y (some (upd m x.head y))) ∨ (Oc m x.head y true ∧ UPost m x y none) := by
  obtain ⟨r, hoc, hr⟩ := oc_total hi hf.1 hxn hy
  cases r with
  | false =>
    have hn : ¬ RT m x.head y := fun h => by have := hr.2 h; simp at this
    refine .inl ⟨hoc, inv_upd hi hf.1 hxn hy hn, fun s => ?_, .inr (ub_upd hf.1 hxn y)⟩
    rw [sol_upd hxn, ev_leaf hx hf.1]
  | true =>
    refine .inr ⟨hoc, fun s hs => ?_⟩
    rw [ev_leaf hx hf.1]
    exact occ_none hy hyn (fun e => hne e.symm) (hr.1 rfl) hs
theorem upost_ev {m : Sg} {a b x y : Ty} (ha : ∀ s, Sol m s → ev s x = ev s a) (hb : ∀ s, Sol m s → ev s y = ev s b) {r : Option Sg} (h : UPost m x y r) : UPost m a b r := by
  cases r with
  | none => exact fun s hs => by rw [← ha s hs, ← hb s hs]; exact h s hs
  | some m' =>
    refine ⟨h.1, fun s => ?_, h.2.2⟩
    rw [h.2.1 s]
    constructor
    · rintro ⟨q1, q2⟩; exact ⟨q1, by rw [← ha s q1, ← hb s q1]; exact q2⟩
    · rintro ⟨q1, q2⟩; exact ⟨q1, by rw [ha s q1, hb s q1]; exact q2⟩
theorem upost_symm {m : Sg} {a b : Ty} {r : Option Sg} (h : UPost m b a r) : UPost m a b r := by
  cases r with
  | none => exact fun s hs e => h s hs e.symm
  | some m' =>
    refine ⟨h.1, fun s => ?_, h.2.2⟩
    rw [h.2.1 s]
    exact ⟨fun ⟨q1, q2⟩ => ⟨q1, q2.symm⟩, fun ⟨q1, q2⟩ => ⟨q1, q2.symm⟩⟩
theorem ixl_inj {c d : UInt8} (hc : c ∈ lts) (hd : d ∈ lts) (h : ixl c = ixl d) : c = d := by
  have key : ∀ c, c ∈ lts → lts[ixl c]? = some c := by
    intro c hc
    simp [lts] at hc
    rcases hc with rfl | rfl | rfl | rfl | rfl | rfl | rfl | rfl | rfl | rfl | rfl | rfl <;> decide
  have h1 := key c hc
  have h2 := key d hd
  rw [h, h2] at h1
  exact (Option.some.inj h1).symm
theorem un_total : ∀ (k : Nat) (m : Sg), ub m ≤ k → Inv m → ∀ s, Sol m s → ∀ (n : Nat) (a b : Ty), (ev s a).size + (ev s b).size ≤ n → TW a → TW b → ∃ r, Un m a b r ∧ UPost m a b r := by
  intro k
  induction k using Nat.strongRecOn with
  | ind k ihk =>
    intro m hk hi s hs n
    induction n with
    | zero => intro a b h; have := size_pos (ev s a); omega
    | succ n ih =>
      intro a b hn ha hb
      obtain ⟨x, hwa, hxn, hx, hxe⟩ := wk_total hi ha
      obtain ⟨y, hwb, hyn, hy, hye⟩ := wk_total hi hb
      by_cases he : x.head = y.head
      · by_cases hl : x.head ∈ lts
        · refine ⟨some m, .same hwa hwb hl he, ?_⟩
          refine ⟨hi, fun s' => ⟨fun h => ⟨h, ?_⟩, fun h => h.1⟩, .inl rfl⟩
          rw [← hxe s' h, ← hye s' h, tw_leaf hx hl, tw_leaf hy (by rw [← he]; exact hl), he]
        · have hlen := tw_len hx hy hl he
          have hnl : y.head ∉ lts := by rw [← he]; exact hl
          have hxs := ev_head (s := s) hl
          have hsz : ∀ p ∈ x.parts, ∀ q ∈ y.parts, (ev s p).size + (ev s q).size ≤ n := fun p hp q hq => by
            have h1 := parts_size (s := s) hl hp
            have h2 := parts_size (s := s) hnl hq
            rw [hxe s hs] at h1
            rw [hye s hs] at h2
            omega
          -- equal types have equal parts
          have hev : ∀ s', ev s' x = ev s' y ↔ x.parts.map (ev s') = y.parts.map (ev s') := fun s' => by
            have h1 := ev_head (s := s') hl
            have h2 := ev_head (s := s') hnl
            constructor
            · intro e; rw [← h1.2, ← h2.2, e]
            · intro e
              rw [← h1.2, ← h2.2] at e
              have e2 : (ev s' x).head = (ev s' y).head := by rw [h1.1, h2.1, he]
              revert e e2
              generalize ev s' x = X
              generalize ev s' y = Y
              intro e e2
              cases X <;> cases Y <;> simp_all [Ty.parts, Ty.head]
          match hpx : x.parts, hpy : y.parts, (show x.parts.length ≤ 2 by cases x <;> simp [Ty.parts]) with
          | [], [], _ =>
            refine ⟨some m, .con0 hwa hwb hl he hpx hpy, ?_⟩
            refine ⟨hi, fun s' => ⟨fun h => ⟨h, ?_⟩, fun h => h.1⟩, .inl rfl⟩
            rw [← hxe s' h, ← hye s' h, hev, hpx, hpy]
          | [p], [q], _ =>
            obtain ⟨r, q1, q2⟩ := ih p q (hsz p (by rw [hpx]; simp) q (by rw [hpy]; simp)) (tw_parts hx (by rw [hpx]; simp)) (tw_parts hy (by rw [hpy]; simp))
            refine ⟨r, .con1 hwa hwb hl he hpx hpy q1, upost_ev hxe hye ?_⟩
            cases r with
            | none => exact fun s' hs' e => q2 s' hs' (by rw [hev, hpx, hpy] at e; simpa using e)
            | some m' =>
              refine ⟨q2.1, fun s' => ?_, q2.2.2⟩
              rw [q2.2.1 s', hev, hpx, hpy]
              simp
          | [p, p2], [q, q2], _ =>
            obtain ⟨r, u1, u2⟩ := ih p q (hsz p (by rw [hpx]; simp) q (by rw [hpy]; simp)) (tw_parts hx (by rw [hpx]; simp)) (tw_parts hy (by rw [hpy]; simp))
            cases r with
            | none =>
              refine ⟨none, .con2n hwa hwb hl he hpx hpy u1, upost_ev hxe hye ?_⟩
              exact fun s' hs' e => u2 s' hs' (by rw [hev, hpx, hpy] at e; simp at e; exact e.1)
            | some m1 =>
              obtain ⟨v1, v2, v3⟩ := u2
              have h2 : ∃ r, Un m1 p2 q2 r ∧ UPost m1 p2 q2 r := by
                rcases v3 with rfl | v3
                · exact ih p2 q2 (hsz p2 (by rw [hpx]; simp) q2 (by rw [hpy]; simp)) (tw_parts hx (by rw [hpx]; simp)) (tw_parts hy (by rw [hpy]; simp))
                · obtain ⟨s1, hs1⟩ := v1.sol
                  exact ihk (ub m1) (by omega) m1 (Nat.le_refl _) v1 s1 hs1 _ p2 q2 (Nat.le_refl _) (tw_parts hx (by rw [hpx]; simp)) (tw_parts hy (by rw [hpy]; simp))
              obtain ⟨r, w1, w2⟩ := h2
              refine ⟨r, .con2s hwa hwb hl he hpx hpy u1 w1, upost_ev hxe hye ?_⟩
              cases r with
              | none =>
                intro s' hs' e
                rw [hev, hpx, hpy] at e
                simp at e
                exact w2 s' ((v2 s').2 ⟨hs', e.1⟩) e.2
              | some m' =>
                obtain ⟨w3, w4, w5⟩ := w2
                refine ⟨w3, fun s' => ?_, ?_⟩
                · rw [w4 s', v2 s', hev, hpx, hpy]
                  simp
                  exact and_assoc
                · rcases v3 with rfl | v3
                  · exact w5
                  · rcases w5 with rfl | w5
                    · exact .inr v3
                    · exact .inr (by omega)
          | [], _ :: _, _ => rw [hpx, hpy] at hlen; simp at hlen
          | _ :: _, [], _ => rw [hpx, hpy] at hlen; simp at hlen
          | [_], _ :: _ :: _, _ => rw [hpx, hpy] at hlen; simp at hlen
          | _ :: _ :: _, [_], _ => rw [hpx, hpy] at hlen; simp at hlen
          | _ :: _ :: _ :: _, _, h => simp at h
          | _, _ :: _ :: _ :: _, h => have h2 := hlen; rw [hpy] at h2; simp at h2; rw [hpx] at h2; omega
      · by_cases hf : First x y
        · rcases un_first hi hx hy hxn hyn he hf with ⟨q1, q2⟩ | ⟨q1, q2⟩
          · exact ⟨_, .bind hwa hwb he hf q1, upost_ev hxe hye q2⟩
          · exact ⟨_, .occ hwa hwb he hf q1, upost_ev hxe hye q2⟩
        · by_cases hyl : y.head ∈ lts
          · have hf2 : First y x := by
              refine ⟨hyl, ?_⟩
              by_cases hxl : x.head ∈ lts
              · refine .inr ?_
                have h1 : ¬ ixl x.head < ixl y.head := fun h => hf ⟨hxl, .inr h⟩
                have h2 : ixl x.head ≠ ixl y.head := fun h => he (ixl_inj hxl hyl h)
                omega
              · exact .inl hxl
            rcases un_first hi hy hx hyn hxn (fun e => he e.symm) hf2 with ⟨q1, q2⟩ | ⟨q1, q2⟩
            · exact ⟨_, .swap hwa hwb he hf hyl (.bind (.stop hyn) (.stop hxn) (fun e => he e.symm) hf2 q1), upost_ev hxe hye (upost_symm q2)⟩
            · exact ⟨_, .swap hwa hwb he hf hyl (.occ (.stop hyn) (.stop hxn) (fun e => he e.symm) hf2 q1), upost_ev hxe hye (upost_symm q2)⟩
          · have hxl : x.head ∉ lts := fun h => hf ⟨h, .inl hyl⟩
            refine ⟨none, .clash hwa hwb hxl hyl he, upost_ev hxe hye ?_⟩
            intro s' hs' e
            have h1 := (ev_head (s := s') hxl).1
            have h2 := (ev_head (s := s') hyl).1
            rw [e, h2] at h1
            exact he h1.symm
/-- whether something can be put in so that both are the same -/
theorem un_iff (a b : Ty) (ha : TW a) (hb : TW b) : ∃ r, Un (fun _ => none) a b r ∧ (r.isSome = true ↔ ∃ s, ev s a = ev s b) ∧ ∀ m, r = some m → Inv m := by
  have hi : Inv (fun _ => none) := ⟨fun _ => 0, fun c t h => by simp at h⟩
  have hs : ∀ s, Sol (fun _ => none) s := fun s c t h => by simp at h
  obtain ⟨r, h1, h2⟩ := un_total _ _ (Nat.le_refl _) hi (fun c => .leaf c) (hs _) _ a b (Nat.le_refl _) ha hb
  refine ⟨r, h1, ?_, ?_⟩
  · cases r with
    | none => exact ⟨fun h => by simp at h, fun ⟨s, e⟩ => absurd e (h2 s (hs s))⟩
    | some m =>
      refine ⟨fun _ => ?_, fun _ => rfl⟩
      obtain ⟨s, q⟩ := h2.1.sol
      exact ⟨s, ((h2.2.1 s).1 q).2⟩
  · intro m e
    subst e
    exact h2.1
end UniP
end Go.Proofs.Ytcjalnianamlaaa
