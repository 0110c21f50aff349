/- The program's nodes and links, and the reference's bindings, answer the same: whether there is something to put in for the variables of two types so that they are one. Plain; nothing of Go. Conditions: none. -/
import Derived.Test.YtcjalnianamlaaaUniP
import Derived.Test.YtcjalnianamlaaaGraP
set_option linter.unusedVariables false
set_option linter.unusedSimpArgs false
set_option maxRecDepth 100000
namespace Go.Proofs.Ytcjalnianamlaaa
open Ty
namespace AptP
open UniP GraP
/-- something put in for the variables -/
def pv (s : UInt8 → Ty) : Ty → Ty
  | .leaf c => if isV c = true then s c else .leaf c
  | .one c t => .one c (pv s t)
  | .two c t u => .two c (pv s t) (pv s u)
def Uni (t u : Ty) : Prop := ∃ s1 s2, pv s1 t = pv s2 u
/-- the other letter of a variable -/
def oc (c : UInt8) : UInt8 := if c = 88 then 49 else if c = 89 then 50 else if c = 90 then 51 else if c = 120 then 52 else if c = 121 then 53 else if c = 122 then 54 else c
def unoc (c : UInt8) : UInt8 := if c = 49 then 88 else if c = 50 then 89 else if c = 51 then 90 else if c = 52 then 120 else if c = 53 then 121 else if c = 54 then 122 else c
def oth : Ty → Ty
  | .leaf c => .leaf (oc c)
  | .one c t => .one c (oth t)
  | .two c t u => .two c (oth t) (oth u)
theorem oth_head {t : Ty} (h : t.WF) : (oth t).head = oc t.head ∧ (oth t).parts = t.parts.map oth := by
  cases t with
  | leaf c => exact ⟨rfl, rfl⟩
  | one c u =>
    refine ⟨?_, rfl⟩
    have := h.1
    simp only [oth, Ty.head, oc]
    unfold ar at this
    repeat' split at this
    all_goals simp_all
  | two c u v =>
    refine ⟨?_, rfl⟩
    have := h.1
    simp only [oth, Ty.head, oc]
    unfold ar at this
    repeat' split at this
    all_goals simp_all
theorem isV_six {c : UInt8} (h : isV c = true) : c = 120 ∨ c = 121 ∨ c = 122 ∨ c = 88 ∨ c = 89 ∨ c = 90 := by simpa [isV] using h
theorem ar0 {c : UInt8} (h : ar c = some 0) : c = 105 ∨ c = 98 ∨ c = 117 ∨ isV c = true := by
  unfold ar at h
  split at h
  · rename_i e
    rcases e with rfl | rfl | rfl | rfl | rfl | rfl | rfl | rfl | rfl <;> simp [isV]
  · split at h
    · simp at h
    · split at h <;> simp at h
theorem ar1 {c : UInt8} (h : ar c = some 1) : c = 108 ∨ c = 109 := by
  unfold ar at h
  split at h
  · simp at h
  · split at h
    · assumption
    · split at h <;> simp at h
theorem ar2 {c : UInt8} (h : ar c = some 2) : c = 112 := by
  unfold ar at h
  split at h
  · simp at h
  · split at h
    · simp at h
    · split at h
      · assumption
      · simp at h
theorem leaf_cases {c : UInt8} (h : ar c = some 0) : (isV c = true ∧ c ∈ lts ∧ oc c ∈ lts ∧ isV (oc c) = false ∧ unoc (oc c) = c) ∨ (isV c = false ∧ c ∉ lts ∧ oc c = c ∧ (c = 105 ∨ c = 98 ∨ c = 117)) := by
  rcases ar0 h with rfl | rfl | rfl | h
  · exact .inr (by decide)
  · exact .inr (by decide)
  · exact .inr (by decide)
  · refine .inl ⟨h, ?_⟩
    rcases isV_six h with rfl | rfl | rfl | rfl | rfl | rfl <;> decide
theorem tw_wf {t : Ty} (h : t.WF) : TW t ∧ TW (oth t) := by
  induction t with
  | leaf c =>
    rcases leaf_cases h with ⟨_, h1, h2, _⟩ | ⟨_, _, h1, h2⟩
    · exact ⟨.inr (.inr (.inr h1)), .inr (.inr (.inr h2))⟩
    · have : TW (.leaf c) := by rcases h2 with e | e | e; exact .inl e; exact .inr (.inl e); exact .inr (.inr (.inl e))
      exact ⟨this, by show TW (.leaf (oc c)); rw [h1]; exact this⟩
  | one c t ih => exact ⟨⟨ar1 h.1, (ih h.2).1⟩, ⟨ar1 h.1, (ih h.2).2⟩⟩
  | two c t u ih1 ih2 => exact ⟨⟨ar2 h.1, (ih1 h.2.1).1, (ih2 h.2.2).1⟩, ⟨ar2 h.1, (ih1 h.2.1).2, (ih2 h.2.2).2⟩⟩
theorem ev_pv {t : Ty} (h : t.WF) (s : UInt8 → Ty) : ev s t = pv s t ∧ ev s (oth t) = pv (fun c => s (oc c)) t := by
  induction t with
  | leaf c =>
    show (if c ∈ lts then s c else .leaf c) = (if isV c = true then s c else .leaf c) ∧ (if oc c ∈ lts then s (oc c) else .leaf (oc c)) = (if isV c = true then s (oc c) else .leaf c)
    rcases leaf_cases h with ⟨h0, h1, h2, _⟩ | ⟨h0, h1, h2, _⟩
    · simp [h0, h1, h2]
    · simp [h0, h1, h2]
  | one c t ih => simp only [ev, oth, pv, (ih h.2).1, (ih h.2).2, and_self]
  | two c t u ih1 ih2 => simp only [ev, oth, pv, (ih1 h.2.1).1, (ih1 h.2.1).2, (ih2 h.2.2).1, (ih2 h.2.2).2, and_self]
theorem pv_same {t : Ty} (h : t.WF) {s s' : UInt8 → Ty} (e : ∀ c, isV c = true → s c = s' c) : pv s t = pv s' t := by
  induction t with
  | leaf c =>
    show (if isV c = true then s c else .leaf c) = (if isV c = true then s' c else .leaf c)
    by_cases hv : isV c = true
    · rw [if_pos hv, if_pos hv, e c hv]
    · rw [if_neg hv, if_neg hv]
  | one c t ih => simp only [pv, ih h.2]
  | two c t u ih1 ih2 => simp only [pv, ih1 h.2.1, ih2 h.2.2]
theorem oc_of {c : UInt8} (h : isV c = true) : isV (oc c) = false ∧ unoc (oc c) = c := by
  rcases isV_six h with rfl | rfl | rfl | rfl | rfl | rfl <;> decide
/-- the reference's answer -/
theorem spec_iff {t u : Ty} (ht : t.WF) (hu : u.WF) : ∃ r, Un (fun _ => none) t (oth u) r ∧ (r.isSome = true ↔ Uni t u) ∧ ∀ m, r = some m → Inv m := by
  obtain ⟨r, h1, h2, h3⟩ := un_iff t (oth u) (tw_wf ht).1 (tw_wf hu).2
  refine ⟨r, h1, h2.trans ⟨?_, ?_⟩, h3⟩
  · rintro ⟨s, e⟩
    rw [(ev_pv ht s).1, (ev_pv hu s).2] at e
    exact ⟨_, _, e⟩
  · rintro ⟨s1, s2, e⟩
    refine ⟨fun c => if isV c = true then s1 c else s2 (unoc c), ?_⟩
    rw [(ev_pv ht _).1, (ev_pv hu _).2]
    rw [pv_same (s' := s1) ht (fun c hc => by rw [if_pos hc]), pv_same (s' := s2) hu (fun c hc => by rw [if_neg (by rw [(oc_of hc).1]; simp), (oc_of hc).2])]
    exact e

/-! nodes that stand for types -/
inductive Rep (N : Nds) (sc : UInt8 → Option Nat) : Nat → Ty → Prop
  | var {b : Nat} {c : UInt8} : N b = some (c, []) → isV c = true → sc c = some b → Rep N sc b (.leaf c)
  | n0 {b : Nat} {c : UInt8} : N b = some (c, []) → isV c = false → Rep N sc b (.leaf c)
  | n1 {b p : Nat} {c : UInt8} {t : Ty} : N b = some (c, [p]) → isV c = false → Rep N sc p t → Rep N sc b (.one c t)
  | n2 {b p q : Nat} {c : UInt8} {t u : Ty} : N b = some (c, [p, q]) → isV c = false → Rep N sc p t → Rep N sc q u → Rep N sc b (.two c t u)
theorem Rep.mono {N N' : Nds} {sc sc' : UInt8 → Option Nat} (hN : ∀ n v, N n = some v → N' n = some v) (hs : ∀ c b, sc c = some b → sc' c = some b) {b : Nat} {t : Ty} (h : Rep N sc b t) : Rep N' sc' b t := by
  induction h with
  | var h1 h2 h3 => exact .var (hN _ _ h1) h2 (hs _ _ h3)
  | n0 h1 h2 => exact .n0 (hN _ _ h1) h2
  | n1 h1 h2 _ ih => exact .n1 (hN _ _ h1) h2 ih
  | n2 h1 h2 _ _ i1 i2 => exact .n2 (hN _ _ h1) h2 i1 i2
theorem Rep.node {N : Nds} {sc : UInt8 → Option Nat} {b : Nat} {t : Ty} (h : Rep N sc b t) : ∃ v, N b = some v := by cases h with | var h _ _ => exact ⟨_, h⟩ | n0 h _ => exact ⟨_, h⟩ | n1 h _ _ => exact ⟨_, h⟩ | n2 h _ _ _ => exact ⟨_, h⟩
/-- two types as nodes, each with variables of its own -/
structure Two (N : Nds) (s1 s2 : UInt8 → Option Nat) (x y : Nat) (t u : Ty) (M : Nat) : Prop where
  wh : Wh N
  lt : ∀ n v, N n = some v → n < M
  all : ∀ n v, N n = some v → (∃ t, Rep N s1 n t) ∨ ∃ t, Rep N s2 n t
  sep : ∀ c d b, s1 c = some b → s2 d = some b → False
  let1 : ∀ c b, s1 c = some b → N b = some (c, [])
  let2 : ∀ c b, s2 c = some b → N b = some (c, [])
  left : Rep N s1 x t
  right : Rep N s2 y u
def L0 : Lks := fun _ => none
theorem gw0 (N : Nds) : GW N L0 := ⟨fun n b h => by simp [L0] at h, fun n v h => ⟨n, .stop rfl⟩, fun n b h => by simp [L0] at h⟩
theorem eq0 {p q : Nat} (h : GraP.Eq L0 p q) : p = q := by
  obtain ⟨r, a, b⟩ := h
  have e1 : ∀ {n m : Nat}, En L0 n m → n = m := fun h => by cases h with | stop _ => rfl | step e _ => simp [L0] at e
  rw [e1 a, e1 b]
open Classical in
noncomputable def tau (N : Nds) (L : Lks) (n : Nat) : Ty := if h : Fin N L n then h.choose else .leaf 105
theorem tau_unf {N : Nds} {L : Lks} {n : Nat} {t : Ty} (h : Unf N L n t) : tau N L n = t := by
  unfold tau
  rw [dif_pos ⟨t, h⟩]
  exact unf_det (Exists.choose_spec (⟨t, h⟩ : Fin N L n)) h
theorem rep_tau {N : Nds} {L : Lks} (hg : GW N L) (hc : ∀ p q, Con N p → Con N q → GraP.Eq L p q → GraP.Good N L p q) {sc : UInt8 → Option Nat} {b : Nat} {t : Ty} (h : Rep N sc b t) :
    Fin N L b → tau N L b = pv (fun c => match sc c with | some n => tau N L n | none => .leaf 105) t := by
  induction h with
  | var h1 h2 h3 =>
    intro _
    simp only [pv, h2, if_true, h3]
  | n0 h1 h2 =>
    rintro ⟨T, hT⟩
    rename_i b c
    have hcon : Con N b := ⟨c, [], h1, h2⟩
    obtain ⟨r, hr⟩ := hg.ends _ _ h1
    obtain ⟨c', ps, qs, g1, g2, g3, g4⟩ := hc b r hcon (hg.enc hr hcon) ⟨r, hr, .stop (en_root hr)⟩
    rw [h1] at g1
    simp only [Option.some.injEq, Prod.mk.injEq] at g1
    obtain ⟨rfl, rfl⟩ := g1
    obtain rfl : qs = [] := List.eq_nil_of_length_eq_zero (by simpa using g3.symm)
    rw [tau_unf (.n0 hr g2 h2)]
    simp [pv, h2]
  | n1 h1 h2 h3 ih =>
    rintro ⟨T, hT⟩
    rename_i b p c t
    have hcon : Con N b := ⟨c, _, h1, h2⟩
    obtain ⟨r, hr⟩ := hg.ends _ _ h1
    obtain ⟨c', ps, qs, g1, g2, g3, g4⟩ := hc b r hcon (hg.enc hr hcon) ⟨r, hr, .stop (en_root hr)⟩
    rw [h1] at g1
    simp only [Option.some.injEq, Prod.mk.injEq] at g1
    obtain ⟨rfl, rfl⟩ := g1
    match qs, g3 with
    | [q], _ =>
      have hpq := g4 0 p q rfl rfl
      have hu : ∃ w, Unf N L q w := by
        cases hT with
        | var k1 k2 k3 => rw [← en_det hr k1, g2] at k2; simp only [Option.some.injEq, Prod.mk.injEq] at k2; rw [← k2.1, h2] at k3; simp at k3
        | n0 k1 k2 k3 => rw [← en_det hr k1, g2] at k2; simp at k2
        | n1 k1 k2 k3 k4 => rw [← en_det hr k1, g2] at k2; simp only [Option.some.injEq, Prod.mk.injEq, List.cons.injEq, and_true] at k2; obtain ⟨rfl, rfl⟩ := k2; exact ⟨_, k4⟩
        | n2 k1 k2 k3 k4 k5 => rw [← en_det hr k1, g2] at k2; simp at k2
      obtain ⟨w, hw⟩ := hu
      have hp := unf_eq hpq.symm hw
      have h6 := ih ⟨w, hp⟩
      rw [tau_unf hp] at h6
      rw [tau_unf (.n1 hr g2 h2 hw)]
      simp only [pv, ← h6]
  | n2 h1 h2 h3 h4 i1 i2 =>
    rintro ⟨T, hT⟩
    rename_i b p q c t u
    have hcon : Con N b := ⟨c, _, h1, h2⟩
    obtain ⟨r, hr⟩ := hg.ends _ _ h1
    obtain ⟨c', ps, qs, g1, g2, g3, g4⟩ := hc b r hcon (hg.enc hr hcon) ⟨r, hr, .stop (en_root hr)⟩
    rw [h1] at g1
    simp only [Option.some.injEq, Prod.mk.injEq] at g1
    obtain ⟨rfl, rfl⟩ := g1
    match qs, g3 with
    | [p', q'], _ =>
      have hp1 := g4 0 p p' rfl rfl
      have hp2 := g4 1 q q' rfl rfl
      have hu : ∃ w1 w2, Unf N L p' w1 ∧ Unf N L q' w2 := by
        cases hT with
        | var k1 k2 k3 => rw [← en_det hr k1, g2] at k2; simp only [Option.some.injEq, Prod.mk.injEq] at k2; rw [← k2.1, h2] at k3; simp at k3
        | n0 k1 k2 k3 => rw [← en_det hr k1, g2] at k2; simp at k2
        | n1 k1 k2 k3 k4 => rw [← en_det hr k1, g2] at k2; simp at k2
        | n2 k1 k2 k3 k4 k5 => rw [← en_det hr k1, g2] at k2; simp only [Option.some.injEq, Prod.mk.injEq, List.cons.injEq, and_true] at k2; obtain ⟨rfl, rfl, rfl⟩ := k2; exact ⟨_, _, k4, k5⟩
      obtain ⟨w1, w2, hw1, hw2⟩ := hu
      have q1 := unf_eq hp1.symm hw1
      have q2 := unf_eq hp2.symm hw2
      have h6 := i1 ⟨w1, q1⟩
      have h7 := i2 ⟨w2, q2⟩
      rw [tau_unf q1] at h6
      rw [tau_unf q2] at h7
      rw [tau_unf (.n2 hr g2 h2 hw1 hw2)]
      simp only [pv, ← h6, ← h7]
/-- values of nodes, by those of variables -/
inductive Val (N : Nds) (ρ : Nat → Ty) : Nat → Ty → Prop
  | var {b : Nat} {c : UInt8} : N b = some (c, []) → isV c = true → Val N ρ b (ρ b)
  | n0 {b : Nat} {c : UInt8} : N b = some (c, []) → isV c = false → Val N ρ b (.leaf c)
  | n1 {b p : Nat} {c : UInt8} {t : Ty} : N b = some (c, [p]) → isV c = false → Val N ρ p t → Val N ρ b (.one c t)
  | n2 {b p q : Nat} {c : UInt8} {t u : Ty} : N b = some (c, [p, q]) → isV c = false → Val N ρ p t → Val N ρ q u → Val N ρ b (.two c t u)
theorem val_det {N : Nds} {ρ : Nat → Ty} {b : Nat} {t u : Ty} (h : Val N ρ b t) : Val N ρ b u → t = u := by
  induction h generalizing u with
  | var h1 h2 => intro k; cases k with
    | var k1 k2 => rfl
    | n0 k1 k2 => rw [h1] at k1; simp only [Option.some.injEq, Prod.mk.injEq] at k1; rw [k1.1, k2] at h2; simp at h2
    | n1 k1 k2 _ => rw [h1] at k1; simp at k1
    | n2 k1 k2 _ _ => rw [h1] at k1; simp at k1
  | n0 h1 h2 => intro k; cases k with
    | var k1 k2 => rw [h1] at k1; simp only [Option.some.injEq, Prod.mk.injEq] at k1; rw [← k1.1, h2] at k2; simp at k2
    | n0 k1 k2 => rw [h1] at k1; simp only [Option.some.injEq, Prod.mk.injEq] at k1; rw [k1.1]
    | n1 k1 k2 _ => rw [h1] at k1; simp at k1
    | n2 k1 k2 _ _ => rw [h1] at k1; simp at k1
  | n1 h1 h2 _ ih => intro k; cases k with
    | var k1 k2 => rw [h1] at k1; simp at k1
    | n0 k1 k2 => rw [h1] at k1; simp at k1
    | n1 k1 k2 k3 =>
      rw [h1] at k1
      simp only [Option.some.injEq, Prod.mk.injEq, List.cons.injEq, and_true] at k1
      obtain ⟨rfl, rfl⟩ := k1
      rw [ih k3]
    | n2 k1 k2 _ _ => rw [h1] at k1; simp at k1
  | n2 h1 h2 _ _ i1 i2 => intro k; cases k with
    | var k1 k2 => rw [h1] at k1; simp at k1
    | n0 k1 k2 => rw [h1] at k1; simp at k1
    | n1 k1 k2 k3 => rw [h1] at k1; simp at k1
    | n2 k1 k2 k3 k4 =>
      rw [h1] at k1
      simp only [Option.some.injEq, Prod.mk.injEq, List.cons.injEq, and_true] at k1
      obtain ⟨rfl, rfl, rfl⟩ := k1
      rw [i1 k3, i2 k4]
theorem rep_val {N : Nds} {ρ : Nat → Ty} {sc : UInt8 → Option Nat} {s : UInt8 → Ty} (hr : ∀ c b, sc c = some b → ρ b = s c) {b : Nat} {t : Ty} (h : Rep N sc b t) : Val N ρ b (pv s t) := by
  induction h with
  | var h1 h2 h3 => have := Val.var (ρ := ρ) h1 h2; rw [hr _ _ h3] at this; simpa [pv, h2] using this
  | n0 h1 h2 => have := Val.n0 (ρ := ρ) h1 h2; simpa [pv, h2] using this
  | n1 h1 h2 _ ih => exact .n1 h1 h2 ih
  | n2 h1 h2 _ _ i1 i2 => exact .n2 h1 h2 i1 i2
open Classical in
noncomputable def vtau (N : Nds) (ρ : Nat → Ty) (n : Nat) : Ty := if h : ∃ t, Val N ρ n t then h.choose else .leaf 105
theorem vtau_val {N : Nds} {ρ : Nat → Ty} {n : Nat} {t : Ty} (h : Val N ρ n t) : vtau N ρ n = t := by
  unfold vtau
  rw [dif_pos ⟨t, h⟩]
  exact val_det (Exists.choose_spec (⟨t, h⟩ : ∃ t, Val N ρ n t)) h
theorem vtau_mod {N : Nds} {ρ : Nat → Ty} (h : ∀ n v, N n = some v → ∃ t, Val N ρ n t) : Mod N L0 (vtau N ρ) := by
  refine ⟨fun n c ps hn hv => ?_, fun n b e => by simp [L0] at e⟩
  obtain ⟨t, ht⟩ := h n _ hn
  rw [vtau_val ht]
  cases ht with
  | var k1 k2 => rw [hn] at k1; simp only [Option.some.injEq, Prod.mk.injEq] at k1; rw [k1.1, k2] at hv; simp at hv
  | n0 k1 k2 => rw [hn] at k1; simp only [Option.some.injEq, Prod.mk.injEq] at k1; rw [k1.1, k1.2]; rfl
  | n1 k1 k2 k3 => rw [hn] at k1; simp only [Option.some.injEq, Prod.mk.injEq] at k1; rw [k1.1, k1.2]; simp [mk, vtau_val k3]
  | n2 k1 k2 k3 k4 => rw [hn] at k1; simp only [Option.some.injEq, Prod.mk.injEq] at k1; rw [k1.1, k1.2]; simp [mk, vtau_val k3, vtau_val k4]
def none' : Set' := fun _ => false
/-- the program's answer -/
theorem impl_iff {N : Nds} {s1 s2 : UInt8 → Option Nat} {x y : Nat} {t u : Ty} {M : Nat} (h : Two N s1 s2 x y t u M) :
    ∃ r L, Ug N L0 x y r L ∧ GW N L ∧ (r = false → ¬ Uni t u) ∧ (r = true → ∃ o, Ed N L none' none' x o ∧ (o.isSome = true ↔ Uni t u)) := by
  obtain ⟨r, L, u1, u2⟩ := ug_total h.wh h.lt _ L0 rfl (gw0 N) x y h.left.node h.right.node
  refine ⟨r, L, u1, u2.gw, ?_, ?_⟩
  all_goals
    -- something to put in gives every node a type
    have hmod : Uni t u → ∃ τ, Mod N L0 τ ∧ τ x = τ y := by
      rintro ⟨q1, q2, e⟩
      classical
      let ρ : Nat → Ty := fun b => match N b with | some (c, _) => if s1 c = some b then q1 c else q2 c | none => .leaf 105
      have r1 : ∀ c b, s1 c = some b → ρ b = q1 c := fun c b hb => by
        show (match N b with | some (c, _) => if s1 c = some b then q1 c else q2 c | none => .leaf 105) = _
        rw [h.let1 c b hb]
        simp only [hb, if_true]
      have r2 : ∀ c b, s2 c = some b → ρ b = q2 c := fun c b hb => by
        show (match N b with | some (c, _) => if s1 c = some b then q1 c else q2 c | none => .leaf 105) = _
        rw [h.let2 c b hb]
        simp only
        rw [if_neg (fun hc => h.sep c c b hc hb)]
      have hall : ∀ n v, N n = some v → ∃ t, Val N ρ n t := fun n v hn => by
        rcases h.all n v hn with ⟨t, ht⟩ | ⟨t, ht⟩
        · exact ⟨_, rep_val r1 ht⟩
        · exact ⟨_, rep_val r2 ht⟩
      refine ⟨vtau N ρ, vtau_mod hall, ?_⟩
      rw [vtau_val (rep_val r1 h.left), vtau_val (rep_val r2 h.right)]
      exact e
  · intro hr hu
    obtain ⟨τ, hm, e⟩ := hmod hu
    have := (u2.mod τ hm e).1
    rw [hr] at this
    simp at this
  · intro hr
    obtain ⟨o, e1, e2⟩ := ed_total h.wh u2.gw h.lt _ none' none' rfl x h.left.node
    refine ⟨o, e1, ?_, ?_⟩
    · intro ho
      obtain ⟨D, hD⟩ := Option.isSome_iff_exists.1 ho
      subst hD
      have hx : Fin N L x := (e2 (fun r h => by simp [none'] at h)).2
      have hc : ∀ p q, Con N p → Con N q → GraP.Eq L p q → GraP.Good N L p q := by
        intro p q hp hq he
        have hrefl : ∀ p, Con N p → GraP.Good N L p p := fun p ⟨c, ps, hp, hv⟩ => ⟨c, ps, ps, hp, hp, rfl, fun i a b ha hb => by
          rw [ha] at hb
          cases hb
          exact u2.gw.refl (h.wh.parts p c ps hp a (List.mem_of_getElem? ha))⟩
        have := u2.cong hr (fun p q => p = q ∨ GraP.Good N L p q) (fun a => .inl rfl) (fun a b h => h.elim (fun e => .inl e.symm) (fun g => .inr g.symm))
          (fun a b c h k => by
            rcases h with rfl | h
            · exact k
            · rcases k with rfl | k
              · exact .inr h
              · exact .inr (h.trans k))
          (fun p q _ _ he => .inl (eq0 he)) (fun p q _ _ g => .inr g) p q hp hq he
        rcases this with rfl | g
        · exact hrefl p hp
        · exact g
      have hxy := u2.eq hr
      obtain ⟨T, hT⟩ := hx
      have hTy := unf_eq hxy hT
      have q1 := rep_tau u2.gw hc h.left ⟨T, hT⟩
      have q2 := rep_tau u2.gw hc h.right ⟨T, hTy⟩
      rw [tau_unf hT] at q1
      rw [tau_unf hTy] at q2
      exact ⟨_, _, q1.symm.trans q2⟩
    · intro hu
      obtain ⟨τ, hm, e⟩ := hmod hu
      cases o with
      | some D => rfl
      | none => exact absurd (e2 τ (u2.mod τ hm e).2 (fun r h => by simp [none'] at h)) id
end AptP
end Go.Proofs.Ytcjalnianamlaaa
