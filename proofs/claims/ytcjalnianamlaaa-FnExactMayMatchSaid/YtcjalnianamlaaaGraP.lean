/- Making two types the same by links between nodes, as the program does it: it ends, and answers whether there is something to put in. Plain; nothing of Go. Conditions: none. -/
import Derived.Test.YtcjalnianamlaaaVar
set_option linter.unusedVariables false
set_option linter.unusedSimpArgs false
set_option maxRecDepth 100000
namespace Go.Proofs.Ytcjalnianamlaaa
open Ty
namespace GraP
/-- nodes: a letter and parts -/
abbrev Nds := Nat → Option (UInt8 × List Nat)
/-- links -/
abbrev Lks := Nat → Option Nat
/-- the nodes are whole: parts are nodes, as many as the letter has; a variable has none -/
structure Wh (N : Nds) : Prop where
  parts : ∀ n c ps, N n = some (c, ps) → ∀ p ∈ ps, ∃ x, N p = some x
  len : ∀ n c ps, N n = some (c, ps) → ar c = some ps.length
/-- a node that is no variable -/
def Con (N : Nds) (n : Nat) : Prop := ∃ c ps, N n = some (c, ps) ∧ isV c = false
inductive En (L : Lks) : Nat → Nat → Prop
  | stop {n : Nat} : L n = none → En L n n
  | step {n b r : Nat} : L n = some b → En L b r → En L n r
theorem en_det {L : Lks} {n r r' : Nat} (h : En L n r) (h' : En L n r') : r = r' := by
  induction h with
  | stop e => cases h' with
    | stop _ => rfl
    | step e' _ => rw [e] at e'; simp at e'
  | step e _ ih => cases h' with
    | stop e' => rw [e] at e'; simp at e'
    | step e' w => rw [e] at e'; cases e'; exact ih w
theorem en_root {L : Lks} {n r : Nat} (h : En L n r) : L r = none := by
  induction h with
  | stop e => exact e
  | step _ _ ih => exact ih
/-- the links lead from nodes to nodes, each to an end, and no letter that is none of a variable is linked to a variable -/
structure GW (N : Nds) (L : Lks) : Prop where
  node : ∀ n b, L n = some b → (∃ x, N n = some x) ∧ ∃ y, N b = some y
  ends : ∀ n x, N n = some x → ∃ r, En L n r
  con : ∀ n b, L n = some b → Con N n → Con N b
theorem GW.en {N : Nds} {L : Lks} (h : GW N L) {n r : Nat} (he : En L n r) (hn : ∃ x, N n = some x) : ∃ y, N r = some y := by
  induction he with
  | stop _ => exact hn
  | step e _ ih => exact ih (h.node _ _ e).2
theorem GW.enc {N : Nds} {L : Lks} (h : GW N L) {n r : Nat} (he : En L n r) (hn : Con N n) : Con N r := by
  induction he with
  | stop _ => exact hn
  | step e _ ih => exact ih (h.con _ _ e hn)
/-- a link more -/
def lnk (L : Lks) (x y : Nat) : Lks := fun n => if n = x then some y else L n
theorem lnk_same (L : Lks) (x y : Nat) : lnk L x y x = some y := by simp [lnk]
theorem lnk_ne {L : Lks} {x y n : Nat} (h : n ≠ x) : lnk L x y n = L n := by simp [lnk, h]
theorem en_lnk {L : Lks} {x y : Nat} (hx : L x = none) (hy : L y = none) (hne : x ≠ y) {n r : Nat} (h : En L n r) : En (lnk L x y) n (if r = x then y else r) := by
  induction h with
  | stop e =>
    rename_i n
    by_cases h : n = x
    · subst h
      rw [if_pos rfl]
      exact .step (lnk_same _ _ _) (.stop (by rw [lnk_ne (fun e => hne e.symm)]; exact hy))
    · rw [if_neg h]
      exact .stop (by rw [lnk_ne h]; exact e)
  | step e _ ih =>
    rename_i n b r _
    have h : n ≠ x := fun h => by rw [h, hx] at e; simp at e
    exact .step (by rw [lnk_ne h]; exact e) ih
/-- two nodes with one end -/
def Eq (L : Lks) (p q : Nat) : Prop := ∃ r, En L p r ∧ En L q r
theorem Eq.symm {L : Lks} {p q : Nat} (h : Eq L p q) : Eq L q p := by obtain ⟨r, a, b⟩ := h; exact ⟨r, b, a⟩
theorem Eq.trans {L : Lks} {p q r : Nat} (h : Eq L p q) (k : Eq L q r) : Eq L p r := by
  obtain ⟨x, a, b⟩ := h
  obtain ⟨y, c, d⟩ := k
  have := en_det b c
  subst this
  exact ⟨x, a, d⟩
theorem GW.refl {N : Nds} {L : Lks} (h : GW N L) {n : Nat} (hn : ∃ x, N n = some x) : Eq L n n := by obtain ⟨x, hx⟩ := hn; obtain ⟨r, hr⟩ := h.ends n x hx; exact ⟨r, hr, hr⟩
/-- more links, none turned -/
def Ext (L L2 : Lks) : Prop := ∀ n b, L n = some b → L2 n = some b
theorem Ext.refl (L : Lks) : Ext L L := fun _ _ h => h
theorem Ext.trans {a b c : Lks} (h : Ext a b) (k : Ext b c) : Ext a c := fun n x e => k n x (h n x e)
theorem ext_en {N : Nds} {L L2 : Lks} (hx : Ext L L2) (hg : GW N L2) {n r : Nat} (h : En L n r) (hn : ∃ x, N n = some x) {r2 : Nat} (h2 : En L2 r r2) : En L2 n r2 := by
  induction h with
  | stop _ => exact h2
  | step e _ ih => exact .step (hx _ _ e) (ih (hg.node _ _ (hx _ _ e)).2 h2)
theorem eq_ext {N : Nds} {L L2 : Lks} (hx : Ext L L2) (hg1 : GW N L) (hg : GW N L2) {p q : Nat} (hp : ∃ x, N p = some x) (hq : ∃ x, N q = some x) (h : Eq L p q) : Eq L2 p q := by
  obtain ⟨r, a, b⟩ := h
  obtain ⟨y, hy⟩ := hg1.en a hp
  obtain ⟨r2, hr2⟩ := hg.ends r y hy
  exact ⟨r2, ext_en hx hg a hp hr2, ext_en hx hg b hq hr2⟩
/-- one letter, and parts with one end each -/
def Good (N : Nds) (L : Lks) (p q : Nat) : Prop := ∃ c ps qs, N p = some (c, ps) ∧ N q = some (c, qs) ∧ ps.length = qs.length ∧ ∀ (i a b : Nat), ps[i]? = some a → qs[i]? = some b → Eq L a b
theorem good_ext {N : Nds} {L L2 : Lks} (hw : Wh N) (hx : Ext L L2) (hg1 : GW N L) (hg : GW N L2) {p q : Nat} (h : Good N L p q) : Good N L2 p q := by
  obtain ⟨c, ps, qs, h1, h2, h3, h4⟩ := h
  exact ⟨c, ps, qs, h1, h2, h3, fun i a b ha hb => eq_ext hx hg1 hg (hw.parts p c ps h1 a (List.mem_of_getElem? ha)) (hw.parts q c qs h2 b (List.mem_of_getElem? hb)) (h4 i a b ha hb)⟩
theorem Good.symm {N : Nds} {L : Lks} {p q : Nat} (h : Good N L p q) : Good N L q p := by
  obtain ⟨c, ps, qs, h1, h2, h3, h4⟩ := h
  exact ⟨c, qs, ps, h2, h1, h3.symm, fun i a b ha hb => (h4 i b a hb ha).symm⟩
theorem Good.trans {N : Nds} {L : Lks} {p q r : Nat} (h : Good N L p q) (k : Good N L q r) : Good N L p r := by
  obtain ⟨c, ps, qs, h1, h2, h3, h4⟩ := h
  obtain ⟨d, qs', rs, k1, k2, k3, k4⟩ := k
  rw [h2] at k1
  simp only [Option.some.injEq, Prod.mk.injEq] at k1
  obtain ⟨rfl, rfl⟩ := k1
  refine ⟨c, ps, rs, h1, k2, by omega, fun i a b ha hb => ?_⟩
  have hi : i < qs.length := by rw [← h3]; exact (List.getElem?_eq_some_iff.1 ha).1
  exact (h4 i a _ ha (List.getElem?_eq_getElem hi)).trans (k4 i _ b (List.getElem?_eq_getElem hi) hb)
/-- what came to one end has one letter and such parts, or came there before -/
def Cong (N : Nds) (L L2 : Lks) : Prop := ∀ E : Nat → Nat → Prop, (∀ a, E a a) → (∀ a b, E a b → E b a) → (∀ a b c, E a b → E b c → E a c) →
  (∀ p q, Con N p → Con N q → Eq L p q → E p q) → (∀ p q, Con N p → Con N q → Good N L2 p q → E p q) → ∀ p q, Con N p → Con N q → Eq L2 p q → E p q
theorem Cong.refl (N : Nds) (L : Lks) : Cong N L L := fun E _ _ _ h _ => h
theorem Cong.trans {N : Nds} {L L1 L2 : Lks} (hw : Wh N) (h : Cong N L L1) (k : Cong N L1 L2) (hx : Ext L1 L2) (hg1 : GW N L1) (hg : GW N L2) : Cong N L L2 := fun E e1 e2 e3 h1 h2 =>
  k E e1 e2 e3 (h E e1 e2 e3 h1 (fun p q hp hq hgd => h2 p q hp hq (good_ext hw hx hg1 hg hgd))) h2
/-- types for nodes -/
def mk (c : UInt8) : List Ty → Ty
  | [] => .leaf c
  | [t] => .one c t
  | t :: u :: _ => .two c t u
def Mod (N : Nds) (L : Lks) (τ : Nat → Ty) : Prop := (∀ n c ps, N n = some (c, ps) → isV c = false → τ n = mk c (ps.map τ)) ∧ ∀ n b, L n = some b → τ n = τ b
theorem mod_en {N : Nds} {L : Lks} {τ : Nat → Ty} (h : Mod N L τ) {n r : Nat} (he : En L n r) : τ n = τ r := by
  induction he with
  | stop _ => rfl
  | step e _ ih => rw [h.2 _ _ e]; exact ih
theorem mk_inj {c d : UInt8} {ps qs : List Ty} (hl : ps.length = qs.length) (h2 : ps.length ≤ 2) (h : mk c ps = mk d qs) : c = d ∧ ps = qs := by
  match ps, qs, hl, h2 with
  | [], [], _, _ => simp [mk] at h; exact ⟨h, rfl⟩
  | [a], [b], _, _ => simp [mk] at h; exact ⟨h.1, by rw [h.2]⟩
  | [a, a2], [b, b2], _, _ => simp [mk] at h; exact ⟨h.1, by rw [h.2.1, h.2.2]⟩
  | _ :: _ :: _ :: _, _, _, h2 => simp at h2
theorem mk_head (c : UInt8) (ps : List Ty) : (mk c ps).head = c := by
  match ps with
  | [] => rfl
  | [_] => rfl
  | _ :: _ :: _ => rfl

/-! making two nodes the same -/
/-- the node that is linked, and that it is linked to -/
def sw (cx cy : UInt8) : Bool := (isV cx && (isV cy && decide (cy.toNat < cx.toNat))) || (!isV cx && isV cy)
inductive Ug (N : Nds) : Lks → Nat → Nat → Bool → Lks → Prop
  | same {L : Lks} {a b r : Nat} : En L a r → En L b r → Ug N L a b true L
  | swap {L L2 : Lks} {a b x y : Nat} {cx cy : UInt8} {ps qs : List Nat} {r : Bool} : En L a x → En L b y → x ≠ y → N x = some (cx, ps) → N y = some (cy, qs) → sw cx cy = true → Ug N L y x r L2 → Ug N L a b r L2
  | clash {L : Lks} {a b x y : Nat} {cx cy : UInt8} {ps qs : List Nat} : En L a x → En L b y → x ≠ y → N x = some (cx, ps) → N y = some (cy, qs) → sw cx cy = false → isV cx = false → cx ≠ cy → Ug N L a b false L
  | con0 {L : Lks} {a b x y : Nat} {cx cy : UInt8} {qs : List Nat} : En L a x → En L b y → x ≠ y → N x = some (cx, []) → N y = some (cy, qs) → sw cx cy = false → (isV cx = true ∨ cx = cy) → Ug N L a b true (lnk L x y)
  | con1 {L L2 : Lks} {a b x y p q : Nat} {cx : UInt8} {r : Bool} : En L a x → En L b y → x ≠ y → N x = some (cx, [p]) → N y = some (cx, [q]) → isV cx = false → Ug N (lnk L x y) p q r L2 → Ug N L a b r L2
  | con2f {L L2 : Lks} {a b x y p p2 q q2 : Nat} {cx : UInt8} : En L a x → En L b y → x ≠ y → N x = some (cx, [p, p2]) → N y = some (cx, [q, q2]) → isV cx = false → Ug N (lnk L x y) p q false L2 → Ug N L a b false L2
  | con2t {L L1 L2 : Lks} {a b x y p p2 q q2 : Nat} {cx : UInt8} {r : Bool} : En L a x → En L b y → x ≠ y → N x = some (cx, [p, p2]) → N y = some (cx, [q, q2]) → isV cx = false → Ug N (lnk L x y) p q true L1 → Ug N L1 p2 q2 r L2 → Ug N L a b r L2
theorem sw_self (c : UInt8) : sw c c = false := by
  unfold sw
  cases isV c <;> simp
/-- how many nodes below M are ends -/
def roots (M : Nat) (L : Lks) : Nat := ((List.range M).filter fun n => (L n).isNone).length
theorem roots_lnk {M : Nat} {L : Lks} {x y : Nat} (hx : x < M) (hl : L x = none) : roots M (lnk L x y) < roots M L := by
  unfold roots
  have key : ∀ l : List Nat, (l.filter fun n => (lnk L x y n).isNone).length ≤ (l.filter fun n => (L n).isNone).length ∧ (x ∈ l → (l.filter fun n => (lnk L x y n).isNone).length < (l.filter fun n => (L n).isNone).length) := by
    intro l
    induction l with
    | nil => simp
    | cons c l ih =>
      obtain ⟨i1, i2⟩ := ih
      by_cases e : c = x
      · subst e
        simp only [List.filter_cons, lnk_same, hl]
        simp
        omega
      · simp only [List.filter_cons, lnk_ne e]
        constructor
        · cases (L c).isNone <;> simp <;> omega
        · intro h
          rcases List.mem_cons.1 h with h | h
          · exact absurd h.symm e
          · have := i2 h
            cases (L c).isNone <;> simp <;> omega
  exact (key _).2 (List.mem_range.2 hx)
structure UgPost (N : Nds) (M : Nat) (L : Lks) (a b : Nat) (r : Bool) (L2 : Lks) : Prop where
  gw : GW N L2
  ext : Ext L L2
  less : roots M L2 ≤ roots M L
  mod : ∀ τ, Mod N L τ → τ a = τ b → r = true ∧ Mod N L2 τ
  eq : r = true → Eq L2 a b
  cong : r = true → Cong N L L2
theorem gw_lnk {N : Nds} {L : Lks} (hg : GW N L) {x y : Nat} (hx : L x = none) (hy : L y = none) (hne : x ≠ y) (hnx : ∃ v, N x = some v) (hny : ∃ v, N y = some v) (hc : Con N x → Con N y) : GW N (lnk L x y) := by
  refine ⟨fun n b h => ?_, fun n v h => ?_, fun n b h hn => ?_⟩
  · by_cases e : n = x
    · subst e; rw [lnk_same] at h; cases h; exact ⟨hnx, hny⟩
    · rw [lnk_ne e] at h; exact hg.node n b h
  · obtain ⟨r, hr⟩ := hg.ends n v h
    exact ⟨_, en_lnk hx hy hne hr⟩
  · by_cases e : n = x
    · subst e; rw [lnk_same] at h; cases h; exact hc hn
    · rw [lnk_ne e] at h; exact hg.con n b h hn
theorem ext_lnk {L : Lks} {x : Nat} (hx : L x = none) (y : Nat) : Ext L (lnk L x y) := fun n b h => by
  have : n ≠ x := fun e => by rw [e, hx] at h; simp at h
  rw [lnk_ne this]; exact h
theorem mod_lnk {N : Nds} {L : Lks} {x y : Nat} {τ : Nat → Ty} (h : Mod N L τ) (e : τ x = τ y) : Mod N (lnk L x y) τ := by
  refine ⟨h.1, fun n b hn => ?_⟩
  by_cases hx : n = x
  · subst hx; rw [lnk_same] at hn; cases hn; exact e
  · rw [lnk_ne hx] at hn; exact h.2 n b hn
theorem eq_lnk {L : Lks} {x y : Nat} (hx : L x = none) (hy : L y = none) (hne : x ≠ y) {a b : Nat} (ha : En L a x) (hb : En L b y) : Eq (lnk L x y) a b := by
  refine ⟨y, ?_, ?_⟩
  · have := en_lnk hx hy hne ha; rwa [if_pos rfl] at this
  · have := en_lnk hx hy hne hb; rwa [if_neg (fun e => hne e.symm)] at this
/-- what the one link brings to one end -/
theorem cong_lnk {N : Nds} {L : Lks} (hg : GW N L) {x y : Nat} (hx : L x = none) (hy : L y = none) (hne : x ≠ y) {E : Nat → Nat → Prop} (e2 : ∀ a b, E a b → E b a) (e3 : ∀ a b c, E a b → E b c → E a c)
    (h1 : ∀ p q, Con N p → Con N q → Eq L p q → E p q) (hxy : Con N x → Con N y → E x y) : ∀ p q, Con N p → Con N q → Eq (lnk L x y) p q → E p q := by
  intro p q hp hq ⟨r, hpr, hqr⟩
  obtain ⟨c, ps, hpn, hpv⟩ := hp
  obtain ⟨d, qs, hqn, hqv⟩ := hq
  have hpc : Con N p := ⟨c, ps, hpn, hpv⟩
  have hqc : Con N q := ⟨d, qs, hqn, hqv⟩
  obtain ⟨p', hp'⟩ := hg.ends p _ hpn
  obtain ⟨q', hq'⟩ := hg.ends q _ hqn
  have a1 := en_det (en_lnk hx hy hne hp') hpr
  have a2 := en_det (en_lnk hx hy hne hq') hqr
  have hpc' := hg.enc hp' hpc
  have hqc' := hg.enc hq' hqc
  have ep : E p p' := h1 p p' hpc hpc' ⟨p', hp', .stop (en_root hp')⟩
  have eq' : E q q' := h1 q q' hqc hqc' ⟨q', hq', .stop (en_root hq')⟩
  by_cases c1 : p' = x
  · by_cases c2 : q' = x
    · rw [c1] at ep; rw [c2] at eq'; exact e3 _ _ _ ep (e2 _ _ eq')
    · rw [if_pos c1] at a1
      rw [if_neg c2] at a2
      rw [c1] at ep hpc'
      rw [a2, ← a1] at eq' hqc'
      exact e3 _ _ _ ep (e3 _ _ _ (hxy hpc' hqc') (e2 _ _ eq'))
  · by_cases c2 : q' = x
    · rw [if_neg c1] at a1
      rw [if_pos c2] at a2
      rw [c2] at eq' hqc'
      rw [a1, ← a2] at ep hpc'
      exact e3 _ _ _ ep (e3 _ _ _ (e2 _ _ (hxy hqc' hpc')) (e2 _ _ eq'))
    · rw [if_neg c1] at a1
      rw [if_neg c2] at a2
      rw [a1] at ep
      rw [a2] at eq'
      exact e3 _ _ _ ep (e2 _ _ eq')
theorem con_not {N : Nds} {x : Nat} {c : UInt8} {ps : List Nat} (h : N x = some (c, ps)) (hv : isV c = true) : ¬ Con N x := by
  rintro ⟨d, qs, h2, h3⟩
  rw [h] at h2
  simp only [Option.some.injEq, Prod.mk.injEq] at h2
  rw [← h2.1, hv] at h3
  simp at h3
theorem isV_len {N : Nds} (hw : Wh N) {x : Nat} {c : UInt8} {ps : List Nat} (h : N x = some (c, ps)) (hv : isV c = true) : ps = [] := by
  have := hw.len x c ps h
  have h0 : ar c = some 0 := by
    simp [isV] at hv
    rcases hv with rfl | rfl | rfl | rfl | rfl | rfl <;> rfl
  rw [h0] at this
  exact List.eq_nil_of_length_eq_zero (by simpa using this.symm)
theorem len_le {N : Nds} (hw : Wh N) {x : Nat} {c : UInt8} {ps : List Nat} (h : N x = some (c, ps)) : ps.length ≤ 2 := by
  have := hw.len x c ps h
  rcases ar_cases c with e | e | e | e <;> rw [e] at this <;> simp at this <;> omega
theorem ug_sw {N : Nds} {cx cy : UInt8} (h : sw cx cy = true) : isV cy = true ∧ sw cy cx = false := by
  unfold sw at *
  cases h1 : isV cx <;> cases h2 : isV cy <;> simp [h1, h2] at h ⊢
  omega
/-- the two nodes are ends, neither is to be exchanged: this is what is done -/
theorem ug_core {N : Nds} (hw : Wh N) {M : Nat} (hM : ∀ n x, N n = some x → n < M) (k : Nat)
    (ih : ∀ j, j < k → ∀ (L : Lks), roots M L = j → GW N L → ∀ a b, (∃ v, N a = some v) → (∃ v, N b = some v) → ∃ r L2, Ug N L a b r L2 ∧ UgPost N M L a b r L2)
    (L : Lks) (hk : roots M L = k) (hg : GW N L) (a b x y : Nat) (ha : ∃ v, N a = some v) (hb : ∃ v, N b = some v) (hax : En L a x) (hby : En L b y) (hne : x ≠ y) {cx cy : UInt8} {ps qs : List Nat} (hx : N x = some (cx, ps)) (hy : N y = some (cy, qs)) (hs : sw cx cy = false) :
    ∃ r L2, Ug N L a b r L2 ∧ UgPost N M L a b r L2 := by
  have rx := en_root hax
  have ry := en_root hby
  have hτ : ∀ τ, Mod N L τ → τ a = τ b → τ x = τ y := fun τ hm e => by rw [← mod_en hm hax, ← mod_en hm hby]; exact e
  by_cases hcl : isV cx = false ∧ cx ≠ cy
  · refine ⟨false, L, .clash hax hby hne hx hy hs hcl.1 hcl.2, hg, Ext.refl _, Nat.le_refl _, fun τ hm e => ?_, fun h => by simp at h, fun h => by simp at h⟩
    have h1 := hτ τ hm e
    have hyv : isV cy = false := by
      unfold sw at hs
      rw [hcl.1] at hs
      simpa using hs
    rw [hm.1 x cx ps hx hcl.1, hm.1 y cy qs hy hyv] at h1
    have := congrArg Ty.head h1
    rw [mk_head, mk_head] at this
    exact absurd this hcl.2
  · have hcx : isV cx = true ∨ cx = cy := by
      cases h : isV cx with
      | true => exact .inl rfl
      | false => exact .inr (Classical.byContradiction fun h2 => hcl ⟨h, h2⟩)
    have hcon : Con N x → Con N y := fun hc => by
      obtain ⟨c, ps', h1, h2⟩ := hc
      rw [hx] at h1
      simp only [Option.some.injEq, Prod.mk.injEq] at h1
      rcases hcx with h | h
      · rw [h1.1, h2] at h; simp at h
      · exact ⟨cy, qs, hy, by rw [← h, h1.1]; exact h2⟩
    have hg1 := gw_lnk hg rx ry hne ⟨_, hx⟩ ⟨_, hy⟩ hcon
    have hx1 := ext_lnk rx y
    have hl1 : roots M (lnk L x y) < k := by rw [← hk]; exact roots_lnk (hM x _ hx) rx
    have hm1 : ∀ τ, Mod N L τ → τ a = τ b → Mod N (lnk L x y) τ := fun τ hm e => mod_lnk hm (hτ τ hm e)
    have he1 := eq_lnk rx ry hne hax hby
    by_cases hpe : ps = []
    · subst hpe
      refine ⟨true, lnk L x y, .con0 hax hby hne hx hy hs hcx, hg1, hx1, by omega, fun τ hm e => ⟨rfl, hm1 τ hm e⟩, fun _ => he1, fun _ => ?_⟩
      intro E e1 e2 e3 h1 h2
      refine cong_lnk hg rx ry hne e2 e3 h1 fun c1 c2 => h2 x y c1 c2 ?_
      have hv : isV cx = false := by
        cases h : isV cx with
        | false => rfl
        | true => exact absurd c1 (con_not hx h)
      rcases hcx with h | h
      · rw [hv] at h; simp at h
      · subst h
        have hq : qs = [] := by
          have q1 := hw.len x _ _ hx
          have q2 := hw.len y _ _ hy
          rw [q1] at q2
          exact List.eq_nil_of_length_eq_zero (by simpa using q2.symm)
        subst hq
        exact ⟨cx, [], [], hx, hy, rfl, fun i a b ha => by simp at ha⟩
    · have hv : isV cx = false := by
        cases h : isV cx with
        | false => rfl
        | true => exact absurd (isV_len hw hx h) hpe
      rcases hcx with h | h
      · rw [hv] at h; simp at h
      subst h
      have hlen : ps.length = qs.length := by
        have q1 := hw.len x _ _ hx
        have q2 := hw.len y _ _ hy
        rw [q1] at q2
        simpa using q2
      have hl2 := len_le hw hx
      have hparts : ∀ τ, Mod N L τ → τ a = τ b → ps.map τ = qs.map τ := fun τ hm e => by
        have h1 := hτ τ hm e
        rw [hm.1 x cx ps hx hv, hm.1 y cx qs hy hv] at h1
        exact (mk_inj (by simpa using hlen) (by simpa using hl2) h1).2
      match ps, qs, hlen, hl2, hpe, hx, hy, hparts with
      | [p], [q], _, _, _, hx, hy, hparts =>
        obtain ⟨r, L2, u1, u2⟩ := ih _ hl1 (lnk L x y) rfl hg1 p q (hw.parts x _ _ hx p (by simp)) (hw.parts y _ _ hy q (by simp))
        refine ⟨r, L2, .con1 hax hby hne hx hy hv u1, u2.gw, hx1.trans u2.ext, by have := u2.less; omega, fun τ hm e => u2.mod τ (hm1 τ hm e) ?_, fun _ => eq_ext u2.ext hg1 u2.gw ha hb he1, fun hr => ?_⟩
        · have := hparts τ hm e; simpa using this
        · intro E e1 e2 e3 h1 h2
          refine u2.cong hr E e1 e2 e3 (cong_lnk hg rx ry hne e2 e3 h1 fun c1 c2 => h2 x y c1 c2 ⟨cx, [p], [q], hx, hy, rfl, fun i a b ha hb => ?_⟩) h2
          rcases i with _ | i
          · simp at ha hb; subst ha hb; exact u2.eq hr
          · simp at ha
      | [p, p2], [q, q2], _, _, _, hx, hy, hparts =>
        obtain ⟨r, L1, u1, u2⟩ := ih _ hl1 (lnk L x y) rfl hg1 p q (hw.parts x _ _ hx p (by simp)) (hw.parts y _ _ hy q (by simp))
        have hpq : ∀ τ, Mod N L τ → τ a = τ b → τ p = τ q ∧ τ p2 = τ q2 := fun τ hm e => by have := hparts τ hm e; simpa using this
        cases r with
        | false =>
          refine ⟨false, L1, .con2f hax hby hne hx hy hv u1, u2.gw, hx1.trans u2.ext, by have := u2.less; omega, fun τ hm e => ?_, fun h => by simp at h, fun h => by simp at h⟩
          have := (u2.mod τ (hm1 τ hm e) (hpq τ hm e).1).1
          simp at this
        | true =>
          have hl2' : roots M L1 < k := by have := u2.less; omega
          obtain ⟨r, L2, v1, v2⟩ := ih _ hl2' L1 rfl u2.gw p2 q2 (hw.parts x _ _ hx p2 (by simp)) (hw.parts y _ _ hy q2 (by simp))
          refine ⟨r, L2, .con2t hax hby hne hx hy hv u1 v1, v2.gw, (hx1.trans u2.ext).trans v2.ext, by have := u2.less; have := v2.less; omega, fun τ hm e => v2.mod τ (u2.mod τ (hm1 τ hm e) (hpq τ hm e).1).2 (hpq τ hm e).2, fun _ => eq_ext (u2.ext.trans v2.ext) hg1 v2.gw ha hb he1, fun hr => ?_⟩
          intro E e1 e2 e3 h1 h2
          have hpn := hw.parts x _ _ hx p (by simp)
          have hqn := hw.parts y _ _ hy q (by simp)
          refine v2.cong hr E e1 e2 e3 (u2.cong rfl E e1 e2 e3 (cong_lnk hg rx ry hne e2 e3 h1 fun c1 c2 => h2 x y c1 c2 ⟨cx, [p, p2], [q, q2], hx, hy, rfl, fun i a b ha hb => ?_⟩) fun p' q' c1 c2 hgd => h2 p' q' c1 c2 (good_ext hw v2.ext u2.gw v2.gw hgd)) h2
          rcases i with _ | _ | i
          · simp at ha hb; subst ha hb; exact eq_ext v2.ext u2.gw v2.gw hpn hqn (u2.eq rfl)
          · simp at ha hb; subst ha hb; exact v2.eq hr
          · simp at ha
      | [], _, _, _, h, _, _, _ => exact absurd rfl h
      | _ :: _ :: _ :: _, _, _, h, _, _, _, _ => simp at h
      | [_], [], h, _, _, _, _, _ => simp at h
      | [_], _ :: _ :: _, h, _, _, _, _, _ => simp at h
      | [_, _], [], h, _, _, _, _, _ => simp at h
      | [_, _], [_], h, _, _, _, _, _ => simp at h
      | [_, _], _ :: _ :: _ :: _, h, _, _, _, _, _ => simp at h
theorem ug_total {N : Nds} (hw : Wh N) {M : Nat} (hM : ∀ n x, N n = some x → n < M) : ∀ (k : Nat) (L : Lks), roots M L = k → GW N L → ∀ a b, (∃ v, N a = some v) → (∃ v, N b = some v) → ∃ r L2, Ug N L a b r L2 ∧ UgPost N M L a b r L2 := by
  intro k
  induction k using Nat.strongRecOn with
  | ind k ih =>
    intro L hk hg a b ha hb
    obtain ⟨va, hva⟩ := ha
    obtain ⟨vb, hvb⟩ := hb
    obtain ⟨x, hax⟩ := hg.ends a va hva
    obtain ⟨y, hby⟩ := hg.ends b vb hvb
    by_cases hne : x = y
    · subst hne
      exact ⟨true, L, .same hax hby, hg, Ext.refl _, Nat.le_refl _, fun τ hm _ => ⟨rfl, hm⟩, fun _ => ⟨x, hax, hby⟩, fun _ => Cong.refl _ _⟩
    · obtain ⟨⟨cx, ps⟩, hx⟩ := hg.en hax ⟨va, hva⟩
      obtain ⟨⟨cy, qs⟩, hy⟩ := hg.en hby ⟨vb, hvb⟩
      cases hs : sw cx cy with
      | false => exact ug_core hw hM k ih L hk hg a b x y ⟨va, hva⟩ ⟨vb, hvb⟩ hax hby hne hx hy hs
      | true =>
        obtain ⟨h1, h2⟩ := ug_sw (N := N) hs
        obtain ⟨r, L2, u1, u2⟩ := ug_core hw hM k ih L hk hg y x y x ⟨_, hy⟩ ⟨_, hx⟩ (.stop (en_root hby)) (.stop (en_root hax)) (fun e => hne e.symm) hy hx h2
        refine ⟨r, L2, .swap hax hby hne hx hy hs u1, u2.gw, u2.ext, u2.less, fun τ hm e => u2.mod τ hm ?_, fun hr => ?_, u2.cong⟩
        · rw [← mod_en hm hax, ← mod_en hm hby]; exact e.symm
        · have hxy := u2.eq hr
          have h3 := eq_ext u2.ext hg u2.gw ⟨va, hva⟩ ⟨_, hx⟩ ⟨x, hax, .stop (en_root hax)⟩
          have h4 := eq_ext u2.ext hg u2.gw ⟨vb, hvb⟩ ⟨_, hy⟩ ⟨y, hby, .stop (en_root hby)⟩
          exact h3.trans (hxy.symm.trans h4.symm)
/-! whether a node stands in itself somewhere below -/
inductive Unf (N : Nds) (L : Lks) : Nat → Ty → Prop
  | var {n r : Nat} {c : UInt8} {ps : List Nat} : En L n r → N r = some (c, ps) → isV c = true → Unf N L n (.leaf 105)
  | n0 {n r : Nat} {c : UInt8} : En L n r → N r = some (c, []) → isV c = false → Unf N L n (.leaf c)
  | n1 {n r p : Nat} {c : UInt8} {t : Ty} : En L n r → N r = some (c, [p]) → isV c = false → Unf N L p t → Unf N L n (.one c t)
  | n2 {n r p q : Nat} {c : UInt8} {t u : Ty} : En L n r → N r = some (c, [p, q]) → isV c = false → Unf N L p t → Unf N L q u → Unf N L n (.two c t u)
def Fin (N : Nds) (L : Lks) (n : Nat) : Prop := ∃ t, Unf N L n t
theorem unf_det {N : Nds} {L : Lks} {n : Nat} {t u : Ty} (h : Unf N L n t) : Unf N L n u → t = u := by
  induction h generalizing u with
  | var h1 h2 h3 => intro k; cases k with
    | var _ _ _ => rfl
    | n0 k1 k2 k3 => rw [← en_det h1 k1, h2] at k2; simp only [Option.some.injEq, Prod.mk.injEq] at k2; rw [k2.1, k3] at h3; simp at h3
    | n1 k1 k2 k3 _ => rw [← en_det h1 k1, h2] at k2; simp only [Option.some.injEq, Prod.mk.injEq] at k2; rw [k2.1, k3] at h3; simp at h3
    | n2 k1 k2 k3 _ _ => rw [← en_det h1 k1, h2] at k2; simp only [Option.some.injEq, Prod.mk.injEq] at k2; rw [k2.1, k3] at h3; simp at h3
  | n0 h1 h2 h3 => intro k; cases k with
    | var k1 k2 k3 => rw [← en_det h1 k1, h2] at k2; simp only [Option.some.injEq, Prod.mk.injEq] at k2; rw [k2.1, k3] at h3; simp at h3
    | n0 k1 k2 k3 => rw [← en_det h1 k1, h2] at k2; simp only [Option.some.injEq, Prod.mk.injEq] at k2; rw [k2.1]
    | n1 k1 k2 k3 _ => rw [← en_det h1 k1, h2] at k2; simp at k2
    | n2 k1 k2 k3 _ _ => rw [← en_det h1 k1, h2] at k2; simp at k2
  | n1 h1 h2 h3 _ ih => intro k; cases k with
    | var k1 k2 k3 => rw [← en_det h1 k1, h2] at k2; simp only [Option.some.injEq, Prod.mk.injEq] at k2; rw [k2.1, k3] at h3; simp at h3
    | n0 k1 k2 k3 => rw [← en_det h1 k1, h2] at k2; simp at k2
    | n1 k1 k2 k3 k4 =>
      rw [← en_det h1 k1, h2] at k2
      simp only [Option.some.injEq, Prod.mk.injEq, List.cons.injEq, and_true] at k2
      obtain ⟨rfl, rfl⟩ := k2
      rw [ih k4]
    | n2 k1 k2 k3 _ _ => rw [← en_det h1 k1, h2] at k2; simp at k2
  | n2 h1 h2 h3 _ _ ih1 ih2 => intro k; cases k with
    | var k1 k2 k3 => rw [← en_det h1 k1, h2] at k2; simp only [Option.some.injEq, Prod.mk.injEq] at k2; rw [k2.1, k3] at h3; simp at h3
    | n0 k1 k2 k3 => rw [← en_det h1 k1, h2] at k2; simp at k2
    | n1 k1 k2 k3 _ => rw [← en_det h1 k1, h2] at k2; simp at k2
    | n2 k1 k2 k3 k4 k5 =>
      rw [← en_det h1 k1, h2] at k2
      simp only [Option.some.injEq, Prod.mk.injEq, List.cons.injEq, and_true] at k2
      obtain ⟨rfl, rfl, rfl⟩ := k2
      rw [ih1 k4, ih2 k5]
theorem unf_end {N : Nds} {L : Lks} {n r : Nat} {t : Ty} (he : En L n r) (h : Unf N L r t) : Unf N L n t := by
  have hr : ∀ x, En L r x → x = r := fun x hx => en_det hx (.stop (en_root he))
  cases h with
  | var h1 h2 h3 => have := hr _ h1; subst this; exact .var he h2 h3
  | n0 h1 h2 h3 => have := hr _ h1; subst this; exact .n0 he h2 h3
  | n1 h1 h2 h3 h4 => have := hr _ h1; subst this; exact .n1 he h2 h3 h4
  | n2 h1 h2 h3 h4 h5 => have := hr _ h1; subst this; exact .n2 he h2 h3 h4 h5
theorem unf_eq {N : Nds} {L : Lks} {p q : Nat} {t : Ty} (h : Eq L p q) (hu : Unf N L p t) : Unf N L q t := by
  obtain ⟨r, a, b⟩ := h
  have hr : ∀ x, En L p x → En L q x := fun x hx => by rw [en_det hx a]; exact b
  cases hu with
  | var h1 h2 h3 => exact .var (hr _ h1) h2 h3
  | n0 h1 h2 h3 => exact .n0 (hr _ h1) h2 h3
  | n1 h1 h2 h3 h4 => exact .n1 (hr _ h1) h2 h3 h4
  | n2 h1 h2 h3 h4 h5 => exact .n2 (hr _ h1) h2 h3 h4 h5
abbrev Set' := Nat → Bool
def put (A : Set') (r : Nat) : Set' := fun n => if n = r then true else A n
theorem put_same (A : Set') (r : Nat) : put A r r = true := by simp [put]
theorem put_ne {A : Set'} {r n : Nat} (h : n ≠ r) : put A r n = A n := by simp [put, h]
/-- the search: none where a node stands in itself, else what has been done -/
inductive Ed (N : Nds) (L : Lks) : Set' → Set' → Nat → Option Set' → Prop
  | above {A D : Set'} {n r : Nat} : En L n r → A r = true → Ed N L A D n none
  | done {A D : Set'} {n r : Nat} : En L n r → A r = false → D r = true → Ed N L A D n (some D)
  | v0 {A D : Set'} {n r : Nat} {c : UInt8} : En L n r → A r = false → D r = false → N r = some (c, []) → Ed N L A D n (some (put D r))
  | v1t {A D : Set'} {n r p : Nat} {c : UInt8} : En L n r → A r = false → D r = false → N r = some (c, [p]) → Ed N L (put A r) D p none → Ed N L A D n none
  | v1f {A D D1 : Set'} {n r p : Nat} {c : UInt8} : En L n r → A r = false → D r = false → N r = some (c, [p]) → Ed N L (put A r) D p (some D1) → Ed N L A D n (some (put D1 r))
  | v2t {A D : Set'} {n r p q : Nat} {c : UInt8} : En L n r → A r = false → D r = false → N r = some (c, [p, q]) → Ed N L (put A r) D p none → Ed N L A D n none
  | v2ft {A D D1 : Set'} {n r p q : Nat} {c : UInt8} : En L n r → A r = false → D r = false → N r = some (c, [p, q]) → Ed N L (put A r) D p (some D1) → Ed N L (put A r) D1 q none → Ed N L A D n none
  | v2ff {A D D1 D2 : Set'} {n r p q : Nat} {c : UInt8} : En L n r → A r = false → D r = false → N r = some (c, [p, q]) → Ed N L (put A r) D p (some D1) → Ed N L (put A r) D1 q (some D2) → Ed N L A D n (some (put D2 r))
def EdPost (N : Nds) (L : Lks) (A D : Set') (n : Nat) : Option Set' → Prop
  | some D' => (∀ r, D r = true → Fin N L r) → (∀ r, D' r = true → Fin N L r) ∧ Fin N L n
  | none => ∀ τ, Mod N L τ → (∀ r, A r = true → (τ n).size < (τ r).size) → False
/-- how many nodes below M are not above -/
def lefts (M : Nat) (A : Set') : Nat := ((List.range M).filter fun n => !A n).length
theorem lefts_put {M : Nat} {A : Set'} {r : Nat} (hx : r < M) (hl : A r = false) : lefts M (put A r) < lefts M A := by
  unfold lefts
  have key : ∀ l : List Nat, (l.filter fun n => !put A r n).length ≤ (l.filter fun n => !A n).length ∧ (r ∈ l → (l.filter fun n => !put A r n).length < (l.filter fun n => !A n).length) := by
    intro l
    induction l with
    | nil => simp
    | cons c l ih =>
      obtain ⟨i1, i2⟩ := ih
      by_cases e : c = r
      · subst e
        simp only [List.filter_cons, put_same, hl]
        simp
        omega
      · simp only [List.filter_cons, put_ne e]
        constructor
        · cases A c <;> simp <;> omega
        · intro h
          rcases List.mem_cons.1 h with h | h
          · exact absurd h.symm e
          · have := i2 h
            cases A c <;> simp <;> omega
  exact (key _).2 (List.mem_range.2 hx)
theorem mk_size {c : UInt8} {ps : List Ty} {p : Ty} (hl : ps.length ≤ 2) (hp : p ∈ ps) : p.size < (mk c ps).size := by
  match ps, hl, hp with
  | [a], _, hp => simp at hp; subst hp; simp [mk, Ty.size]
  | [a, b], _, hp => simp at hp; rcases hp with rfl | rfl <;> simp [mk, Ty.size] <;> omega
  | _ :: _ :: _ :: _, h, _ => simp at h
theorem ed_total {N : Nds} {L : Lks} (hw : Wh N) (hg : GW N L) {M : Nat} (hM : ∀ n x, N n = some x → n < M) : ∀ (k : Nat) (A D : Set'), lefts M A = k → ∀ n, (∃ v, N n = some v) → ∃ o, Ed N L A D n o ∧ EdPost N L A D n o := by
  intro k
  induction k using Nat.strongRecOn with
  | ind k ih =>
    intro A D hk n ⟨v, hn⟩
    obtain ⟨r, hr⟩ := hg.ends n v hn
    obtain ⟨⟨c, ps⟩, hrn⟩ := hg.en hr ⟨v, hn⟩
    cases hA : A r with
    | true => exact ⟨none, .above hr hA, fun τ hm h => by have := h r hA; rw [mod_en hm hr] at this; omega⟩
    | false =>
      cases hD : D r with
      | true =>
        refine ⟨some D, .done hr hA hD, fun h => ⟨h, ?_⟩⟩
        obtain ⟨t, ht⟩ := h r hD
        exact ⟨t, unf_end hr ht⟩
      | false =>
        have hlt : lefts M (put A r) < k := by rw [← hk]; exact lefts_put (hM r _ hrn) hA
        -- a model makes each part smaller than all that is above
        have hup : ∀ p ∈ ps, ∀ τ, Mod N L τ → (∀ r, A r = true → (τ n).size < (τ r).size) → ∀ r', put A r r' = true → (τ p).size < (τ r').size := fun p hp τ hm h r' hr' => by
          have hv : isV c = false := by
            cases h : isV c with
            | false => rfl
            | true => rw [isV_len hw hrn h] at hp; simp at hp
          have h1 : (τ p).size < (τ r).size := by
            rw [hm.1 r c ps hrn hv]
            exact mk_size (by simpa using len_le hw hrn) (List.mem_map.2 ⟨p, hp, rfl⟩)
          unfold put at hr'
          split at hr'
          · rename_i e; rw [e]; exact h1
          · have h2 := h r' hr'
            rw [mod_en hm hr] at h2
            omega
        have hfin : ∀ D', (∀ r, D' r = true → Fin N L r) → Fin N L n → ∀ r', put D' r r' = true → Fin N L r' := fun D' h hf r' hr' => by
          unfold put at hr'
          split at hr'
          · rename_i e
            obtain ⟨t, ht⟩ := hf
            rw [e]
            exact ⟨t, unf_eq ⟨r, hr, .stop (en_root hr)⟩ ht⟩
          · exact h r' hr'
        match ps, hrn, len_le hw hrn, hup with
        | [], hrn, _, _ =>
          refine ⟨_, .v0 hr hA hD hrn, fun h => ?_⟩
          have hf : Fin N L n := by
            cases hv : isV c with
            | true => exact ⟨_, .var hr hrn hv⟩
            | false => exact ⟨_, .n0 hr hrn hv⟩
          exact ⟨hfin D h hf, hf⟩
        | [p], hrn, _, hup =>
          have hv : isV c = false := by
            cases h : isV c with
            | false => rfl
            | true => have := isV_len hw hrn h; simp at this
          obtain ⟨o, q1, q2⟩ := ih _ hlt (put A r) D rfl p (hw.parts r _ _ hrn p (by simp))
          cases o with
          | none => exact ⟨none, .v1t hr hA hD hrn q1, fun τ hm h => q2 τ hm (hup p (by simp) τ hm h)⟩
          | some D1 =>
            refine ⟨_, .v1f hr hA hD hrn q1, fun h => ?_⟩
            obtain ⟨h1, t, ht⟩ := q2 h
            have hf : Fin N L n := ⟨_, .n1 hr hrn hv ht⟩
            exact ⟨hfin D1 h1 hf, hf⟩
        | [p, q], hrn, _, hup =>
          have hv : isV c = false := by
            cases h : isV c with
            | false => rfl
            | true => have := isV_len hw hrn h; simp at this
          obtain ⟨o, q1, q2⟩ := ih _ hlt (put A r) D rfl p (hw.parts r _ _ hrn p (by simp))
          cases o with
          | none => exact ⟨none, .v2t hr hA hD hrn q1, fun τ hm h => q2 τ hm (hup p (by simp) τ hm h)⟩
          | some D1 =>
            obtain ⟨o, q3, q4⟩ := ih _ hlt (put A r) D1 rfl q (hw.parts r _ _ hrn q (by simp))
            cases o with
            | none => exact ⟨none, .v2ft hr hA hD hrn q1 q3, fun τ hm h => q4 τ hm (hup q (by simp) τ hm h)⟩
            | some D2 =>
              refine ⟨_, .v2ff hr hA hD hrn q1 q3, fun h => ?_⟩
              obtain ⟨h1, t, ht⟩ := q2 h
              obtain ⟨h2, u, hu⟩ := q4 h1
              have hf : Fin N L n := ⟨_, .n2 hr hrn hv ht hu⟩
              exact ⟨hfin D2 h2 hf, hf⟩
        | _ :: _ :: _ :: _, _, h, _ => simp at h
end GraP
end Go.Proofs.Ytcjalnianamlaaa
