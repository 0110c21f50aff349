/- How dictionaries lie in memory, for the program and for the reference, and that they stay there. Conditions: none. -/
import Derived.Test.YtaapdhacnbhohaaDoorReg
import Derived.Test.YtaapdhacnbhohaaDoorDt
import Derived.Deep.Draws
set_option linter.unusedVariables false
set_option linter.unusedSimpArgs false
set_option maxRecDepth 100000
namespace Go.Proofs.YtaapdhacnbhohaaDoor
open Go.RowKit Dt

/-- the number of a letter, as the programs read it -/
def dv (c : UInt8) : Int := (c.toNat : Int) - 48

/-- the blocks of P lie unturned -/
def KeepsP (P : Nat → Prop) (w w' : World) : Prop := ∀ k, P k → k < w.heap.size → w'.heap[k]? = w.heap[k]?
theorem KeepsP.refl (P : Nat → Prop) (w : World) : KeepsP P w w := fun _ _ _ => rfl
theorem KeepsP.trans {P : Nat → Prop} {a b c : World} (h : KeepsP P a b) (h' : KeepsP P b c) (hs : a.heap.size ≤ b.heap.size) : KeepsP P a c := fun k hp hk => (h' k hp (by omega)).trans (h k hp hk)
theorem keepsP_grown {P : Nat → Prop} {w w' : World} {row : Option Nat} (h : w.grownBy w' row) (hr : ∀ k, row = some k → ¬ P k) : KeepsP P w w' := fun k hp hk => h.block k hk (fun e => hr k e.symm hp)
theorem keepsP_below {P : Nat → Prop} {w w' : World} {B : Nat} (h : Below B w w') (hB : w.heap.size ≤ B) : KeepsP P w w' := fun k hp hk => h.block k (by omega)
theorem keepsP_alloc {P : Nat → Prop} (w : World) (o : Obj) : KeepsP P w (w.alloc o) := fun k _ hk => Below.heap_alloc _ _ _ hk
theorem keepsP_set {P : Nat → Prop} (w : World) (a : Addr) (u : Value) (h : ¬ P a.block) : KeepsP P w (w.setCell a u) := fun k hp hk => Below.heap_setCell _ _ _ _ (fun e => h (by rw [← e]; exact hp))
theorem keepsP_drewN {P : Nat → Prop} (w : World) (n : Nat) : KeepsP P w (w.drewN n) := fun _ _ _ => rfl
theorem keepsP_of {P : Nat → Prop} {lo : Nat} {w w' : World} (h : Keeps lo w w') (hP : ∀ k, P k → lo ≤ k) : KeepsP P w w' := fun k hp hk => h k (hP k hp) hk

/-- a row whose block is one of P -/
def rowP (P : Nat → Prop) (w : World) (e : TypeId) (size : Nat) (v : Value) (n : Nat) (xs : List Value) : Prop := w.ownsRow 0 e size v n xs ∧ ∀ g, v.ownBlock = some g → P g
theorem row_own {w : World} {base : Nat} {e : TypeId} {size : Nat} {v : Value} {n : Nat} {xs : List Value} (h : w.ownsRow base e size v n xs) : ∀ g, v.ownBlock = some g → base ≤ g ∧ g < w.heap.size := by
  intro g hv
  rcases h.2 with ⟨rfl, _⟩ | ⟨g', cap, cur, rfl, hb, hg, _⟩
  · simp [Value.ownBlock] at hv
  · simp [Value.ownBlock] at hv
    subst hv
    exact ⟨hb, lt_of_heap hg⟩
theorem row_slice {w : World} {base : Nat} {e : TypeId} {size : Nat} {v : Value} {n : Nat} {xs : List Value} (h : w.ownsRow base e size v n xs) : ∃ a cap, v = .slice a n cap ∧ (∀ p, a = some p → ∃ g, p = ⟨g, 0, none⟩) := by
  rcases h.2 with ⟨rfl, rfl⟩ | ⟨g', cap, cur, rfl, hb, hg, hx⟩
  · exact ⟨none, 0, by have := h.1; simp at this; subst this; rfl, fun p h => by cases h⟩
  · exact ⟨some ⟨g', 0, none⟩, cap, rfl, fun p h => by cases h; exact ⟨g', rfl⟩⟩
theorem row_keptP {P : Nat → Prop} {w w' : World} (h : KeepsP P w w') {base : Nat} {e : TypeId} {size : Nat} {v : Value} {n : Nat} {xs : List Value} (ho : w.ownsRow base e size v n xs) (hv : ∀ g, v.ownBlock = some g → P g) : w'.ownsRow base e size v n xs := by
  refine ⟨ho.1, ?_⟩
  rcases ho.2 with hn | ⟨g, cap, cur, rfl, hb, hgg, rest⟩
  · exact .inl hn
  · exact .inr ⟨g, cap, cur, rfl, hb, (h g (hv g (by simp [Value.ownBlock])) (lt_of_heap hgg)).trans hgg, rest⟩
theorem KeepsP.rowP {P : Nat → Prop} {w w' : World} (h : KeepsP P w w') {e : TypeId} {size : Nat} {v : Value} {n : Nat} {xs : List Value} (ho : rowP P w e size v n xs) : rowP P w' e size v n xs :=
  ⟨row_keptP h ho.1 ho.2, ho.2⟩
theorem rowP.mono {P P' : Nat → Prop} {w : World} (hP : ∀ k, k < w.heap.size → P k → P' k) {e : TypeId} {size : Nat} {v : Value} {n : Nat} {xs : List Value} (ho : rowP P w e size v n xs) : rowP P' w e size v n xs :=
  ⟨ho.1, fun g hg => hP g (row_own ho.1 g hg).2 (ho.2 g hg)⟩
theorem rowP_of {P : Nat → Prop} {w : World} {base : Nat} {e : TypeId} {size : Nat} {v : Value} {n : Nat} {xs : List Value} (ho : w.ownsRow base e size v n xs) (hP : ∀ g, v.ownBlock = some g → P g) : rowP P w e size v n xs := ⟨row_mono ho (Nat.zero_le _), hP⟩

/-- the pointers vs lead to the program's nodes of a forest, all of them among P -/
def IDs (P : Nat → Prop) (w : World) : F → List Value → Prop
  | .nil, vs => vs = []
  | .cons c k r, vs => ∃ b v ps rest, vs = .pointer (some ⟨b, 0, none⟩) :: rest ∧ P b ∧ w.heap[b]? = some (.cells #[.int .i64 (dv c), v] 81 (0, 0)) ∧ rowP P w 77 1 v k.len ps ∧ IDs P w k ps ∧ IDs P w r rest

/-- block b is the program's node of a dictionary -/
def ID (P : Nat → Prop) (w : World) (c : UInt8) (k : F) (b : Nat) : Prop := ∃ v ps, P b ∧ w.heap[b]? = some (.cells #[.int .i64 (dv c), v] 81 (0, 0)) ∧ rowP P w 77 1 v k.len ps ∧ IDs P w k ps

/-- the cells vs are the reference's nodes of a forest -/
def SDs (P : Nat → Prop) (w : World) : F → List Value → Prop
  | .nil, vs => vs = []
  | .cons c k r, vs => ∃ v ps rest, vs = .int .i64 (dv c) :: v :: rest ∧ rowP P w 85 2 v k.len ps ∧ SDs P w k ps ∧ SDs P w r rest

/-- the two cells of the reference's node -/
def SD (P : Nat → Prop) (w : World) (c : UInt8) (k : F) (h s : Value) : Prop := h = .int .i64 (dv c) ∧ ∃ ps, rowP P w 85 2 s k.len ps ∧ SDs P w k ps

theorem KeepsP.ids {P : Nat → Prop} {w w' : World} (h : KeepsP P w w') : ∀ {f : F} {vs : List Value}, IDs P w f vs → IDs P w' f vs := by
  intro f
  induction f with
  | nil => intro vs h; exact h
  | cons c k r ih1 ih2 => intro vs ⟨b, v, ps, rest, e, h0, h1, h2, h3, h4⟩; exact ⟨b, v, ps, rest, e, h0, (h b h0 (lt_of_heap h1)).trans h1, h.rowP h2, ih1 h3, ih2 h4⟩
theorem IDs.mono {P P' : Nat → Prop} {w : World} (hl : ∀ k, k < w.heap.size → P k → P' k) : ∀ {f : F} {vs : List Value}, IDs P w f vs → IDs P' w f vs := by
  intro f
  induction f with
  | nil => intro vs h; exact h
  | cons c k r ih1 ih2 => intro vs ⟨b, v, ps, rest, e, h0, h1, h2, h3, h4⟩; exact ⟨b, v, ps, rest, e, hl b (lt_of_heap h1) h0, h1, h2.mono hl, ih1 h3, ih2 h4⟩
theorem IDs.app {P : Nat → Prop} {w : World} {f g : F} : ∀ {vs us : List Value}, IDs P w f vs → IDs P w g us → IDs P w (f.app g) (vs ++ us) := by
  induction f with
  | nil => intro vs us h h'; obtain rfl : vs = [] := h; exact h'
  | cons c k r ih1 ih2 => intro vs us ⟨b, v, ps, rest, e, h0, h1, h2, h3, h4⟩ h'; subst e; exact ⟨b, v, ps, rest ++ us, rfl, h0, h1, h2, h3, ih2 h4 h'⟩
theorem IDs.length {P : Nat → Prop} {w : World} {f : F} : ∀ {vs : List Value}, IDs P w f vs → vs.length = f.len := by
  induction f with
  | nil => intro vs h; obtain rfl : vs = [] := h; rfl
  | cons c k r ih1 ih2 => intro vs ⟨b, v, ps, rest, e, h0, h1, h2, h3, h4⟩; subst e; simp [F.len, ih2 h4]
theorem ID.one {P : Nat → Prop} {w : World} {c : UInt8} {k : F} {b : Nat} (h : ID P w c k b) : IDs P w (.cons c k .nil) [.pointer (some ⟨b, 0, none⟩)] := by
  obtain ⟨v, ps, h0, h1, h2, h3⟩ := h
  exact ⟨b, v, ps, [], rfl, h0, h1, h2, h3, rfl⟩
theorem KeepsP.id {P : Nat → Prop} {w w' : World} (h : KeepsP P w w') {c : UInt8} {k : F} {b : Nat} (hd : ID P w c k b) : ID P w' c k b := by
  obtain ⟨v, ps, h0, h1, h2, h3⟩ := hd
  exact ⟨v, ps, h0, (h b h0 (lt_of_heap h1)).trans h1, h.rowP h2, h.ids h3⟩
theorem ID.mono {P P' : Nat → Prop} {w : World} (hl : ∀ k, k < w.heap.size → P k → P' k) {c : UInt8} {k : F} {b : Nat} (h : ID P w c k b) : ID P' w c k b := by
  obtain ⟨v, ps, h0, h1, h2, h3⟩ := h
  exact ⟨v, ps, hl b (lt_of_heap h1) h0, h1, h2.mono hl, h3.mono hl⟩
theorem ID.lt {P : Nat → Prop} {w : World} {c : UInt8} {k : F} {b : Nat} (h : ID P w c k b) : b < w.heap.size := by obtain ⟨v, ps, h0, h1, _⟩ := h; exact lt_of_heap h1
theorem IDs.at {P : Nat → Prop} {w : World} {c : UInt8} {k : F} : ∀ {f g : F} {vs : List Value}, IDs P w (f.app (.cons c k g)) vs → ∃ b, vs[f.len]? = some (.pointer (some ⟨b, 0, none⟩)) ∧ ID P w c k b := by
  intro f
  induction f with
  | nil => intro g vs ⟨b, v, ps, rest, e, h0, h1, h2, h3, h4⟩; subst e; exact ⟨b, by simp [F.len], v, ps, h0, h1, h2, h3⟩
  | cons c k r ih1 ih2 => intro g vs ⟨b, v, ps, rest, e, h0, h1, h2, h3, h4⟩; subst e; simpa [F.len] using ih2 h4

theorem KeepsP.sds {P : Nat → Prop} {w w' : World} (h : KeepsP P w w') : ∀ {f : F} {vs : List Value}, SDs P w f vs → SDs P w' f vs := by
  intro f
  induction f with
  | nil => intro vs h; exact h
  | cons c k r ih1 ih2 => intro vs ⟨v, ps, rest, e, h2, h3, h4⟩; exact ⟨v, ps, rest, e, h.rowP h2, ih1 h3, ih2 h4⟩
theorem SDs.mono {P P' : Nat → Prop} {w : World} (hl : ∀ k, k < w.heap.size → P k → P' k) : ∀ {f : F} {vs : List Value}, SDs P w f vs → SDs P' w f vs := by
  intro f
  induction f with
  | nil => intro vs h; exact h
  | cons c k r ih1 ih2 => intro vs ⟨v, ps, rest, e, h2, h3, h4⟩; exact ⟨v, ps, rest, e, h2.mono hl, ih1 h3, ih2 h4⟩
theorem SDs.app {P : Nat → Prop} {w : World} {f g : F} : ∀ {vs us : List Value}, SDs P w f vs → SDs P w g us → SDs P w (f.app g) (vs ++ us) := by
  induction f with
  | nil => intro vs us h h'; obtain rfl : vs = [] := h; exact h'
  | cons c k r ih1 ih2 => intro vs us ⟨v, ps, rest, e, h2, h3, h4⟩ h'; subst e; exact ⟨v, ps, rest ++ us, rfl, h2, h3, ih2 h4 h'⟩
theorem SDs.length {P : Nat → Prop} {w : World} {f : F} : ∀ {vs : List Value}, SDs P w f vs → vs.length = f.len * 2 := by
  induction f with
  | nil => intro vs h; obtain rfl : vs = [] := h; rfl
  | cons c k r ih1 ih2 => intro vs ⟨v, ps, rest, e, h2, h3, h4⟩; subst e; simp [F.len, ih2 h4]; omega
theorem SD.one {P : Nat → Prop} {w : World} {c : UInt8} {k : F} {h s : Value} (hs : SD P w c k h s) : SDs P w (.cons c k .nil) [h, s] := by
  obtain ⟨rfl, ps, h2, h3⟩ := hs
  exact ⟨s, ps, [], rfl, h2, h3, rfl⟩
theorem KeepsP.sd {P : Nat → Prop} {w w' : World} (h : KeepsP P w w') {c : UInt8} {k : F} {a s : Value} (hd : SD P w c k a s) : SD P w' c k a s := by
  obtain ⟨e, ps, h2, h3⟩ := hd
  exact ⟨e, ps, h.rowP h2, h.sds h3⟩
theorem SD.mono {P P' : Nat → Prop} {w : World} (hl : ∀ k, k < w.heap.size → P k → P' k) {c : UInt8} {k : F} {a s : Value} (hd : SD P w c k a s) : SD P' w c k a s := by
  obtain ⟨e, ps, h2, h3⟩ := hd
  exact ⟨e, ps, h2.mono hl, h3.mono hl⟩
theorem SD.form {P : Nat → Prop} {w : World} {c : UInt8} {k : F} {a s : Value} (hd : SD P w c k a s) : a = .int .i64 (dv c) ∧ ∃ p n cap, s = .slice p n cap := by
  obtain ⟨e, ps, h2, h3⟩ := hd
  obtain ⟨p, cap, rfl, _⟩ := row_slice h2.1
  exact ⟨e, _, _, _, rfl⟩
theorem SDs.at {P : Nat → Prop} {w : World} {c : UInt8} {k : F} : ∀ {f g : F} {vs : List Value}, SDs P w (f.app (.cons c k g)) vs → ∃ h s, vs[f.len * 2]? = some h ∧ vs[f.len * 2 + 1]? = some s ∧ SD P w c k h s := by
  intro f
  induction f with
  | nil => intro g vs ⟨v, ps, rest, e, h2, h3, h4⟩; subst e; exact ⟨_, v, by simp [F.len], by simp [F.len], rfl, ps, h2, h3⟩
  | cons c k r ih1 ih2 =>
    intro g vs ⟨v, ps, rest, e, h2, h3, h4⟩
    subst e
    obtain ⟨h, s, e1, e2, e3⟩ := ih2 h4
    refine ⟨h, s, ?_, ?_, e3⟩
    · have : (F.cons c k r).len * 2 = r.len * 2 + 1 + 1 := by simp [F.len]; omega
      rw [this]; simpa using e1
    · have : (F.cons c k r).len * 2 + 1 = r.len * 2 + 1 + 1 + 1 := by simp [F.len]; omega
      rw [this]; simpa using e2

/-- the blocks of a call's own from lo on but a row's -/
def ex (lo : Nat) (v : Value) (k : Nat) : Prop := lo ≤ k ∧ v.ownBlock ≠ some k
/-- the parts so far and their row, one more part pushed: w0 before the part is read, w1 behind it, w2 behind the append -/
theorem ids_push {lo : Nat} {w0 w1 w1' w2 : World} {v v' : Value} {A : F} {ps : List Value} {c : UInt8} {k : F} {b : Nat}
    (hA : IDs (ex lo v) w0 A ps) (hv : ∀ g, v.ownBlock = some g → g < w0.heap.size) (hb : Below w0.heap.size w0 w1) (hk : ID (fun k => w0.heap.size ≤ k) w1 c k b) (hl : lo ≤ w0.heap.size)
    (ha : KeepsP (fun _ => True) w1 w1') (hz : w1.heap.size ≤ w1'.heap.size) (hg : w1'.grownBy w2 v.ownBlock) (hlie : ∀ g, v'.ownBlock = some g → v.ownBlock = some g ∨ w1'.heap.size ≤ g) :
    IDs (ex lo v') w2 (A.app (.cons c k .nil)) (ps ++ [.pointer (some ⟨b, 0, none⟩)]) := by
  have hs := hb.size
  have k1 : KeepsP (ex lo v) w1' w2 := keepsP_grown hg (fun k hk h => h.2 hk)
  refine IDs.app ?_ ?_
  · have h1 : IDs (ex lo v) w1' A ps := KeepsP.ids (fun k _ hk => ha k trivial hk) (KeepsP.ids (keepsP_below hb (Nat.le_refl _)) hA)
    have h0 : IDs (fun k => ex lo v k ∧ k < w0.heap.size) w0 A ps := hA.mono (fun k hk h => ⟨h, hk⟩)
    have h2 : IDs (fun k => ex lo v k ∧ k < w0.heap.size) w2 A ps := by
      refine KeepsP.ids (w := w0) ?_ h0
      intro k hp hk
      rw [k1 k hp.1 (by omega), ha k trivial (by omega), hb.block k hk]
    exact h2.mono (fun k hk h => ⟨h.1.1, fun e => by rcases hlie k e with h3 | h3; exact h.1.2 h3; omega⟩)
  · have h0 : ID (fun k => w0.heap.size ≤ k ∧ k < w1.heap.size) w1 c k b := hk.mono (fun k hk h => ⟨h, hk⟩)
    have h2 : ID (fun k => w0.heap.size ≤ k ∧ k < w1.heap.size) w2 c k b := by
      refine KeepsP.id (w := w1) ?_ h0
      intro k hp hk
      rw [hg.block k (by omega) (fun e => by have := hv k e.symm; omega), ha k trivial (by omega)]
    exact (h2.mono (fun k hk h => ⟨by omega, fun e => by rcases hlie k e with h3 | h3; have := hv k h3; omega; omega⟩)).one
theorem sds_push {lo : Nat} {w0 w1 w1' w2 : World} {v v' : Value} {A : F} {ps : List Value} {c : UInt8} {k : F} {h s : Value} {row : Option Nat}
    (hA : SDs (ex lo v) w0 A ps) (hv : ∀ g, v.ownBlock = some g → g < w0.heap.size) (hb : w0.grownBy w1 row) (hr : ∀ g, row = some g → g < lo) (hk : SD (fun k => w0.heap.size ≤ k) w1 c k h s) (hl : lo ≤ w0.heap.size)
    (ha : KeepsP (fun _ => True) w1 w1') (hz : w1.heap.size ≤ w1'.heap.size) (hg : w1'.grownBy w2 v.ownBlock) (hlie : ∀ g, v'.ownBlock = some g → v.ownBlock = some g ∨ w1'.heap.size ≤ g) :
    SDs (ex lo v') w2 (A.app (.cons c k .nil)) (ps ++ [h, s]) := by
  have hs := hb.size
  have k1 : KeepsP (ex lo v) w1' w2 := keepsP_grown hg (fun k hk h => h.2 hk)
  refine SDs.app ?_ ?_
  · have h0 : SDs (fun k => ex lo v k ∧ k < w0.heap.size) w0 A ps := hA.mono (fun k hk h => ⟨h, hk⟩)
    have h2 : SDs (fun k => ex lo v k ∧ k < w0.heap.size) w2 A ps := by
      refine KeepsP.sds (w := w0) ?_ h0
      intro k hp hk
      rw [k1 k hp.1 (by omega), ha k trivial (by omega), hb.block k hk (fun e => by have := hr k e.symm; have := hp.1.1; omega)]
    exact h2.mono (fun k hk h => ⟨h.1.1, fun e => by rcases hlie k e with h3 | h3; exact h.1.2 h3; omega⟩)
  · have h0 : SD (fun k => w0.heap.size ≤ k ∧ k < w1.heap.size) w1 c k h s := hk.mono (fun k hk h => ⟨h, hk⟩)
    have h2 : SD (fun k => w0.heap.size ≤ k ∧ k < w1.heap.size) w2 c k h s := by
      refine KeepsP.sd (w := w1) ?_ h0
      intro k hp hk
      rw [hg.block k (by omega) (fun e => by have := hv k e.symm; omega), ha k trivial (by omega)]
    exact (h2.mono (fun k hk h => ⟨by omega, fun e => by rcases hlie k e with h3 | h3; have := hv k h3; omega; omega⟩)).one

end Go.Proofs.YtaapdhacnbhohaaDoor
