/- MakeType of both sides. Conditions: texts of at most 2^20 bytes together. -/
import Derived.Test.YtcjalnianamlaaaText
set_option linter.unusedVariables false
set_option linter.unusedSimpArgs false
set_option maxRecDepth 100000
namespace Go.Proofs.Ytcjalnianamlaaa
open Go.RowKit Ty ListS Parts Go.Proofs.Ytcjalnianamlaaa.Text
namespace MkType
/-! blocks of a predicate that lie unturned -/
def KeepsP (P : Nat → Prop) (w w' : World) : Prop := ∀ k, P k → k < w.heap.size → w'.heap[k]? = w.heap[k]?
theorem KeepsP.trans {P : Nat → Prop} {a b c : World} (h : KeepsP P a b) (h' : KeepsP P b c) (hs : a.heap.size ≤ b.heap.size) : KeepsP P a c := fun k hp hk => (h' k hp (by omega)).trans (h k hp hk)
theorem keepsP_below {P : Nat → Prop} {w w' : World} {B : Nat} (h : Below B w w') (hB : w.heap.size ≤ B) : KeepsP P w w' := fun k hp hk => h.block k (by omega)
theorem keepsP_alloc {P : Nat → Prop} (w : World) (o : Obj) : KeepsP P w (w.alloc o) := fun k _ hk => Below.heap_alloc _ _ _ hk
theorem keepsP_set {P : Nat → Prop} (w : World) (a : Addr) (u : Value) (h : ¬ P a.block) : KeepsP P w (w.setCell a u) := fun k hp hk => Below.heap_setCell _ _ _ _ (fun e => h (by rw [← e]; exact hp))
theorem keepsP_grown {P : Nat → Prop} {w w' : World} {row : Option Nat} (h : w.grownBy w' row) (hr : ∀ k, row = some k → ¬ P k) : KeepsP P w w' := fun k hp hk => h.block k hk (fun e => hr k e.symm hp)
/-- a reference's node that lies in blocks of P: it is there in each world that keeps these -/
def SR (P : Nat → Prop) (w : World) (t : Ty) (h s : Value) : Prop := ∀ w', KeepsP P w w' → w.heap.size ≤ w'.heap.size → SNode 0 w' t h s
theorem SR.here {P : Nat → Prop} {w : World} {t : Ty} {h s : Value} (hs : SR P w t h s) : SNode 0 w t h s := hs w (fun _ _ _ => rfl) (Nat.le_refl _)
theorem SR.keep {P : Nat → Prop} {w w' : World} {t : Ty} {h s : Value} (hs : SR P w t h s) (hk : KeepsP P w w') (hz : w.heap.size ≤ w'.heap.size) : SR P w' t h s := fun w2 h2 z2 => hs w2 (hk.trans h2 hz) (by omega)
theorem SR.mono {P P' : Nat → Prop} {w : World} {t : Ty} {h s : Value} (hs : SR P w t h s) (hP : ∀ k, k < w.heap.size → P k → P' k) : SR P' w t h s := fun w2 h2 z2 => hs w2 (fun k hp hk => h2 k (hP k hk hp) hk) z2
theorem SR.of {lo : Nat} {w : World} {t : Ty} {h s : Value} (hs : SNode lo w t h s) : SR (fun k => lo ≤ k ∧ k < w.heap.size) w t h s := fun w2 h2 z2 => (Keeps.snode (fun k h1 hk => h2 k ⟨h1, hk⟩ hk) hs).mono (Nat.zero_le _)
/-- the nodes of types, in order -/
def SNs (P : Nat → Prop) (w : World) : List Ty → List Value → Prop
  | [], vs => vs = []
  | t :: ts, vs => ∃ h s rest, vs = h :: s :: rest ∧ SR P w t h s ∧ SNs P w ts rest
theorem SNs.keep {P : Nat → Prop} {w w' : World} (hk : KeepsP P w w') (hz : w.heap.size ≤ w'.heap.size) : ∀ {ts : List Ty} {vs : List Value}, SNs P w ts vs → SNs P w' ts vs := by
  intro ts
  induction ts with
  | nil => intro vs h; exact h
  | cons t ts ih => intro vs ⟨h, s, rest, e, h1, h2⟩; exact ⟨h, s, rest, e, h1.keep hk hz, ih h2⟩
theorem SNs.mono {P P' : Nat → Prop} {w : World} (hP : ∀ k, k < w.heap.size → P k → P' k) : ∀ {ts : List Ty} {vs : List Value}, SNs P w ts vs → SNs P' w ts vs := by
  intro ts
  induction ts with
  | nil => intro vs h; exact h
  | cons t ts ih => intro vs ⟨h, s, rest, e, h1, h2⟩; exact ⟨h, s, rest, e, h1.mono hP, ih h2⟩
theorem SNs.app {P : Nat → Prop} {w : World} {t : Ty} {h s : Value} (hs : SR P w t h s) : ∀ {ts : List Ty} {vs : List Value}, SNs P w ts vs → SNs P w (ts ++ [t]) (vs ++ [h, s]) := by
  intro ts
  induction ts with
  | nil => intro vs hv; obtain rfl : vs = [] := hv; exact ⟨h, s, [], rfl, hs, rfl⟩
  | cons t' ts ih => intro vs ⟨h', s', rest, e, h1, h2⟩; subst e; exact ⟨h', s', rest ++ [h, s], rfl, h1, ih h2⟩
/-- the blocks from lo on but a row's -/
def ex (lo : Nat) (v : Value) (k : Nat) : Prop := lo ≤ k ∧ v.ownBlock ≠ some k
theorem sns_push {lo : Nat} {w0 w1 w1' w2 : World} {v v' : Value} {A : List Ty} {ps : List Value} {t : Ty} {h s : Value}
    (hA : SNs (ex lo v) w0 A ps) (hv : ∀ g, v.ownBlock = some g → g < w0.heap.size) (hb : Below w0.heap.size w0 w1) (hk : SNode w0.heap.size w1 t h s) (hl : lo ≤ w0.heap.size)
    (ha : KeepsP (fun _ => True) w1 w1') (hz : w1.heap.size ≤ w1'.heap.size) (hg : w1'.grownBy w2 v.ownBlock) (hlie : ∀ g, v'.ownBlock = some g → v.ownBlock = some g ∨ w1'.heap.size ≤ g) :
    SNs (ex lo v') w2 (A ++ [t]) (ps ++ [h, s]) := by
  have hs := hb.size
  have hs2 := hg.size
  refine SNs.app ?_ ?_
  · have h0 := SR.of hk
    have h2 : SR (fun k => w0.heap.size ≤ k ∧ k < w1.heap.size) w2 t h s := h0.keep (fun k hp hk => by
      rw [hg.block k (by omega) (fun e => by have := hv k e.symm; omega), ha k trivial (by omega)]) (by omega)
    exact h2.mono (fun k hk h => ⟨by omega, fun e => by rcases hlie k e with h3 | h3; have := hv k h3; omega; omega⟩)
  · have h0 : SNs (fun k => ex lo v k ∧ k < w0.heap.size) w0 A ps := hA.mono (fun k hk h => ⟨h, hk⟩)
    have h2 : SNs (fun k => ex lo v k ∧ k < w0.heap.size) w2 A ps := SNs.keep (w := w0) (fun k hp hk => by
      rw [hg.block k (by omega) (fun e => hp.1.2 e.symm), ha k trivial (by omega), hb.block k hk]) (by omega) h0
    exact h2.mono (fun k hk h => ⟨h.1.1, fun e => by rcases hlie k e with h3 | h3; exact h.1.2 h3; omega⟩)
/-- a node out of its parts -/
theorem snode_of {P : Nat → Prop} {w : World} {T : Ty} {v : Value} {ps : List Value} {base : Nat} (hr : w.ownsRow base 70 2 v T.parts.length ps) (hs : SNs P w T.parts ps) : SNode 0 w T (.int .u8 T.head.toNat) v := by
  cases T with
  | leaf c => obtain rfl : ps = [] := hs; exact ⟨rfl, row_mono hr (Nat.zero_le _)⟩
  | one c a => obtain ⟨h1, s1, rest, rfl, h2, h3⟩ := hs; obtain rfl : rest = [] := h3; exact ⟨rfl, h1, s1, row_mono hr (Nat.zero_le _), h2.here⟩
  | two c a b => obtain ⟨h1, s1, rest, rfl, h2, h3⟩ := hs; obtain ⟨h4, s4, rest2, rfl, h5, h6⟩ := h3; obtain rfl : rest2 = [] := h6; exact ⟨rfl, h1, s1, h4, s4, row_mono hr (Nat.zero_le _), h2.here, h5.here⟩

/-! what MakeType makes -/
def okT (x : ByteArray) : Bool := (ty x.data.toList).isSome
def mtext (c : UInt8) (xs : List ByteArray) : List UInt8 := if xs.length = 0 then [c] else c :: 40 :: (Lib.join (xs.map (·.data.toList)) [44] ++ [41])
def mkT (head : List UInt8) (xs : List ByteArray) : Option (List UInt8) :=
  match head with
  | [c] => if arI c = (xs.length : Int) ∧ xs.all okT = true ∧ (mtext c xs).length ≤ 60 then some (mtext c xs) else none
  | _ => none
theorem mkT_one {c : UInt8} {xs : List ByteArray} : mkT [c] xs = if arI c = (xs.length : Int) ∧ xs.all okT = true ∧ (mtext c xs).length ≤ 60 then some (mtext c xs) else none := rfl
theorem mkT_len {head : List UInt8} {xs : List ByteArray} (h : head.length ≠ 1) : mkT head xs = none := by
  match head, h with
  | [], _ => rfl
  | [c], h => simp at h
  | a :: b :: r, _ => rfl
/-- valid parts are the texts of types -/
theorem types : ∀ (xs : List ByteArray), xs.all okT = true → ∃ ts : List Ty, texts ts = xs ∧ ∀ t ∈ ts, t.WF ∧ t.text.length ≤ 60 := by
  intro xs
  induction xs with
  | nil => intro _; exact ⟨[], rfl, by simp⟩
  | cons x xs ih =>
    intro h
    simp only [List.all_cons, Bool.and_eq_true] at h
    obtain ⟨ts, h1, h2⟩ := ih h.2
    have hx := h.1
    unfold okT at hx
    cases hd : ty x.data.toList with
    | none => rw [hd] at hx; simp at hx
    | some t =>
      obtain ⟨e1, e2, e3⟩ := ty_some hd
      refine ⟨t :: ts, ?_, fun u hu => ?_⟩
      · have : x = ⟨t.text.toArray⟩ := by apply ByteArray.ext; rw [← e1]
        simp [texts] at h1 ⊢
        exact ⟨this.symm, h1⟩
      · rcases List.mem_cons.1 hu with rfl | hu
        · exact ⟨e2, by rw [← e1]; exact e3⟩
        · exact h2 u hu
theorem okT_text {t : Ty} (h : t.WF) (hl : t.text.length ≤ 60) : okT ⟨t.text.toArray⟩ = true := by
  unfold okT
  rw [show (ByteArray.mk t.text.toArray).data.toList = t.text by simp, ty_of h hl]
  rfl
theorem parts_WF {T u : Ty} (h : T.WF) (hu : u ∈ T.parts) : u.WF := by
  cases T with
  | leaf c => simp [Ty.parts] at hu
  | one c a => simp [Ty.parts] at hu; subst hu; exact h.2
  | two c a b => simp [Ty.parts] at hu; rcases hu with rfl | rfl; exact h.2.1; exact h.2.2
theorem ar_parts {T : Ty} (h : T.WF) : ar T.head = some T.parts.length := by
  cases T with
  | leaf c => exact h
  | one c a => exact h.1
  | two c a b => exact h.1
theorem arI_len {c : UInt8} {n : Nat} (h : arI c = (n : Int)) : ar c = some n := by
  unfold arI at h
  cases ha : ar c with
  | none => rw [ha] at h; simp at h <;> omega
  | some k => rw [ha] at h; have h2 : (k : Int) = (n : Int) := h; have e : k = n := by exact_mod_cast h2
              rw [e]
/-- the type of a head and its parts -/
theorem build {c : UInt8} {ts : List Ty} (ha : ar c = some ts.length) (hw : ∀ t ∈ ts, t.WF) : ∃ T : Ty, T.WF ∧ T.head = c ∧ T.parts = ts := by
  rcases ar_cases c with h | h | h | h <;> rw [h] at ha <;> simp at ha
  · obtain rfl : ts = [] := List.eq_nil_of_length_eq_zero ha.symm
    exact ⟨.leaf c, h, rfl, rfl⟩
  · match ts, ha, hw with
    | [a], _, hw => exact ⟨.one c a, ⟨h, hw a (by simp)⟩, rfl, rfl⟩
  · match ts, ha, hw with
    | [a, b], _, hw => exact ⟨.two c a b, ⟨h, hw a (by simp), hw b (by simp)⟩, rfl, rfl⟩
theorem text_mtext (T : Ty) : mtext T.head (texts T.parts) = T.text := by
  unfold mtext
  rw [text_pre]
  by_cases h : T.parts = []
  · simp [h, texts, pre, close]
  · have e : (texts T.parts).length ≠ 0 := by simp [texts]; exact h
    rw [if_neg e, ← join_pre T.parts h]
    simp [close, h]
theorem all_texts {ts : List Ty} (h : ∀ t ∈ ts, t.WF ∧ t.text.length ≤ 60) : (texts ts).all okT = true := by
  rw [List.all_eq_true]
  intro x hx
  simp only [texts, List.mem_map] at hx
  obtain ⟨t, ht, rfl⟩ := hx
  exact okT_text (h t ht).1 (h t ht).2
/-- where the parts are valid and the text is short, it is a type's, with these parts -/
theorem good {c : UInt8} {xs : List ByteArray} (ha : arI c = (xs.length : Int)) (hx : xs.all okT = true) : ∃ T : Ty, T.WF ∧ T.head = c ∧ texts T.parts = xs ∧ T.text = mtext c xs := by
  obtain ⟨ts, h1, h2⟩ := types xs hx
  have hl : ts.length = xs.length := by rw [← h1]; simp [texts]
  obtain ⟨T, h3, h4, h5⟩ := build (c := c) (ts := ts) (by rw [hl]; exact arI_len ha) (fun t ht => (h2 t ht).1)
  refine ⟨T, h3, h4, by rw [h5, h1], ?_⟩
  rw [← text_mtext, h4, h5, h1]
/-- few enough, and short enough together -/
def StrsLen (xs : List ByteArray) : Prop := xs.length ≤ 1048576 ∧ (Lib.join (xs.map (·.data.toList)) [44]).length ≤ 2097151
def MPost (w : World) (o : Option (List UInt8)) (e : Ending) (w' : World) : Prop :=
  e = .returned (.tuple #[.string ⟨(o.getD []).toArray⟩, .bool o.isSome]) ∧ Below w.heap.size w w'
theorem mkT_ar {c : UInt8} {xs : List ByteArray} (h : arI c ≠ (xs.length : Int)) : mkT [c] xs = none := by rw [mkT_one, if_neg (fun hh => h hh.1)]
theorem mkT_no {c : UInt8} {xs : List ByteArray} (h : ¬ (xs.all okT = true ∧ (mtext c xs).length ≤ 60)) : mkT [c] xs = none := by rw [mkT_one, if_neg (fun hh => h hh.2)]
theorem mkT_yes {c : UInt8} {xs : List ByteArray} (h1 : arI c = (xs.length : Int)) (h2 : xs.all okT = true) (h3 : (mtext c xs).length ≤ 60) : mkT [c] xs = some (mtext c xs) := by rw [mkT_one, if_pos ⟨h1, h2, h3⟩]

end MkType
end Go.Proofs.Ytcjalnianamlaaa
