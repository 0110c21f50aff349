/- The reference's l2Index, l2Length and l2Put. Conditions: those typed. -/
import Derived.Test.YtlhildfiddphcaaSub
set_option linter.unusedVariables false
set_option linter.unusedSimpArgs false
set_option maxRecDepth 100000
namespace Go.Proofs.Ytlhildfiddphcaa
open Go.RowKit Ty ListS Parts Go.Proofs.Ytlhildfiddphcaa.Text MkType
namespace Sub
theorem l2Index_any (c : UInt8) (w : World) : Calls Try.prog 21 #[.int .u8 c.toNat] w fun e w' => e = .returned (.int .i64 (ix c)) ∧ w = w' := by
  go_enter Try.func21, Try.ntmps21
  go_wp2_with (go_at_call 31; refine (l13Find _ _ _ (by decide)).mono ?_; rintro e w' ⟨rfl, rfl⟩)
  go_ret
  exact ⟨rfl, rfl⟩
/-- what the length's loop knows -/
def LL (w : World) (t : Ty) (s : Value) (q : Nat) (o i : Value) (wr : World) : Prop :=
  ∃ (k n : Nat), k ≤ t.parts.length ∧ t.parts.length - k ≤ q ∧ i = .int .i64 k ∧ o = .int .i64 n ∧ Hid (n = 1 + (pre (t.parts.take k)).length) ∧ n ≤ t.text.length ∧ Below w.heap.size w wr ∧ w.heap.size < wr.heap.size ∧ wr.heap[w.heap.size]? = some (.cells #[.int .u8 t.head.toNat, s] 30 (0, 0))
theorem pre_le1 (t : Ty) (k : Nat) : 1 + (pre (t.parts.take k)).length ≤ t.text.length := by
  rcases k with _ | _ | k <;> cases t <;> simp [Ty.parts, pre, Ty.text] <;> omega
set_option maxHeartbeats 4000000 in
theorem l2Length_any (n : Nat) : ∀ (t : Ty) (h s : Value) (lo : Nat) (w : World), t.size < n → t.text.length ≤ 1000000 → SNode lo w t h s → Calls Try.prog 23 #[.agg #[h, s]] w fun e w' => e = .returned (.int .i64 t.text.length) ∧ Below w.heap.size w w' := by
  induction n with
  | zero => intro t h s lo w hn; omega
  | succ n ih =>
    intro t h s lo w hn hlen hnode
    obtain ⟨rfl, ps, hrow, hp⟩ := snode hnode
    obtain ⟨a, cap, rfl⟩ := row_slice hrow
    have HV := hid hrow
    have HP := hid hp
    have IH := hid ih
    have hln : Hid (t.text.length = 1 + (pre t.parts).length + (close t.parts).length) := by show _ = _; rw [text_pre]; simp; omega
    have h2 := parts_len t
    clear ih hnode hrow hp
    go_enter Try.func23, Try.ntmps23
    go_wp2_with fail
    go_loopg [3, 9] t.parts.length (fun q o i wr => LL w t (.slice a t.parts.length cap) q o i wr)
    case atStart => exact ⟨0, 1, Nat.zero_le _, by simp, rfl, rfl, (by show _ = _; simp [pre]), (by have := t.text_pos; omega), (Below.refl _ _).alloc (Nat.le_refl _) _, by simp, heap_alloc_new w _⟩
    case round =>
      obtain ⟨k, m, hk, hq, rfl, rfl, hm, hml, hb, hz, hbox⟩ := hrel
      have HB := hid hb
      have HBOX := hid hbox
      have bx1 := heap_cell hbox 1
      clear hb hbox
      by_cases hlt : k < t.parts.length
      · obtain ⟨u, hu⟩ : ∃ u, t.parts[k]? = some u := ⟨_, List.getElem?_eq_getElem hlt⟩
        obtain ⟨h1, s1, e1, e2, hnu⟩ := HP.out k u hu
        obtain ⟨eh, sa, sn, sc, es⟩ := hnu.form
        subst eh es
        obtain ⟨g0, cap0, e0, -, hg0, cs0, hc0, hd0⟩ := row_at HV.out (by omega)
        cases e0
        have c0 : wr.cell? ⟨g0, k * 2, none⟩ = some (.int .u8 u.head.toNat) := (HB.out.cell (p := ⟨g0, k * 2, none⟩) hg0).trans ((heap_cell hc0 _).trans (hd0 _ _ e1))
        have c1 : wr.cell? ⟨g0, k * 2 + 1, none⟩ = some (.slice sa sn sc) := (HB.out.cell (p := ⟨g0, k * 2 + 1, none⟩) hg0).trans ((heap_cell hc0 _).trans (hd0 _ _ e2))
        have hgr : g0 < wr.heap.size := by omega
        have HN := hid hnu
        have hus := text_parts_le t u k hu
        have hszu := size_parts t u k hu
        have hpre : Hid (m + 1 + u.text.length = 1 + (pre (t.parts.take (k + 1))).length) := by
          show _ = _
          obtain ⟨hlt2, rfl⟩ := List.getElem?_eq_some_iff.1 hu
          rw [List.take_succ_eq_append_getElem hlt2, pre_snoc, hm.out]; simp; omega
        have hnx : m + 1 + u.text.length ≤ t.text.length := by rw [hpre.out]; exact pre_le1 t (k + 1)
        clear hd0 hc0 e1 e2 hnu hu bx1
        go_wp2_with (first
          | (go_at_call 23; refine (IH.out u _ _ 0 _ (by omega) (by omega) (Keeps.snode (w := w) (fun x _ hx => ((HB.out.alloc (by omega) _).block x hx)) (HN.out.mono (Nat.zero_le _)))).mono ?_; rintro e w1 ⟨rfl, hb⟩; have HB1 : Hid (Below w.heap.size w w1) := (HB.out.alloc (by omega) _).trans (hb.mono (by simp; omega)); have hz1 : wr.heap.size + 1 ≤ w1.heap.size := (by have := hb.size; simpa using this); have HBOX1 := hid (below_heap hb (by simp; omega) (hb_alloc HBOX.out _)); clear hb))
        go_roundg (gk - 1)
        case rel => exact ⟨k + 1, m + 1 + u.text.length, by omega, by omega, by go_num, rfl, hpre.out, by omega, HB1.out, by omega, HBOX1.out⟩
        case measure => omega
      · have hke : k = t.parts.length := by omega
        subst hke
        have HM : Hid (m = 1 + (pre t.parts).length) := by show _ = _; rw [hm.out, List.take_length]
        clear hm
        by_cases hp0 : t.parts.length = 0
        · have HE : Hid ((m : Int) = t.text.length) := by
            show _ = _
            rw [hln.out, HM.out, List.eq_nil_of_length_eq_zero hp0]; simp [close]
          have hgt : ¬ (0 < t.parts.length) := by omega
          go_wp2_with fail
          go_ret
          exact ⟨by rw [HE.out]; rfl, HB.out⟩
        · have HE : Hid (((m + 1 : Nat) : Int) = t.text.length) := by
            show _ = _
            rw [hln.out, HM.out]
            have : t.parts ≠ [] := fun e => hp0 (by rw [e]; rfl)
            simp [close, this]
          have hgt : 0 < t.parts.length := by omega
          go_wp2_with fail
          go_ret
          exact ⟨by rw [← HE.out]; first | rfl | simp, HB.out⟩

/-! the map of the reference's: twelve places, each a node or none -/
def MapAt (P : Nat → Prop) (w : World) (mb : Nat) (f : Bnd) : Prop :=
  (∀ c, c ∉ lets → f c = none) ∧ ∃ cs e, w.heap[mb]? = some (.cells cs e (0, 0)) ∧ cs.size = 24 ∧ ∀ k : Nat, k < 12 → ∀ c, lets[k]? = some c → ∃ (hd : UInt8) (a : Option Addr) (n cap : Nat), cs[k * 2]? = some (.int .u8 hd.toNat) ∧ cs[k * 2 + 1]? = some (.slice a n cap) ∧
    match f c with
    | some t => hd = t.head ∧ t.head ≠ 0 ∧ SR P w t (.int .u8 hd.toNat) (.slice a n cap)
    | none => hd = 0
theorem MapAt.keep {P : Nat → Prop} {w w' : World} {mb : Nat} {f : Bnd} (h : MapAt P w mb f) (hk : KeepsP P w w') (hm : w'.heap[mb]? = w.heap[mb]?) (hz : w.heap.size ≤ w'.heap.size) : MapAt P w' mb f := by
  obtain ⟨h0, cs, e, h1, h2, h3⟩ := h
  refine ⟨h0, cs, e, hm.trans h1, h2, fun k hk2 c hc => ?_⟩
  obtain ⟨hd, a, n, cap, q1, q2, q3⟩ := h3 k hk2 c hc
  refine ⟨hd, a, n, cap, q1, q2, ?_⟩
  cases hf : f c with
  | none => rw [hf] at q3; exact q3
  | some t => rw [hf] at q3; exact ⟨q3.1, q3.2.1, q3.2.2.keep hk hz⟩
theorem MapAt.mono {P P' : Nat → Prop} {w : World} {mb : Nat} {f : Bnd} (h : MapAt P w mb f) (hP : ∀ k, k < w.heap.size → P k → P' k) : MapAt P' w mb f := by
  obtain ⟨h0, cs, e, h1, h2, h3⟩ := h
  refine ⟨h0, cs, e, h1, h2, fun k hk2 c hc => ?_⟩
  obtain ⟨hd, a, n, cap, q1, q2, q3⟩ := h3 k hk2 c hc
  refine ⟨hd, a, n, cap, q1, q2, ?_⟩
  cases hf : f c with
  | none => rw [hf] at q3; exact q3
  | some t => rw [hf] at q3; exact ⟨q3.1, q3.2.1, q3.2.2.mono hP⟩
theorem MapAt.lt {P : Nat → Prop} {w : World} {mb : Nat} {f : Bnd} (h : MapAt P w mb f) : mb < w.heap.size := by
  obtain ⟨_, cs, e, h1, _⟩ := h; exact lt_of_heap h1
theorem MapAt.below {B : Nat} {w w' : World} {mb : Nat} {f : Bnd} (h : MapAt (fun k => k < B) w mb f) (hb : Below w.heap.size w w') : MapAt (fun k => k < B) w' mb f :=
  h.keep (keepsP_below hb (Nat.le_refl _)) (hb.block _ h.lt) hb.size
/-- one place is filled -/
theorem MapAt.set {P : Nat → Prop} {w : World} {mb : Nat} {f : Bnd} (h : MapAt P w mb f) (hP : ¬ P mb) {k : Nat} {c : UInt8} (hk : k < 12) (hc : lets[k]? = some c) {t : Ty} {a : Option Addr} {n cap : Nat} (ht : SR P w t (.int .u8 t.head.toNat) (.slice a n cap)) (h0 : t.head ≠ 0) :
    MapAt P ((w.setCell ⟨mb, k * 2, none⟩ (.int .u8 t.head.toNat)).setCell ⟨mb, k * 2 + 1, none⟩ (.slice a n cap)) mb (fun d => if d = c then some t else f d) := by
  obtain ⟨hf, cs, e, h1, h2, h3⟩ := h
  have hkp : KeepsP P w ((w.setCell ⟨mb, k * 2, none⟩ (.int .u8 t.head.toNat)).setCell ⟨mb, k * 2 + 1, none⟩ (.slice a n cap)) := (keepsP_set _ _ _ hP).trans (keepsP_set _ _ _ hP) (by simp)
  have hcm : c ∈ lets := List.mem_of_getElem? hc
  refine ⟨fun d hd => ?_, (cs.setIfInBounds (k * 2) (.int .u8 t.head.toNat)).setIfInBounds (k * 2 + 1) (.slice a n cap), e, heap_set (heap_set h1 _ _) _ _, by simp [h2], fun j hj d hd => ?_⟩
  · show (if d = c then some t else f d) = none
    rw [if_neg (fun e => hd (by rw [e]; exact hcm))]; exact hf d hd
  · by_cases hjk : j = k
    · subst hjk
      have : d = c := by rw [hc] at hd; exact (Option.some.inj hd).symm
      subst this
      refine ⟨t.head, a, n, cap, ?_, ?_, ?_⟩
      · rw [Array.getElem?_setIfInBounds_ne (by omega), Array.getElem?_setIfInBounds_self_of_lt (by rw [h2]; omega)]
      · rw [Array.getElem?_setIfInBounds_self_of_lt (by simp [h2]; omega)]
      · simp only [if_true]; exact ⟨trivial, h0, ht.keep hkp (by simp)⟩
    · have hdc : d ≠ c := fun e => hjk (lets_inj (by rw [hd, e]) hc)
      obtain ⟨hd', a', n', cap', q1, q2, q3⟩ := h3 j hj d hd
      refine ⟨hd', a', n', cap', ?_, ?_, ?_⟩
      · rw [Array.getElem?_setIfInBounds_ne (by omega), Array.getElem?_setIfInBounds_ne (by omega)]; exact q1
      · rw [Array.getElem?_setIfInBounds_ne (by omega), Array.getElem?_setIfInBounds_ne (by omega)]; exact q2
      · simp only [if_neg hdc]
        cases hf2 : f d with
        | none => rw [hf2] at q3; exact q3
        | some t' => rw [hf2] at q3; exact ⟨q3.1, q3.2.1, q3.2.2.keep hkp (by simp)⟩

/-! a node whose parts lie below B or from lo on, none of them in the row -/
def exB (B lo : Nat) (v : Value) (k : Nat) : Prop := (k < B ∨ lo ≤ k) ∧ v.ownBlock ≠ some k
theorem snsB_push {B lo : Nat} {w0 w1 w1' w2 : World} {v v' : Value} {A : List Ty} {ps : List Value} {t : Ty} {h s : Value}
    (hA : SNs (exB B lo v) w0 A ps) (hv : ∀ g, v.ownBlock = some g → B ≤ g ∧ g < w0.heap.size) (hb : Below w0.heap.size w0 w1) (hk : SR (fun k => k < B ∨ w0.heap.size ≤ k) w1 t h s) (hl : lo ≤ w0.heap.size) (hB : B ≤ w0.heap.size)
    (ha : KeepsP (fun _ => True) w1 w1') (hz : w1.heap.size ≤ w1'.heap.size) (hg : w1'.grownBy w2 v.ownBlock) (hlie : ∀ g, v'.ownBlock = some g → v.ownBlock = some g ∨ w1'.heap.size ≤ g) :
    SNs (exB B lo v') w2 (A ++ [t]) (ps ++ [h, s]) := by
  have hs := hb.size
  have hs2 := hg.size
  refine SNs.app ?_ ?_
  · have h0 : SR (fun k => (k < B ∨ w0.heap.size ≤ k) ∧ k < w1.heap.size) w1 t h s := hk.mono (fun k hk h => ⟨h, hk⟩)
    have h2 : SR (fun k => (k < B ∨ w0.heap.size ≤ k) ∧ k < w1.heap.size) w2 t h s := h0.keep (fun k hp hk => by
      rw [hg.block k (by omega) (fun e => by have := hv k e.symm; omega), ha k trivial (by omega)]) (by omega)
    exact h2.mono (fun k hk h => ⟨by omega, fun e => by rcases hlie k e with h3 | h3; have := hv k h3; omega; omega⟩)
  · have h0 : SNs (fun k => exB B lo v k ∧ k < w0.heap.size) w0 A ps := hA.mono (fun k hk h => ⟨h, hk⟩)
    have h2 : SNs (fun k => exB B lo v k ∧ k < w0.heap.size) w2 A ps := SNs.keep (w := w0) (fun k hp hk => by
      rw [hg.block k (by omega) (fun e => hp.1.2 e.symm), ha k trivial (by omega), hb.block k hk]) (by omega) h0
    exact h2.mono (fun k hk h => ⟨h.1.1, fun e => by rcases hlie k e with h3 | h3; exact h.1.2 h3; omega⟩)
theorem below_drew {B : Nat} {w w' : World} (h : Below B w w') : Below B w w'.drew := ⟨h.os, h.tape, h.output, h.size, h.block⟩
theorem hb_newk {w : World} {o : Obj} {n : Nat} (h : w.heap.size = n) : (w.alloc o).heap[n]? = some o := by subst h; exact heap_alloc_new _ _
theorem row_keptP2 {P : Nat → Prop} {w w' : World} (hk : KeepsP P w w') {base : Nat} {e : TypeId} {size : Nat} {v : Value} {n : Nat} {xs : List Value} (h : w.ownsRow base e size v n xs) (hg : ∀ g, v.ownBlock = some g → P g) : w'.ownsRow base e size v n xs := by
  refine ⟨h.1, ?_⟩
  rcases h.2 with hn | ⟨g, cap, cur, rfl, hb, hgg, rest⟩
  · exact .inl hn
  · exact .inr ⟨g, cap, cur, rfl, hb, (hk g (hg g (by simp [Value.ownBlock])) (lt_of_heap hgg)).trans hgg, rest⟩
theorem sr_of {P P' : Nat → Prop} {w : World} {T : Ty} {v : Value} {ps : List Value} {base : Nat} (hr : w.ownsRow base 30 2 v T.parts.length ps) (hs : SNs P w T.parts ps) (hg : ∀ g, v.ownBlock = some g → P' g) (hP : ∀ k, P k → P' k) : SR P' w T (.int .u8 T.head.toNat) v := fun w' hk hz =>
  snode_of (row_keptP2 hk hr hg) (SNs.keep (P := P) (fun k hp hkk => hk k (hP k hp) hkk) hz hs)
/-- what l2Put leaves -/
def PutPost (w : World) (B : Nat) (t : Ty) (e : Ending) (w' : World) : Prop := ∃ h s, e = .returned (.agg #[h, s]) ∧ SR (fun k => k < B ∨ w.heap.size ≤ k) w' t h s ∧ Below w.heap.size w w'
def PL (w : World) (B : Nat) (f : Bnd) (t : Ty) (q : Nat) (iv : Value) (wr : World) : Prop :=
  ∃ (A : List Ty) (a : Option Addr) (cap : Nat) (ps : List Value), A.length ≤ t.parts.length ∧ t.parts.length - A.length ≤ q ∧ iv = .int .i64 A.length ∧ Hid (A = (t.parts.take A.length).map (sub f)) ∧
    wr.heap[w.heap.size + 3]? = some (.cells #[.int .u8 t.head.toNat, .slice a A.length cap] 30 (0, 0)) ∧ (∃ x y, wr.heap[w.heap.size + 1]? = some (.cells #[x, y] 30 (0, 0))) ∧ wr.ownsRow (w.heap.size + 2) 30 2 (.slice a A.length cap) A.length ps ∧ (∀ p, a = some p → p.block ≠ w.heap.size + 3) ∧ SNs (exB B (w.heap.size + 3 + 1) (.slice a A.length cap)) wr A ps ∧ Below w.heap.size w wr ∧ w.heap.size + 3 < wr.heap.size

end Sub
end Go.Proofs.Ytlhildfiddphcaa
