/- The reference's l2Index, l2Length and l2Put. Conditions: those typed. -/
import Derived.Test.YtaapdhacnbhohaaSub
set_option linter.unusedVariables false
set_option linter.unusedSimpArgs false
set_option maxRecDepth 100000
namespace Go.Proofs.Ytaapdhacnbhohaa
open Go.RowKit Ty ListS Parts Go.Proofs.Ytaapdhacnbhohaa.Text MkType
namespace Sub
theorem l2Index_any (c : UInt8) (w : World) : Calls Try.prog 69 #[.int .u8 c.toNat] w fun e w' => e = .returned (.int .i64 (ix c)) ∧ w = w' := by
  go_enter Try.func69, Try.ntmps69
  go_wp2_with (go_at_call 95; refine (l13Find _ _ _ (by decide)).mono ?_; rintro e w' ⟨rfl, rfl⟩)
  go_ret
  exact ⟨rfl, rfl⟩
/-- what the length's loop knows -/
def LL (w : World) (t : Ty) (s : Value) (q : Nat) (o i : Value) (wr : World) : Prop :=
  ∃ (k n : Nat), k ≤ t.parts.length ∧ t.parts.length - k ≤ q ∧ i = .int .i64 k ∧ o = .int .i64 n ∧ Hid (n = 1 + (pre (t.parts.take k)).length) ∧ n ≤ t.text.length ∧ Below w.heap.size w wr ∧ w.heap.size < wr.heap.size ∧ wr.heap[w.heap.size]? = some (.cells #[.int .u8 t.head.toNat, s] 74 (0, 0))
theorem pre_le1 (t : Ty) (k : Nat) : 1 + (pre (t.parts.take k)).length ≤ t.text.length := by
  rcases k with _ | _ | k <;> cases t <;> simp [Ty.parts, pre, Ty.text] <;> omega
set_option maxHeartbeats 4000000 in
theorem l2Length_any (n : Nat) : ∀ (t : Ty) (h s : Value) (lo : Nat) (w : World), t.size < n → t.text.length ≤ 1000000 → SNode lo w t h s → Calls Try.prog 71 #[.agg #[h, s]] w fun e w' => e = .returned (.int .i64 t.text.length) ∧ Below w.heap.size w w' := by
  induction n with
  | zero => intro t h s lo w hn; omega
  | succ n ih =>
    intro t h s lo w hn hlen hnode
    obtain ⟨rfl, ps, hrow, hp⟩ := snode hnode
    obtain ⟨a, cap, rfl⟩ := row_slice hrow
    have HV := hid hrow
    have HP := hid hp
    have IH := hid ih
    have hln : Hid (t.text.length = 1 + (pre t.parts).length + (close t.parts).length) := by show _ = _; rw [text_pre]; simp; omega
    have h2 := parts_len t
    clear ih hnode hrow hp
    go_enter Try.func71, Try.ntmps71
    go_wp2_with fail
    go_loopg [3, 9] t.parts.length (fun q o i wr => LL w t (.slice a t.parts.length cap) q o i wr)
    case atStart => exact ⟨0, 1, Nat.zero_le _, by simp, rfl, rfl, (by show _ = _; simp [pre]), (by have := t.text_pos; omega), (Below.refl _ _).alloc (Nat.le_refl _) _, by simp, heap_alloc_new w _⟩
    case round =>
      obtain ⟨k, m, hk, hq, rfl, rfl, hm, hml, hb, hz, hbox⟩ := hrel
      have HB := hid hb
      have HBOX := hid hbox
      have bx1 := heap_cell hbox 1
      clear hb hbox
      by_cases hlt : k < t.parts.length
      · obtain ⟨u, hu⟩ : ∃ u, t.parts[k]? = some u := ⟨_, List.getElem?_eq_getElem hlt⟩
        obtain ⟨h1, s1, e1, e2, hnu⟩ := HP.out k u hu
        obtain ⟨eh, sa, sn, sc, es⟩ := hnu.form
        subst eh es
        obtain ⟨g0, cap0, e0, -, hg0, cs0, hc0, hd0⟩ := row_at HV.out (by omega)
        cases e0
        have c0 : wr.cell? ⟨g0, k * 2, none⟩ = some (.int .u8 u.head.toNat) := (HB.out.cell (p := ⟨g0, k * 2, none⟩) hg0).trans ((heap_cell hc0 _).trans (hd0 _ _ e1))
        have c1 : wr.cell? ⟨g0, k * 2 + 1, none⟩ = some (.slice sa sn sc) := (HB.out.cell (p := ⟨g0, k * 2 + 1, none⟩) hg0).trans ((heap_cell hc0 _).trans (hd0 _ _ e2))
        have hgr : g0 < wr.heap.size := by omega
        have HN := hid hnu
        have hus := text_parts_le t u k hu
        have hszu := size_parts t u k hu
        have hpre : Hid (m + 1 + u.text.length = 1 + (pre (t.parts.take (k + 1))).length) := by
          show _ = _
          obtain ⟨hlt2, rfl⟩ := List.getElem?_eq_some_iff.1 hu
          rw [List.take_succ_eq_append_getElem hlt2, pre_snoc, hm.out]; simp; omega
        have hnx : m + 1 + u.text.length ≤ t.text.length := by rw [hpre.out]; exact pre_le1 t (k + 1)
        clear hd0 hc0 e1 e2 hnu hu bx1
        go_wp2_with (first
          | (go_at_call 71; refine (IH.out u _ _ 0 _ (by omega) (by omega) (Keeps.snode (w := w) (fun x _ hx => ((HB.out.alloc (by omega) _).block x hx)) (HN.out.mono (Nat.zero_le _)))).mono ?_; rintro e w1 ⟨rfl, hb⟩; have HB1 : Hid (Below w.heap.size w w1) := (HB.out.alloc (by omega) _).trans (hb.mono (by simp; omega)); have hz1 : wr.heap.size + 1 ≤ w1.heap.size := (by have := hb.size; simpa using this); have HBOX1 := hid (below_heap hb (by simp; omega) (hb_alloc HBOX.out _)); clear hb))
        go_roundg (gk - 1)
        case rel => exact ⟨k + 1, m + 1 + u.text.length, by omega, by omega, by go_num, rfl, hpre.out, by omega, HB1.out, by omega, HBOX1.out⟩
        case measure => omega
      · have hke : k = t.parts.length := by omega
        subst hke
        have HM : Hid (m = 1 + (pre t.parts).length) := by show _ = _; rw [hm.out, List.take_length]
        clear hm
        by_cases hp0 : t.parts.length = 0
        · have HE : Hid ((m : Int) = t.text.length) := by
            show _ = _
            rw [hln.out, HM.out, List.eq_nil_of_length_eq_zero hp0]; simp [close]
          have hgt : ¬ (0 < t.parts.length) := by omega
          go_wp2_with fail
          go_ret
          exact ⟨by rw [HE.out]; rfl, HB.out⟩
        · have HE : Hid (((m + 1 : Nat) : Int) = t.text.length) := by
            show _ = _
            rw [hln.out, HM.out]
            have : t.parts ≠ [] := fun e => hp0 (by rw [e]; rfl)
            simp [close, this]
          have hgt : 0 < t.parts.length := by omega
          go_wp2_with fail
          go_ret
          exact ⟨by rw [← HE.out]; first | rfl | simp, HB.out⟩

/-! the map of the reference's: twelve places, each a node or none -/
def MapAt (P : Nat → Prop) (w : World) (mb : Nat) (f : Bnd) : Prop :=
  (∀ c, c ∉ lets → f c = none) ∧ ∃ cs e, w.heap[mb]? = some (.cells cs e (0, 0)) ∧ cs.size = 24 ∧ ∀ k : Nat, k < 12 → ∀ c, lets[k]? = some c → ∃ (hd : UInt8) (a : Option Addr) (n cap : Nat), cs[k * 2]? = some (.int .u8 hd.toNat) ∧ cs[k * 2 + 1]? = some (.slice a n cap) ∧
    match f c with
    | some t => hd = t.head ∧ t.head ≠ 0 ∧ SR P w t (.int .u8 hd.toNat) (.slice a n cap)
    | none => hd = 0
theorem MapAt.keep {P : Nat → Prop} {w w' : World} {mb : Nat} {f : Bnd} (h : MapAt P w mb f) (hk : KeepsP P w w') (hm : w'.heap[mb]? = w.heap[mb]?) (hz : w.heap.size ≤ w'.heap.size) : MapAt P w' mb f := by
  obtain ⟨h0, cs, e, h1, h2, h3⟩ := h
  refine ⟨h0, cs, e, hm.trans h1, h2, fun k hk2 c hc => ?_⟩
  obtain ⟨hd, a, n, cap, q1, q2, q3⟩ := h3 k hk2 c hc
  refine ⟨hd, a, n, cap, q1, q2, ?_⟩
  cases hf : f c with
  | none => rw [hf] at q3; exact q3
  | some t => rw [hf] at q3; exact ⟨q3.1, q3.2.1, q3.2.2.keep hk hz⟩
theorem MapAt.mono {P P' : Nat → Prop} {w : World} {mb : Nat} {f : Bnd} (h : MapAt P w mb f) (hP : ∀ k, k < w.heap.size → P k → P' k) : MapAt P' w mb f := by
  obtain ⟨h0, cs, e, h1, h2, h3⟩ := h
  refine ⟨h0, cs, e, h1, h2, fun k hk2 c hc => ?_⟩
  obtain ⟨hd, a, n, cap, q1, q2, q3⟩ := h3 k hk2 c hc
  refine ⟨hd, a, n, cap, q1, q2, ?_⟩
  cases hf : f c with
  | none => rw [hf] at q3; exact q3
  | some t => rw [hf] at q3; exact ⟨q3.1, q3.2.1, q3.2.2.mono hP⟩
theorem MapAt.lt {P : Nat → Prop} {w : World} {mb : Nat} {f : Bnd} (h : MapAt P w mb f) : mb < w.heap.size := by
  obtain ⟨_, cs, e, h1, _⟩ := h; exact lt_of_heap h1
theorem MapAt.below {B : Nat} {w w' : World} {mb : Nat} {f : Bnd} (h : MapAt (fun k => k < B) w mb f) (hb : Below w.heap.size w w') : MapAt (fun k => k < B) w' mb f :=
  h.keep (keepsP_below hb (Nat.le_refl _)) (hb.block _ h.lt) hb.size
/-- one place is filled -/
theorem MapAt.set {P : Nat → Prop} {w : World} {mb : Nat} {f : Bnd} (h : MapAt P w mb f) (hP : ¬ P mb) {k : Nat} {c : UInt8} (hk : k < 12) (hc : lets[k]? = some c) {t : Ty} {a : Option Addr} {n cap : Nat} (ht : SR P w t (.int .u8 t.head.toNat) (.slice a n cap)) (h0 : t.head ≠ 0) :
    MapAt P ((w.setCell ⟨mb, k * 2, none⟩ (.int .u8 t.head.toNat)).setCell ⟨mb, k * 2 + 1, none⟩ (.slice a n cap)) mb (fun d => if d = c then some t else f d) := by
  obtain ⟨hf, cs, e, h1, h2, h3⟩ := h
  have hkp : KeepsP P w ((w.setCell ⟨mb, k * 2, none⟩ (.int .u8 t.head.toNat)).setCell ⟨mb, k * 2 + 1, none⟩ (.slice a n cap)) := (keepsP_set _ _ _ hP).trans (keepsP_set _ _ _ hP) (by simp)
  have hcm : c ∈ lets := List.mem_of_getElem? hc
  refine ⟨fun d hd => ?_, (cs.setIfInBounds (k * 2) (.int .u8 t.head.toNat)).setIfInBounds (k * 2 + 1) (.slice a n cap), e, heap_set (heap_set h1 _ _) _ _, by simp [h2], fun j hj d hd => ?_⟩
  · show (if d = c then some t else f d) = none
    rw [if_neg (fun e => hd (by rw [e]; exact hcm))]; exact hf d hd
  · by_cases hjk : j = k
    · subst hjk
      have : d = c := by rw [hc] at hd; exact (Option.some.inj hd).symm
      subst this
      refine ⟨t.head, a, n, cap, ?_, ?_, ?_⟩
      · rw [Array.getElem?_setIfInBounds_ne (by omega), Array.getElem?_setIfInBounds_self_of_lt (by rw [h2]; omega)]
      · rw [Array.getElem?_setIfInBounds_self_of_lt (by simp [h2]; omega)]
      · simp only [if_true]; exact ⟨trivial, h0, ht.keep hkp (by simp)⟩
    · have hdc : d ≠ c := fun e => hjk (lets_inj (by rw [hd, e]) hc)
      obtain ⟨hd', a', n', cap', q1, q2, q3⟩ := h3 j hj d hd
      refine ⟨hd', a', n', cap', ?_, ?_, ?_⟩
      · rw [Array.getElem?_setIfInBounds_ne (by omega), Array.getElem?_setIfInBounds_ne (by omega)]; exact q1
      · rw [Array.getElem?_setIfInBounds_ne (by omega), Array.getElem?_setIfInBounds_ne (by omega)]; exact q2
      · simp only [if_neg hdc]
        cases hf2 : f d with
        | none => rw [hf2] at q3; exact q3
        | some t' => rw [hf2] at q3; exact ⟨q3.1, q3.2.1, q3.2.2.keep hkp (by simp)⟩

/-! a node whose parts lie below B or from lo on, none of them in the row -/
def exB (B lo : Nat) (v : Value) (k : Nat) : Prop := (k < B ∨ lo ≤ k) ∧ v.ownBlock ≠ some k
theorem snsB_push {B lo : Nat} {w0 w1 w1' w2 : World} {v v' : Value} {A : List Ty} {ps : List Value} {t : Ty} {h s : Value}
    (hA : SNs (exB B lo v) w0 A ps) (hv : ∀ g, v.ownBlock = some g → B ≤ g ∧ g < w0.heap.size) (hb : Below w0.heap.size w0 w1) (hk : SR (fun k => k < B ∨ w0.heap.size ≤ k) w1 t h s) (hl : lo ≤ w0.heap.size) (hB : B ≤ w0.heap.size)
    (ha : KeepsP (fun _ => True) w1 w1') (hz : w1.heap.size ≤ w1'.heap.size) (hg : w1'.grownBy w2 v.ownBlock) (hlie : ∀ g, v'.ownBlock = some g → v.ownBlock = some g ∨ w1'.heap.size ≤ g) :
    SNs (exB B lo v') w2 (A ++ [t]) (ps ++ [h, s]) := by
  have hs := hb.size
  have hs2 := hg.size
  refine SNs.app ?_ ?_
  · have h0 : SR (fun k => (k < B ∨ w0.heap.size ≤ k) ∧ k < w1.heap.size) w1 t h s := hk.mono (fun k hk h => ⟨h, hk⟩)
    have h2 : SR (fun k => (k < B ∨ w0.heap.size ≤ k) ∧ k < w1.heap.size) w2 t h s := h0.keep (fun k hp hk => by
      rw [hg.block k (by omega) (fun e => by have := hv k e.symm; omega), ha k trivial (by omega)]) (by omega)
    exact h2.mono (fun k hk h => ⟨by omega, fun e => by rcases hlie k e with h3 | h3; have := hv k h3; omega; omega⟩)
  · have h0 : SNs (fun k => exB B lo v k ∧ k < w0.heap.size) w0 A ps := hA.mono (fun k hk h => ⟨h, hk⟩)
    have h2 : SNs (fun k => exB B lo v k ∧ k < w0.heap.size) w2 A ps := SNs.keep (w := w0) (fun k hp hk => by
      rw [hg.block k (by omega) (fun e => hp.1.2 e.symm), ha k trivial (by omega), hb.block k hk]) (by omega) h0
    exact h2.mono (fun k hk h => ⟨h.1.1, fun e => by rcases hlie k e with h3 | h3; exact h.1.2 h3; omega⟩)
theorem below_drew {B : Nat} {w w' : World} (h : Below B w w') : Below B w w'.drew := ⟨h.os, h.tape, h.output, h.size, h.block⟩
theorem hb_newk {w : World} {o : Obj} {n : Nat} (h : w.heap.size = n) : (w.alloc o).heap[n]? = some o := by subst h; exact heap_alloc_new _ _
theorem row_keptP2 {P : Nat → Prop} {w w' : World} (hk : KeepsP P w w') {base : Nat} {e : TypeId} {size : Nat} {v : Value} {n : Nat} {xs : List Value} (h : w.ownsRow base e size v n xs) (hg : ∀ g, v.ownBlock = some g → P g) : w'.ownsRow base e size v n xs := by
  refine ⟨h.1, ?_⟩
  rcases h.2 with hn | ⟨g, cap, cur, rfl, hb, hgg, rest⟩
  · exact .inl hn
  · exact .inr ⟨g, cap, cur, rfl, hb, (hk g (hg g (by simp [Value.ownBlock])) (lt_of_heap hgg)).trans hgg, rest⟩
theorem sr_of {P P' : Nat → Prop} {w : World} {T : Ty} {v : Value} {ps : List Value} {base : Nat} (hr : w.ownsRow base 74 2 v T.parts.length ps) (hs : SNs P w T.parts ps) (hg : ∀ g, v.ownBlock = some g → P' g) (hP : ∀ k, P k → P' k) : SR P' w T (.int .u8 T.head.toNat) v := fun w' hk hz =>
  snode_of (row_keptP2 hk hr hg) (SNs.keep (P := P) (fun k hp hkk => hk k (hP k hp) hkk) hz hs)
/-- what l2Put leaves -/
def PutPost (w : World) (B : Nat) (t : Ty) (e : Ending) (w' : World) : Prop := ∃ h s, e = .returned (.agg #[h, s]) ∧ SR (fun k => k < B ∨ w.heap.size ≤ k) w' t h s ∧ Below w.heap.size w w'
def PL (w : World) (B : Nat) (f : Bnd) (t : Ty) (q : Nat) (iv : Value) (wr : World) : Prop :=
  ∃ (A : List Ty) (a : Option Addr) (cap : Nat) (ps : List Value), A.length ≤ t.parts.length ∧ t.parts.length - A.length ≤ q ∧ iv = .int .i64 A.length ∧ Hid (A = (t.parts.take A.length).map (sub f)) ∧
    wr.heap[w.heap.size + 3]? = some (.cells #[.int .u8 t.head.toNat, .slice a A.length cap] 74 (0, 0)) ∧ (∃ x y, wr.heap[w.heap.size + 1]? = some (.cells #[x, y] 74 (0, 0))) ∧ wr.ownsRow (w.heap.size + 2) 74 2 (.slice a A.length cap) A.length ps ∧ (∀ p, a = some p → p.block ≠ w.heap.size + 3) ∧ SNs (exB B (w.heap.size + 3 + 1) (.slice a A.length cap)) wr A ps ∧ Below w.heap.size w wr ∧ w.heap.size + 3 < wr.heap.size

set_option maxHeartbeats 4000000 in
theorem l2Put_any (n : Nat) : ∀ (t : Ty) (h s : Value) (w : World) (f : Bnd) (B mb : Nat), t.size < n → MapAt (fun k => k < B) w mb f → B ≤ w.heap.size → SNode 0 w t h s → Calls Try.prog 70 #[.pointer (some ⟨mb, 0, none⟩), .agg #[h, s]] w (PutPost w B (sub f t)) := by
  induction n with
  | zero => intro t h s w f B mb hn; omega
  | succ n ih =>
    intro t h s w f B mb hn hmap hB hnode
    obtain ⟨rfl, ps, hrow, hp⟩ := snode hnode
    obtain ⟨a, cap, rfl⟩ := row_slice hrow
    have HV := hid hrow
    have HP := hid hp
    have IH := hid ih
    have HMAP := hid hmap
    obtain ⟨hm0, cs, em, hm1, hm2, hm3⟩ := hmap
    have hmlt := lt_of_heap hm1
    clear ih hnode hrow hp
    rcases ix_cases t.head with ⟨hix, hni⟩ | ⟨k, hk, hix, hkl⟩
    · have HIX := hid hix
      have HF : Hid (f t.head = none) := hm0 _ hni
      have HSN : Hid ((sub f t).head = t.head ∧ (sub f t).parts = t.parts.map (sub f)) := sub_none HF.out
      clear hix hni hm0 hm3 hm1 hm2
      go_enter Try.func70, Try.ntmps70
      go_wp2_with (first | (go_at_call 69; refine (l2Index_any t.head _).mono ?_; rintro e w' ⟨rfl, rfl⟩; rw [HIX.out]))
      go_loopg [35] t.parts.length (fun q iv wr => PL w B f t q iv wr)
      case atStart =>
        refine ⟨[], some ⟨w.heap.size + 2, 0, none⟩, 0, [], Nat.zero_le _, by simp, rfl, by show _ = _; simp, ?_, ?_, ?_, ?_, ?_, ?_, ?_⟩
        · exact hb_newk (by simp)
        · exact ⟨_, _, hb_alloc (hb_alloc (hb_newk (by simp)) _) _⟩
        · have h := World.ownsRow_made (e := 74) (size := 2) (base := w.heap.size + 2) ((w.alloc (.cells #[.int .u8 t.head.toNat, .slice a t.parts.length cap] 74)).alloc (.cells #[.int .u8 0, .slice none 0 0] 74)) #[] 0 (by simp) (by simp [maxLen]) rfl
          simp only [World.size_alloc] at h
          exact h.alloc _
        · intro p h; cases h; show w.heap.size + 2 ≠ w.heap.size + 3; omega
        · exact rfl
        · exact ((((Below.refl _ _).alloc (Nat.le_refl _) _).alloc (by simp) _).alloc (by simp; omega) _).alloc (by simp; omega) _
        · simp
      case round =>
        obtain ⟨A, a1, cap1, ps1, hk, hq, rfl, hA, hnb, ⟨xr, yr, hres⟩, hrw, hna, hsd, hb, hz⟩ := hrel
        have HB := hid hb
        have HNB := hid hnb
        have HRES := hid hres
        have HROW := hid hrw
        have HSD := hid hsd
        have HNA := hid hna
        have kn0 := heap_cell hnb 0
        have kn1 := heap_cell hnb 1
        have fn1 := heap_free hnb 1
        have hbz := hb.size
        clear hb hnb hres hrw hsd hna
        by_cases hlt : A.length < t.parts.length
        · obtain ⟨u, hu⟩ : ∃ u, t.parts[A.length]? = some u := ⟨_, List.getElem?_eq_getElem hlt⟩
          obtain ⟨h1, s1, e1, e2, hnu⟩ := HP.out A.length u hu
          obtain ⟨eh, sa, sn, sc, es⟩ := hnu.form
          subst eh es
          obtain ⟨g0, cap0, e0, -, hg0, cs0, hc0, hd0⟩ := row_at HV.out (by omega)
          cases e0
          have c0 : wr.cell? ⟨g0, A.length * 2, none⟩ = some (.int .u8 u.head.toNat) := (HB.out.cell (p := ⟨g0, A.length * 2, none⟩) hg0).trans ((heap_cell hc0 _).trans (hd0 _ _ e1))
          have c1 : wr.cell? ⟨g0, A.length * 2 + 1, none⟩ = some (.slice sa sn sc) := (HB.out.cell (p := ⟨g0, A.length * 2 + 1, none⟩) hg0).trans ((heap_cell hc0 _).trans (hd0 _ _ e2))
          have HND : Hid (SNode 0 (wr.alloc (.cells #[.int .u8 u.head.toNat, .slice sa sn sc] 74)).drew u (.int .u8 u.head.toNat) (.slice sa sn sc)) := Keeps.snode (w := w) (w' := (wr.alloc (.cells #[.int .u8 u.head.toNat, .slice sa sn sc] 74)).drew) (fun x _ hx => ((HB.out.alloc (by omega) (.cells #[.int .u8 u.head.toNat, .slice sa sn sc] 74)).block x hx)) (hnu.mono (Nat.zero_le _))
          have HMAPD : Hid (MapAt (fun k => k < B) (wr.alloc (.cells #[.int .u8 u.head.toNat, .slice sa sn sc] 74)).drew mb f) := HMAP.out.below (below_drew (HB.out.alloc (by omega) _))
          have hszu := size_parts t u A.length hu
          have h2 := parts_len t
          have hAu : Hid (A ++ [sub f u] = (t.parts.take (A.length + 1)).map (sub f)) := by
            show _ = _
            obtain ⟨hlt2, rfl⟩ := List.getElem?_eq_some_iff.1 hu
            rw [List.take_succ_eq_append_getElem hlt2, List.map_append, ← hA.out]; rfl
          have hgr : g0 < wr.heap.size := by omega
          clear hd0 hc0 e1 e2 hnu hu
          go_wp2_with fail
          have d0 : (wr.alloc (.cells #[.int .u8 u.head.toNat, .slice sa sn sc] 74)).cell? ⟨wr.heap.size, 0, none⟩ = some (.int .u8 u.head.toNat) := heap_cell (heap_alloc_new _ _) 0
          have d1 : (wr.alloc (.cells #[.int .u8 u.head.toNat, .slice sa sn sc] 74)).cell? ⟨wr.heap.size, 1, none⟩ = some (.slice sa sn sc) := heap_cell (heap_alloc_new _ _) 1
          have HNBW := hid (hb_alloc HNB.out (.cells #[.int .u8 u.head.toNat, .slice sa sn sc] 74))
          have HRESW := hid (hb_alloc HRES.out (.cells #[.int .u8 u.head.toNat, .slice sa sn sc] 74))
          have HBW : Hid (Below w.heap.size w (wr.alloc (.cells #[.int .u8 u.head.toNat, .slice sa sn sc] 74))) := HB.out.alloc (by omega) _
          have HROWW := hid (World.ownsRow.alloc HROW.out (.cells #[.int .u8 u.head.toNat, .slice sa sn sc] 74))
          have HSDW : Hid (SNs (exB B (w.heap.size + 3 + 1) (.slice a1 A.length cap1)) (wr.alloc (.cells #[.int .u8 u.head.toNat, .slice sa sn sc] 74)) A ps1) := HSD.out.keep (keepsP_alloc _ _) (by simp)
          have hnr : Hid (∀ g, (Value.ownBlock (.slice a1 A.length cap1)) = some g → w.heap.size + 2 ≤ g ∧ g < wr.heap.size ∧ g ≠ w.heap.size + 3) := fun g h => ⟨(ListS.row_own HROW.out g h).1, (ListS.row_own HROW.out g h).2, fun e => by
            cases ha : a1 with
            | none => rw [ha] at h; simp [Value.ownBlock] at h
            | some p => rw [ha] at h; simp [Value.ownBlock] at h; exact HNA.out p ha (by rw [h]; exact e)⟩
          have hzW : (wr.alloc (.cells #[.int .u8 u.head.toNat, .slice sa sn sc] 74)).heap.size = wr.heap.size + 1 := by simp
          have kn1W : (wr.alloc (.cells #[.int .u8 u.head.toNat, .slice sa sn sc] 74)).cell? ⟨w.heap.size + 3, 1, none⟩ = some (.slice a1 A.length cap1) := heap_cell HNBW.out 1
          clear c0 c1 kn0 kn1 fn1
          clear HB HNB HRES HROW HSD HNA
          generalize (wr.alloc (.cells #[.int .u8 u.head.toNat, .slice sa sn sc] 74)) = W at *
          refine wp_region_any (by kernel_rfl) ?_
          change wpAny _ _ _ _ _ _ _ (World.drew _)
          refine wpAny_take (i := 0) (v := .pointer (some ⟨w.heap.size + 3, 1, none⟩)) rfl (by kernel_rfl) (by kernel_rfl) (by kernel_rfl) (fun _ _ _ h => h) (Or.inl ⟨by rfl, fun _ => by go_simp⟩) ?_
          refine wpAny_take (i := 2) (v := .pointer (some ⟨mb, 0, none⟩)) rfl (by kernel_rfl) (by kernel_rfl) (by kernel_rfl) (fun _ _ _ h => h) (Or.inl ⟨by rfl, fun _ => by go_simp⟩) ?_
          refine wpAny_of_T (S := fun X => X.cell? ⟨w.heap.size + 3, 1, none⟩ = some (.slice a1 A.length cap1)) (m := 6) _ _ _ _ ?_
          refine wpAnyT_take (i := 1) (v := .slice a1 A.length cap1) rfl (by kernel_rfl) (by kernel_rfl) (by kernel_rfl) (by kernel_rfl) (fun _ _ _ h => h) (Or.inl ⟨by rfl, fun X hS => by have hS1 : X.cell? ⟨w.heap.size + 3, 1, none⟩ = some (.slice a1 A.length cap1) := hS; clear hS kn1W d0 d1; go_simp⟩) kn1W ?_
          refine wpAnyT_one 3 rfl (by kernel_rfl) (fun K hK => ?_)
          go_simp
          refine hK _ _ (fun _ => kn1W) ?_
          clear hK K d0 d1
          refine wpAnyT_one 4 rfl (by kernel_rfl) (fun K hK => ?_)
          go_simp
          refine (IH.out u _ _ W.drew f B mb (by omega) HMAPD.out (by show B ≤ W.heap.size; omega) HND.out).mono ?_
          rintro e w1 ⟨h3, q3, rfl, sn3, hb⟩
          obtain ⟨eh3, p3, n3, c3, eq3⟩ := (sn3.here).form
          have o1 : h3.oneCell' = true := by rw [eh3]; rfl
          have o2 : q3.oneCell' = true := by rw [eq3]; rfl
          have hz1 : W.heap.size ≤ w1.heap.size := hb.size
          have kn1 : w1.cell? ⟨w.heap.size + 3, 1, none⟩ = some (.slice a1 A.length cap1) := (hb.cell (p := ⟨w.heap.size + 3, 1, none⟩) (by show w.heap.size + 3 < W.heap.size; omega)).trans kn1W
          have SN3 := hid sn3
          have HB1 : Hid (Below W.heap.size W w1) := ⟨hb.os, hb.tape, hb.output, hb.size, hb.block⟩
          have HN1 := hid (below_heap HB1.out (by omega) HNBW.out)
          have HRES1 := hid (below_heap HB1.out (by omega) HRESW.out)
          clear sn3 hb kn1W eh3 eq3
          refine hK _ _ (fun _ => kn1) ?_
          clear hK K
          refine wpAnyT_one 5 rfl (by kernel_rfl) (fun K hK => ?_)
          go_simp
          refine hK _ _ (fun _ => heap_cell (hb_alloc HN1.out _) 1) ?_
          clear hK K
          refine wpAnyT_drop _ 6 _ _ _ (Nat.le_refl _) (by kernel_rfl) ?_
          change wpList _ _ _ (_ :: _) _ _
          go_wp2_with (first
            | (at_builtin; refine app_push_at 72 74 (.agg #[.int .u8 0, .slice .none 0 0]) 2 32 Try.underlying72 infoSN rfl (by decide) rfl _ _ rfl (w.heap.size + 2) (.slice a1 A.length cap1) A.length ps1 rfl (World.ownsRow.alloc (ListS.row_below HB1.out HROWW.out) _) w1.heap.size 1 [h3, q3] rfl rfl (news_two (heap_cell (heap_alloc_new _ _) 0) (heap_cell (heap_alloc_new _ _) 1)) (by simp [o1, o2]) (by unfold maxLen; omega) (by omega) (by simp; omega) ?_))
          intro g4 cap4 w4 hown hg hlie
          (try simp only [World.size_alloc] at hlie)
          have hn4 := grown_keep hg (hb_alloc HN1.out _) (fun e => (hnr.out _ e.symm).2.2 rfl)
          have hr4 := grown_keep hg (hb_alloc HRES1.out _) (fun e => by have := (hnr.out _ e.symm).1; omega)
          have kn1 := heap_cell hn4 1
          have fn1 := heap_free hn4 1
          have hz4 : w1.heap.size + 1 ≤ w4.heap.size := by have := hg.size; simpa using this
          have hg4 : g4 ≠ w.heap.size + 3 := by
            intro e
            rcases hlie with h | h
            · exact (hnr.out _ h).2.2 e
            · omega
          have HB4 : Hid (Below w.heap.size w w4) := ((HBW.out.trans (HB1.out.mono (by omega))).alloc (by omega) _).grown hg (by simp; omega) (fun g h => by have := (hnr.out g h).1; omega)
          have HP4 := hid (snsB_push (B := B) (lo := w.heap.size + 3 + 1) (w1' := w1.alloc (.cells #[h3, q3] 74)) (v' := .slice (some ⟨g4, 0, .none⟩) (A.length + 1) cap4) HSDW.out (fun g h => ⟨by have := (hnr.out g h).1; omega, by have := (hnr.out g h).2.1; omega⟩) HB1.out SN3.out (by omega) (by omega) (keepsP_alloc _ _) (by simp) hg (fun g h => by simp [Value.ownBlock] at h; subst h; rcases hlie with h | h; exact .inl h; exact .inr (by simp; omega)))
          have HO4 := hid hown
          have HN4 := hid hn4
          have HR4 := hid hr4
          clear hown hg hn4 hr4 hlie
          go_wp2
          go_roundg (gk - 1)
          case measure => omega
          case rel =>
            have e1 : (A ++ [sub f u]).length = A.length + 1 := by simp
            refine ⟨A ++ [sub f u], some ⟨g4, 0, .none⟩, cap4, ps1 ++ [h3, q3], by omega, by omega, by rw [e1]; go_num, ?_, ?_, ⟨xr, yr, ?_⟩, ?_, fun p h => by cases h; exact hg4, ?_, HB4.out.setCell (by show w.heap.size ≤ w.heap.size + 3; omega) _, by simp; omega⟩
            · show _ = _
              rw [e1]; exact hAu.out
            · rw [e1]; exact heap_set HN4.out 1 _
            · exact hb_set_ne HR4.out _ _ (by show w.heap.size + 1 ≠ w.heap.size + 3; omega)
            · rw [e1]; exact row_set HO4.out _ (by show g4 ≠ w.heap.size + 3; exact hg4)
            · rw [e1]; exact SNs.keep (keepsP_set _ _ _ (fun h => by have := h.1; dsimp only at this; omega)) (by simp) HP4.out
        · have hke : A.length = t.parts.length := by omega
          have HRR : Hid (SR (fun k => k < B ∨ w.heap.size + 2 ≤ k) wr (sub f t) (.int .u8 t.head.toNat) (.slice a1 A.length cap1)) := by
            have hAA : A = (sub f t).parts := by rw [HSN.out.2, hA.out, hke, List.take_length]
            have h1 := HROW.out
            have h2 := HSD.out
            have hl : (sub f t).parts.length = A.length := by rw [← hAA]
            rw [← HSN.out.1]
            have hnr : ∀ g, (Value.ownBlock (.slice a1 A.length cap1)) = some g → w.heap.size + 2 ≤ g := fun g h => (ListS.row_own HROW.out g h).1
            refine sr_of (P := exB B (w.heap.size + 3 + 1) (.slice a1 A.length cap1)) (base := w.heap.size + 2) (ps := ps1) ?_ ?_ (fun g h => .inr (hnr g h)) (fun k h => by rcases h.1 with h | h; exact .inl h; exact .inr (by omega))
            · rw [hl]; exact h1
            · rw [← hAA]; exact h2
          have kr0 := heap_cell HRES.out 0
          have kr1 := heap_cell HRES.out 1
          have fr0 := heap_free HRES.out 0
          have fr1 := heap_free HRES.out 1
          have hr1 : w.heap.size + 1 < wr.heap.size := by omega
          have HQ : Hid (A.length = t.parts.length) := hke
          clear hA hke hk hq
          go_wp2_with fail
          refine bodyPost_ret (results_cell_row rfl _ _ (w.heap.size + 1) 74 #[.int .u8 t.head.toNat, .slice a1 A.length cap1] (0, 0) _ rfl (heap_set (heap_set HRES.out 0 _) 1 _) Try.underlying74 rfl (by kernel_rfl)) rfl ?_
          refine ⟨_, _, rfl, ?_, (HB.out.setCell (by show w.heap.size ≤ w.heap.size + 1; omega) _).setCell (by show w.heap.size ≤ w.heap.size + 1; omega) _⟩
          have hP : ¬ ((fun k => k < B ∨ w.heap.size + 2 ≤ k) (w.heap.size + 1)) := by dsimp only; omega
          exact (HRR.out.keep ((keepsP_set _ _ _ hP).trans (keepsP_set _ _ _ hP) (by simp)) (by simp)).mono (fun k _ h => by rcases h with h | h; exact .inl h; exact .inr (by omega))
    · obtain ⟨hd, am, nm, capm, q1, q2, q3⟩ := hm3 k hk t.head hkl
      have HIX := hid hix
      have km0 : w.cell? ⟨mb, k * 2, none⟩ = some (.int .u8 hd.toNat) := (heap_cell hm1 _).trans q1
      have km1 : w.cell? ⟨mb, k * 2 + 1, none⟩ = some (.slice am nm capm) := (heap_cell hm1 _).trans q2
      clear hix hm0 hm3 hm1 hm2 q1 q2
      cases hf : f t.head with
      | none =>
        rw [hf] at q3
        obtain rfl : hd = 0 := q3
        have HF := hid hf
        have HSN : Hid ((sub f t).head = t.head ∧ (sub f t).parts = t.parts.map (sub f)) := sub_none hf
        clear hf
        go_enter Try.func70, Try.ntmps70
        go_wp2_with (first | (go_at_call 69; refine (l2Index_any t.head _).mono ?_; rintro e w' ⟨rfl, rfl⟩; rw [HIX.out]))
        go_loopg [35] t.parts.length (fun q iv wr => PL w B f t q iv wr)
        case atStart =>
          refine ⟨[], some ⟨w.heap.size + 2, 0, none⟩, 0, [], Nat.zero_le _, by simp, rfl, by show _ = _; simp, ?_, ?_, ?_, ?_, ?_, ?_, ?_⟩
          · exact hb_newk (by simp)
          · exact ⟨_, _, hb_alloc (hb_alloc (hb_newk (by simp)) _) _⟩
          · have h := World.ownsRow_made (e := 74) (size := 2) (base := w.heap.size + 2) ((w.alloc (.cells #[.int .u8 t.head.toNat, .slice a t.parts.length cap] 74)).alloc (.cells #[.int .u8 0, .slice none 0 0] 74)) #[] 0 (by simp) (by simp [maxLen]) rfl
            simp only [World.size_alloc] at h
            exact h.alloc _
          · intro p h; cases h; show w.heap.size + 2 ≠ w.heap.size + 3; omega
          · exact rfl
          · exact ((((Below.refl _ _).alloc (Nat.le_refl _) _).alloc (by simp) _).alloc (by simp; omega) _).alloc (by simp; omega) _
          · simp
        case round =>
          obtain ⟨A, a1, cap1, ps1, hk, hq, rfl, hA, hnb, ⟨xr, yr, hres⟩, hrw, hna, hsd, hb, hz⟩ := hrel
          have HB := hid hb
          have HNB := hid hnb
          have HRES := hid hres
          have HROW := hid hrw
          have HSD := hid hsd
          have HNA := hid hna
          have kn0 := heap_cell hnb 0
          have kn1 := heap_cell hnb 1
          have fn1 := heap_free hnb 1
          have hbz := hb.size
          clear hb hnb hres hrw hsd hna
          by_cases hlt : A.length < t.parts.length
          · obtain ⟨u, hu⟩ : ∃ u, t.parts[A.length]? = some u := ⟨_, List.getElem?_eq_getElem hlt⟩
            obtain ⟨h1, s1, e1, e2, hnu⟩ := HP.out A.length u hu
            obtain ⟨eh, sa, sn, sc, es⟩ := hnu.form
            subst eh es
            obtain ⟨g0, cap0, e0, -, hg0, cs0, hc0, hd0⟩ := row_at HV.out (by omega)
            cases e0
            have c0 : wr.cell? ⟨g0, A.length * 2, none⟩ = some (.int .u8 u.head.toNat) := (HB.out.cell (p := ⟨g0, A.length * 2, none⟩) hg0).trans ((heap_cell hc0 _).trans (hd0 _ _ e1))
            have c1 : wr.cell? ⟨g0, A.length * 2 + 1, none⟩ = some (.slice sa sn sc) := (HB.out.cell (p := ⟨g0, A.length * 2 + 1, none⟩) hg0).trans ((heap_cell hc0 _).trans (hd0 _ _ e2))
            have HND : Hid (SNode 0 (wr.alloc (.cells #[.int .u8 u.head.toNat, .slice sa sn sc] 74)).drew u (.int .u8 u.head.toNat) (.slice sa sn sc)) := Keeps.snode (w := w) (w' := (wr.alloc (.cells #[.int .u8 u.head.toNat, .slice sa sn sc] 74)).drew) (fun x _ hx => ((HB.out.alloc (by omega) (.cells #[.int .u8 u.head.toNat, .slice sa sn sc] 74)).block x hx)) (hnu.mono (Nat.zero_le _))
            have HMAPD : Hid (MapAt (fun k => k < B) (wr.alloc (.cells #[.int .u8 u.head.toNat, .slice sa sn sc] 74)).drew mb f) := HMAP.out.below (below_drew (HB.out.alloc (by omega) _))
            have hszu := size_parts t u A.length hu
            have h2 := parts_len t
            have hAu : Hid (A ++ [sub f u] = (t.parts.take (A.length + 1)).map (sub f)) := by
              show _ = _
              obtain ⟨hlt2, rfl⟩ := List.getElem?_eq_some_iff.1 hu
              rw [List.take_succ_eq_append_getElem hlt2, List.map_append, ← hA.out]; rfl
            have hgr : g0 < wr.heap.size := by omega
            clear hd0 hc0 e1 e2 hnu hu
            go_wp2_with fail
            have d0 : (wr.alloc (.cells #[.int .u8 u.head.toNat, .slice sa sn sc] 74)).cell? ⟨wr.heap.size, 0, none⟩ = some (.int .u8 u.head.toNat) := heap_cell (heap_alloc_new _ _) 0
            have d1 : (wr.alloc (.cells #[.int .u8 u.head.toNat, .slice sa sn sc] 74)).cell? ⟨wr.heap.size, 1, none⟩ = some (.slice sa sn sc) := heap_cell (heap_alloc_new _ _) 1
            have HNBW := hid (hb_alloc HNB.out (.cells #[.int .u8 u.head.toNat, .slice sa sn sc] 74))
            have HRESW := hid (hb_alloc HRES.out (.cells #[.int .u8 u.head.toNat, .slice sa sn sc] 74))
            have HBW : Hid (Below w.heap.size w (wr.alloc (.cells #[.int .u8 u.head.toNat, .slice sa sn sc] 74))) := HB.out.alloc (by omega) _
            have HROWW := hid (World.ownsRow.alloc HROW.out (.cells #[.int .u8 u.head.toNat, .slice sa sn sc] 74))
            have HSDW : Hid (SNs (exB B (w.heap.size + 3 + 1) (.slice a1 A.length cap1)) (wr.alloc (.cells #[.int .u8 u.head.toNat, .slice sa sn sc] 74)) A ps1) := HSD.out.keep (keepsP_alloc _ _) (by simp)
            have hnr : Hid (∀ g, (Value.ownBlock (.slice a1 A.length cap1)) = some g → w.heap.size + 2 ≤ g ∧ g < wr.heap.size ∧ g ≠ w.heap.size + 3) := fun g h => ⟨(ListS.row_own HROW.out g h).1, (ListS.row_own HROW.out g h).2, fun e => by
              cases ha : a1 with
              | none => rw [ha] at h; simp [Value.ownBlock] at h
              | some p => rw [ha] at h; simp [Value.ownBlock] at h; exact HNA.out p ha (by rw [h]; exact e)⟩
            have hzW : (wr.alloc (.cells #[.int .u8 u.head.toNat, .slice sa sn sc] 74)).heap.size = wr.heap.size + 1 := by simp
            have kn1W : (wr.alloc (.cells #[.int .u8 u.head.toNat, .slice sa sn sc] 74)).cell? ⟨w.heap.size + 3, 1, none⟩ = some (.slice a1 A.length cap1) := heap_cell HNBW.out 1
            clear c0 c1 kn0 kn1 fn1
            clear HB HNB HRES HROW HSD HNA
            generalize (wr.alloc (.cells #[.int .u8 u.head.toNat, .slice sa sn sc] 74)) = W at *
            refine wp_region_any (by kernel_rfl) ?_
            change wpAny _ _ _ _ _ _ _ (World.drew _)
            refine wpAny_take (i := 0) (v := .pointer (some ⟨w.heap.size + 3, 1, none⟩)) rfl (by kernel_rfl) (by kernel_rfl) (by kernel_rfl) (fun _ _ _ h => h) (Or.inl ⟨by rfl, fun _ => by go_simp⟩) ?_
            refine wpAny_take (i := 2) (v := .pointer (some ⟨mb, 0, none⟩)) rfl (by kernel_rfl) (by kernel_rfl) (by kernel_rfl) (fun _ _ _ h => h) (Or.inl ⟨by rfl, fun _ => by go_simp⟩) ?_
            refine wpAny_of_T (S := fun X => X.cell? ⟨w.heap.size + 3, 1, none⟩ = some (.slice a1 A.length cap1)) (m := 6) _ _ _ _ ?_
            refine wpAnyT_take (i := 1) (v := .slice a1 A.length cap1) rfl (by kernel_rfl) (by kernel_rfl) (by kernel_rfl) (by kernel_rfl) (fun _ _ _ h => h) (Or.inl ⟨by rfl, fun X hS => by have hS1 : X.cell? ⟨w.heap.size + 3, 1, none⟩ = some (.slice a1 A.length cap1) := hS; clear hS kn1W d0 d1; go_simp⟩) kn1W ?_
            refine wpAnyT_one 3 rfl (by kernel_rfl) (fun K hK => ?_)
            go_simp
            refine hK _ _ (fun _ => kn1W) ?_
            clear hK K d0 d1
            refine wpAnyT_one 4 rfl (by kernel_rfl) (fun K hK => ?_)
            go_simp
            refine (IH.out u _ _ W.drew f B mb (by omega) HMAPD.out (by show B ≤ W.heap.size; omega) HND.out).mono ?_
            rintro e w1 ⟨h3, q3, rfl, sn3, hb⟩
            obtain ⟨eh3, p3, n3, c3, eq3⟩ := (sn3.here).form
            have o1 : h3.oneCell' = true := by rw [eh3]; rfl
            have o2 : q3.oneCell' = true := by rw [eq3]; rfl
            have hz1 : W.heap.size ≤ w1.heap.size := hb.size
            have kn1 : w1.cell? ⟨w.heap.size + 3, 1, none⟩ = some (.slice a1 A.length cap1) := (hb.cell (p := ⟨w.heap.size + 3, 1, none⟩) (by show w.heap.size + 3 < W.heap.size; omega)).trans kn1W
            have SN3 := hid sn3
            have HB1 : Hid (Below W.heap.size W w1) := ⟨hb.os, hb.tape, hb.output, hb.size, hb.block⟩
            have HN1 := hid (below_heap HB1.out (by omega) HNBW.out)
            have HRES1 := hid (below_heap HB1.out (by omega) HRESW.out)
            clear sn3 hb kn1W eh3 eq3
            refine hK _ _ (fun _ => kn1) ?_
            clear hK K
            refine wpAnyT_one 5 rfl (by kernel_rfl) (fun K hK => ?_)
            go_simp
            refine hK _ _ (fun _ => heap_cell (hb_alloc HN1.out _) 1) ?_
            clear hK K
            refine wpAnyT_drop _ 6 _ _ _ (Nat.le_refl _) (by kernel_rfl) ?_
            change wpList _ _ _ (_ :: _) _ _
            go_wp2_with (first
              | (at_builtin; refine app_push_at 72 74 (.agg #[.int .u8 0, .slice .none 0 0]) 2 32 Try.underlying72 infoSN rfl (by decide) rfl _ _ rfl (w.heap.size + 2) (.slice a1 A.length cap1) A.length ps1 rfl (World.ownsRow.alloc (ListS.row_below HB1.out HROWW.out) _) w1.heap.size 1 [h3, q3] rfl rfl (news_two (heap_cell (heap_alloc_new _ _) 0) (heap_cell (heap_alloc_new _ _) 1)) (by simp [o1, o2]) (by unfold maxLen; omega) (by omega) (by simp; omega) ?_))
            intro g4 cap4 w4 hown hg hlie
            (try simp only [World.size_alloc] at hlie)
            have hn4 := grown_keep hg (hb_alloc HN1.out _) (fun e => (hnr.out _ e.symm).2.2 rfl)
            have hr4 := grown_keep hg (hb_alloc HRES1.out _) (fun e => by have := (hnr.out _ e.symm).1; omega)
            have kn1 := heap_cell hn4 1
            have fn1 := heap_free hn4 1
            have hz4 : w1.heap.size + 1 ≤ w4.heap.size := by have := hg.size; simpa using this
            have hg4 : g4 ≠ w.heap.size + 3 := by
              intro e
              rcases hlie with h | h
              · exact (hnr.out _ h).2.2 e
              · omega
            have HB4 : Hid (Below w.heap.size w w4) := ((HBW.out.trans (HB1.out.mono (by omega))).alloc (by omega) _).grown hg (by simp; omega) (fun g h => by have := (hnr.out g h).1; omega)
            have HP4 := hid (snsB_push (B := B) (lo := w.heap.size + 3 + 1) (w1' := w1.alloc (.cells #[h3, q3] 74)) (v' := .slice (some ⟨g4, 0, .none⟩) (A.length + 1) cap4) HSDW.out (fun g h => ⟨by have := (hnr.out g h).1; omega, by have := (hnr.out g h).2.1; omega⟩) HB1.out SN3.out (by omega) (by omega) (keepsP_alloc _ _) (by simp) hg (fun g h => by simp [Value.ownBlock] at h; subst h; rcases hlie with h | h; exact .inl h; exact .inr (by simp; omega)))
            have HO4 := hid hown
            have HN4 := hid hn4
            have HR4 := hid hr4
            clear hown hg hn4 hr4 hlie
            go_wp2
            go_roundg (gk - 1)
            case measure => omega
            case rel =>
              have e1 : (A ++ [sub f u]).length = A.length + 1 := by simp
              refine ⟨A ++ [sub f u], some ⟨g4, 0, .none⟩, cap4, ps1 ++ [h3, q3], by omega, by omega, by rw [e1]; go_num, ?_, ?_, ⟨xr, yr, ?_⟩, ?_, fun p h => by cases h; exact hg4, ?_, HB4.out.setCell (by show w.heap.size ≤ w.heap.size + 3; omega) _, by simp; omega⟩
              · show _ = _
                rw [e1]; exact hAu.out
              · rw [e1]; exact heap_set HN4.out 1 _
              · exact hb_set_ne HR4.out _ _ (by show w.heap.size + 1 ≠ w.heap.size + 3; omega)
              · rw [e1]; exact row_set HO4.out _ (by show g4 ≠ w.heap.size + 3; exact hg4)
              · rw [e1]; exact SNs.keep (keepsP_set _ _ _ (fun h => by have := h.1; dsimp only at this; omega)) (by simp) HP4.out
          · have hke : A.length = t.parts.length := by omega
            have HRR : Hid (SR (fun k => k < B ∨ w.heap.size + 2 ≤ k) wr (sub f t) (.int .u8 t.head.toNat) (.slice a1 A.length cap1)) := by
              have hAA : A = (sub f t).parts := by rw [HSN.out.2, hA.out, hke, List.take_length]
              have h1 := HROW.out
              have h2 := HSD.out
              have hl : (sub f t).parts.length = A.length := by rw [← hAA]
              rw [← HSN.out.1]
              have hnr : ∀ g, (Value.ownBlock (.slice a1 A.length cap1)) = some g → w.heap.size + 2 ≤ g := fun g h => (ListS.row_own HROW.out g h).1
              refine sr_of (P := exB B (w.heap.size + 3 + 1) (.slice a1 A.length cap1)) (base := w.heap.size + 2) (ps := ps1) ?_ ?_ (fun g h => .inr (hnr g h)) (fun k h => by rcases h.1 with h | h; exact .inl h; exact .inr (by omega))
              · rw [hl]; exact h1
              · rw [← hAA]; exact h2
            have kr0 := heap_cell HRES.out 0
            have kr1 := heap_cell HRES.out 1
            have fr0 := heap_free HRES.out 0
            have fr1 := heap_free HRES.out 1
            have hr1 : w.heap.size + 1 < wr.heap.size := by omega
            have HQ : Hid (A.length = t.parts.length) := hke
            clear hA hke hk hq
            go_wp2_with fail
            refine bodyPost_ret (results_cell_row rfl _ _ (w.heap.size + 1) 74 #[.int .u8 t.head.toNat, .slice a1 A.length cap1] (0, 0) _ rfl (heap_set (heap_set HRES.out 0 _) 1 _) Try.underlying74 rfl (by kernel_rfl)) rfl ?_
            refine ⟨_, _, rfl, ?_, (HB.out.setCell (by show w.heap.size ≤ w.heap.size + 1; omega) _).setCell (by show w.heap.size ≤ w.heap.size + 1; omega) _⟩
            have hP : ¬ ((fun k => k < B ∨ w.heap.size + 2 ≤ k) (w.heap.size + 1)) := by dsimp only; omega
            exact (HRR.out.keep ((keepsP_set _ _ _ hP).trans (keepsP_set _ _ _ hP) (by simp)) (by simp)).mono (fun k _ h => by rcases h with h | h; exact .inl h; exact .inr (by omega))
      | some u =>
        rw [hf] at q3
        obtain ⟨rfl, hne, hsr⟩ := q3
        have HS : Hid (sub f t = u) := sub_some hf
        have HSR := hid hsr
        have hz0 : ((u.head.toNat : Int) == 0) = false := by
          rw [beq_eq_false_iff_ne]; intro e
          exact hne (UInt8.toNat_inj.1 (by have : u.head.toNat = 0 := by omega
                                           rw [this]; rfl))
        have hz1 : ((u.head.toNat : Int) != 0) = true := by rw [bne, hz0]; rfl
        clear hf hne hsr
        go_enter Try.func70, Try.ntmps70
        go_wp2_with (first | (go_at_call 69; refine (l2Index_any t.head _).mono ?_; rintro e w' ⟨rfl, rfl⟩; rw [HIX.out]))
        rw [HS.out]
        refine bodyPost_ret (results_cell_row rfl _ _ (w.heap.size + 1) 74 #[.int .u8 u.head.toNat, .slice am nm capm] (0, 0) _ rfl (hb_newk (n := w.heap.size + 1) (w := w.alloc (.cells #[.int .u8 t.head.toNat, .slice a t.parts.length cap] 74)) (o := .cells #[.int .u8 u.head.toNat, .slice am nm capm] 74) (by simp)) Try.underlying74 rfl (by kernel_rfl)) rfl ?_
        refine ⟨_, _, rfl, ?_, ?_⟩
        · exact ((HSR.out.keep ((keepsP_alloc _ _).trans (keepsP_alloc _ _) (by simp)) (by simp; omega)).mono (fun k _ h => Or.inl h))
        · exact ((Below.refl _ _).alloc (Nat.le_refl _) _).alloc (by simp) _

end Sub
end Go.Proofs.Ytaapdhacnbhohaa
