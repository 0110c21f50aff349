/- The program's unify. Conditions: none. -/
import Derived.Test.YtcjalnianamlaaaGraW
import Derived.Test.YtcjalnianamlaaaStrOrd
import Derived.Test.YtcjalnianamlaaaVar
set_option linter.unusedVariables false
set_option linter.unusedSimpArgs false
set_option maxRecDepth 100000
namespace Go.Proofs.Ytcjalnianamlaaa
open Go.RowKit Ty
namespace GraW
open GraP PtrM ListS
inductive Ug2 (N : Nds) : Lks → Nat → Nat → Bool → Lks → Prop
  | same {L : Lks} {a b r : Nat} : En L a r → En L b r → Ug2 N L a b true L
  | clash {L : Lks} {a b x y : Nat} {cx cy : UInt8} {ps qs : List Nat} : En L a x → En L b y → x ≠ y → N x = some (cx, ps) → N y = some (cy, qs) → isV cx = false → isV cy = false → cx ≠ cy → Ug2 N L a b false L
  | con0 {L : Lks} {a b x y : Nat} {cx : UInt8} : En L a x → En L b y → x ≠ y → N x = some (cx, []) → N y = some (cx, []) → isV cx = false → Ug2 N L a b true (lnk L x y)
  | con1 {L L2 : Lks} {a b x y p q : Nat} {cx : UInt8} {r : Bool} : En L a x → En L b y → x ≠ y → N x = some (cx, [p]) → N y = some (cx, [q]) → isV cx = false → Ug2 N (lnk L x y) p q r L2 → Ug2 N L a b r L2
  | con2f {L L2 : Lks} {a b x y p p2 q q2 : Nat} {cx : UInt8} : En L a x → En L b y → x ≠ y → N x = some (cx, [p, p2]) → N y = some (cx, [q, q2]) → isV cx = false → Ug2 N (lnk L x y) p q false L2 → Ug2 N L a b false L2
  | con2t {L L1 L2 : Lks} {a b x y p p2 q q2 : Nat} {cx : UInt8} {r : Bool} : En L a x → En L b y → x ≠ y → N x = some (cx, [p, p2]) → N y = some (cx, [q, q2]) → isV cx = false → Ug2 N (lnk L x y) p q true L1 → Ug2 N L1 p2 q2 r L2 → Ug2 N L a b r L2
  | var {L : Lks} {a b x y : Nat} {cx cy : UInt8} {qs : List Nat} : En L a x → En L b y → x ≠ y → N x = some (cx, []) → N y = some (cy, qs) → isV cx = true → sw cx cy = false → Ug2 N L a b true (lnk L x y)
  | varS {L : Lks} {a b x y : Nat} {cx cy : UInt8} {qs : List Nat} : En L a y → En L b x → y ≠ x → N x = some (cx, []) → N y = some (cy, qs) → isV cx = true → sw cy cx = true → Ug2 N L a b true (lnk L x y)
theorem ug2 {N : Nds} (hw : Wh N) {L L2 : Lks} {a b : Nat} {r : Bool} (h : Ug N L a b r L2) : Ug2 N L a b r L2 := by
  induction h with
  | same ha hb => exact .same ha hb
  | swap ha hb hne hx hy hs hsub ih =>
    rename_i L L2 a b x y cx cy ps qs r
    have rx := en_root ha
    have ry := en_root hb
    obtain ⟨hv, hs2⟩ := ug_sw (N := N) hs
    have ey : ∀ z, En L y z → z = y := fun z h => en_det h (.stop ry)
    have ex : ∀ z, En L x z → z = x := fun z h => en_det h (.stop rx)
    cases hsub with
    | same h1 h2 => rename_i z; have e1 := ey _ h1; have e2 := ex _ h2; exact absurd (e2.symm.trans e1) hne
    | swap h1 h2 _ h3 h4 h5 _ => have := ey _ h1; subst this; have := ex _ h2; subst this; rw [hy] at h3; rw [hx] at h4; cases h3; cases h4; rw [hs2] at h5; simp at h5
    | clash h1 h2 _ h3 h4 h5 h6 h7 => have := ey _ h1; subst this; rw [hy] at h3; cases h3; rw [hv] at h6; simp at h6
    | con0 h1 h2 _ h3 h4 h5 h6 =>
      have := ey _ h1; subst this
      have := ex _ h2; subst this
      rw [hx] at h4
      cases h4
      rw [hy] at h3
      cases h3
      exact .varS ha hb hne hy hx hv hs
    | con1 h1 h2 _ h3 h4 h5 _ => have := ey _ h1; subst this; rw [hy] at h3; cases h3; rw [hv] at h5; simp at h5
    | con2f h1 h2 _ h3 h4 h5 _ => have := ey _ h1; subst this; rw [hy] at h3; cases h3; rw [hv] at h5; simp at h5
    | con2t h1 h2 _ h3 h4 h5 _ _ => have := ey _ h1; subst this; rw [hy] at h3; cases h3; rw [hv] at h5; simp at h5
  | clash ha hb hne hx hy hs hv hc =>
    refine .clash ha hb hne hx hy hv ?_ hc
    unfold sw at hs
    rw [hv] at hs
    simpa using hs
  | con0 ha hb hne hx hy hs hc =>
    rename_i L a b x y cx cy qs
    cases hv : isV cx with
    | true => exact .var ha hb hne hx hy hv hs
    | false =>
      rcases hc with h | h
      · rw [hv] at h; simp at h
      · subst h
        have q1 := hw.len x _ _ hx
        have q2 := hw.len y _ _ hy
        rw [q1] at q2
        obtain rfl : qs = [] := List.eq_nil_of_length_eq_zero (by simpa using q2.symm)
        exact .con0 ha hb hne hx hy hv
  | con1 ha hb hne hx hy hv _ ih => exact .con1 ha hb hne hx hy hv ih
  | con2f ha hb hne hx hy hv _ ih => exact .con2f ha hb hne hx hy hv ih
  | con2t ha hb hne hx hy hv _ _ i1 i2 => exact .con2t ha hb hne hx hy hv i1 i2
theorem nl_lnk {N : Nds} {L : Lks} (h : NL N L) {x y : Nat} (hy : ∃ v, N y = some v) : NL N (lnk L x y) := fun n b e => by
  by_cases hn : n = x
  · subst hn; rw [lnk_same] at e; cases e; exact hy
  · rw [lnk_ne hn] at e; exact h n b e
theorem ug_nl {N : Nds} {L L2 : Lks} {a b : Nat} {r : Bool} (h : Ug2 N L a b r L2) : NL N L → NL N L2 := by
  induction h with
  | same _ _ => exact id
  | clash _ _ _ _ _ _ _ _ => exact id
  | con0 _ _ _ _ hy _ => exact fun h => nl_lnk h ⟨_, hy⟩
  | con1 _ _ _ _ hy _ _ ih => exact fun h => ih (nl_lnk h ⟨_, hy⟩)
  | con2f _ _ _ _ hy _ _ ih => exact fun h => ih (nl_lnk h ⟨_, hy⟩)
  | con2t _ _ _ _ hy _ _ _ i1 i2 => exact fun h => i2 (i1 (nl_lnk h ⟨_, hy⟩))
  | var _ _ _ _ hy _ _ => exact fun h => nl_lnk h ⟨_, hy⟩
  | varS _ _ _ _ hy _ _ => exact fun h => nl_lnk h ⟨_, hy⟩
/-- all but nodes of N is as it was -/
structure TN (N : Nds) (w w' : World) : Prop where
  os : w'.os = w.os
  tape : w'.tape = w.tape
  output : w'.output = w.output
  size : w.heap.size ≤ w'.heap.size
  block : ∀ k, k < w.heap.size → N k = none → w'.heap[k]? = w.heap[k]?
theorem TN.refl (N : Nds) (w : World) : TN N w w := ⟨rfl, rfl, rfl, Nat.le_refl _, fun _ _ _ => rfl⟩
theorem TN.trans {N : Nds} {a b c : World} (h : TN N a b) (k : TN N b c) : TN N a c := ⟨k.os.trans h.os, k.tape.trans h.tape, k.output.trans h.output, Nat.le_trans h.size k.size, fun i hi hn => (k.block i (Nat.lt_of_lt_of_le hi h.size) hn).trans (h.block i hi hn)⟩
theorem TN.drew (N : Nds) (w : World) : TN N w w.drew := ⟨rfl, rfl, rfl, Nat.le_refl _, fun _ _ _ => rfl⟩
theorem TN.set {N : Nds} (w : World) {x o : Nat} (hx : ∃ v, N x = some v) (u : Value) : TN N w (w.setCell ⟨x, o, none⟩ u) := ⟨rfl, rfl, rfl, by simp, fun k _ hn => Below.heap_setCell _ _ _ _ (fun e => by obtain ⟨v, hv⟩ := hx; have e2 : k = x := e; rw [← e2, hn] at hv; simp at hv)⟩
theorem row_tn {N : Nds} {L : Lks} {B : Nat → Prop} {w w' : World} (h : TN N w w') (hg : GH w N L B) {v : Value} {n : Nat} {xs : List Value} (hr : w.ownsRow 0 81 1 v n xs) : w'.ownsRow 0 81 1 v n xs := by
  refine ⟨hr.1, ?_⟩
  rcases hr.2 with h4 | ⟨g, cap', cur, h4, h5, h6, r⟩
  · exact .inl h4
  · refine .inr ⟨g, cap', cur, h4, h5, (h.block g (lt_of_heap h6) ?_).trans h6, r⟩
    cases hn : N g with
    | none => rfl
    | some v =>
      obtain ⟨c, ps⟩ := v
      obtain ⟨u, q, _⟩ := hg g c ps hn
      rw [h6] at q
      simp at q
theorem gtr1 (P : Program) (t : TypeId) (c d : UInt8) (w : World) : (binOp .gtr t (.string ⟨#[c]⟩) (.string ⟨#[d]⟩)).run P w = .ok (.bool (decide (d.toNat < c.toNat))) w := by
  have h := less1 c d
  unfold binOp Op.stringOp
  simp
  rw [h]
  by_cases e : c = d
  · subst e; simp
  · have e' : ¬ c.toNat = d.toNat := fun h => e (UInt8.toNat_inj.1 h)
    by_cases h : d.toNat < c.toNat
    · simp [e, h, show ¬ c.toNat < d.toNat by omega]
    · simp [e, h, show c.toNat < d.toNat by omega]
theorem isVar_one (c : UInt8) (v : Bool) (h : isV c = v) (w : World) : Calls Try.prog 67 #[.string ⟨#[c]⟩] w fun e w' => e = .returned (.bool v) ∧ w = w' := by
  have := isVar_impl [c] w (by simp)
  have e : isVarL [c] = v := h
  rw [e] at this
  exact this
theorem isVar_gen (c : UInt8) (w : World) : Calls Try.prog 67 #[.string ⟨#[c]⟩] w fun e w' => e = .returned (.bool (isV c)) ∧ w = w' := isVar_one c _ rfl w
theorem en_node {N : Nds} {L : Lks} {n r : Nat} (h : En L n r) (hnl : NL N L) (hn : ∃ v, N n = some v) : ∃ v, N r = some v := by
  induction h with
  | stop _ => exact hn
  | step e _ ih => exact ih (hnl _ _ e)
def UgPostW (w : World) (N : Nds) (L2 : Lks) (B : Nat → Prop) (r : Bool) (e : Ending) (w' : World) : Prop := e = .returned (.bool r) ∧ GH w' N L2 B ∧ TN N w w'
abbrev UgAt (N : Nds) (L : Lks) (a b : Nat) (r : Bool) (L2 : Lks) : Prop := ∀ (w : World) (B : Nat → Prop), GH w N L B → NL N L → (∃ v, N a = some v) → (∃ v, N b = some v) → Calls Try.prog 42 #[ptr a, ptr b] w (UgPostW w N L2 B r)
set_option maxHeartbeats 8000000 in
theorem ug_same {N : Nds} {L : Lks} {a b r : Nat} (ha : En L a r) (hb : En L b r) : UgAt N L a b true L := by
  intro w B hg hnl hna hnb
  have HG := hid hg
  have HNL := hid hnl
  have HNA := hid hna
  have HNB := hid hnb
  have hpe : (binOp .eql 81 (.pointer (some ⟨r, 0, none⟩)) (.pointer (some ⟨r, 0, none⟩))).run Try.prog w = .ok (.bool true) w := by
    have hr : ∃ v, N r = some v := en_node ha hnl hna
    have := eql_ptr (w := w) (hg.nb hr) (hg.nb hr)
    rwa [decide_eq_true rfl] at this
  clear hg hnl hna hnb
  go_enter Try.func42, Try.ntmps42
  go_wp2_with fail
  refine (end_any ha HNL.out w HG.out HNA.out).mono ?_
  rintro e w' ⟨rfl, rfl⟩
  go_wp2_with fail
  refine (end_any hb HNL.out w HG.out HNB.out).mono ?_
  rintro e w' ⟨rfl, rfl⟩
  go_wp2_with fail
  clear hpe
  go_ret
  exact ⟨rfl, HG.out, TN.refl _ _⟩
set_option maxHeartbeats 8000000 in
theorem ug_clash {N : Nds} {L : Lks} {a b x y : Nat} {cx cy : UInt8} {ps qs : List Nat} (ha : En L a x) (hb : En L b y) (hne : x ≠ y) (hx : N x = some (cx, ps)) (hy : N y = some (cy, qs)) (hvx : isV cx = false) (hvy : isV cy = false) (hc : cx ≠ cy) : UgAt N L a b false L := by
  have hnc : (cx == cy) = false := by rw [beq_eq_false_iff_ne]; exact hc
  clear hc
  intro w B hg hnl hna hnb
  have HG := hid hg
  have HNL := hid hnl
  have HNA := hid hna
  have HNB := hid hnb
  have hpe : (binOp .eql 81 (.pointer (some ⟨x, 0, none⟩)) (.pointer (some ⟨y, 0, none⟩))).run Try.prog w = .ok (.bool false) w := by
    have := eql_ptr (w := w) (hg.nb ⟨_, hx⟩) (hg.nb ⟨_, hy⟩)
    rwa [decide_eq_false hne] at this
  obtain ⟨ax, capx, x0, x1, x2, fx2, hlx, hrx⟩ := hg.at hx
  obtain ⟨ay, capy, y0, y1, y2, fy2, hly, hry⟩ := hg.at hy
  have HRX := hid hrx
  have HRY := hid hry
  have HX := hid hx
  have HY := hid hy
  have HNE := hid hne
  clear hx hy hne hrx hry
  clear hg hnl hna hnb
  go_enter Try.func42, Try.ntmps42
  go_wp2_with fail
  refine (end_any ha HNL.out w HG.out HNA.out).mono ?_
  rintro e w' ⟨rfl, rfl⟩
  go_wp2_with fail
  refine (end_any hb HNL.out w HG.out HNB.out).mono ?_
  rintro e w' ⟨rfl, rfl⟩
  go_wp2_with fail
  clear hpe
  refine wp_region_any (by kernel_rfl) ?_
  change wpAny _ _ _ _ _ _ _ (World.drew _)
  have SX : w.drew.cell? ⟨x, 0, none⟩ = some (.string ⟨#[cx]⟩) ∧ w.drew.cell? ⟨y, 0, none⟩ = some (.string ⟨#[cy]⟩) := ⟨x0, y0⟩
  refine wpAny_of_T (S := fun X => X.cell? ⟨x, 0, none⟩ = some (.string ⟨#[cx]⟩) ∧ X.cell? ⟨y, 0, none⟩ = some (.string ⟨#[cy]⟩)) (m := 24) _ _ _ _ ?_
  refine wpAnyT_take (i := 0) (v := .pointer (some ⟨x, 0, none⟩)) rfl (by kernel_rfl) (by kernel_rfl) (by kernel_rfl) (by kernel_rfl) (fun _ _ _ h => h) (Or.inl ⟨by kernel_rfl, fun X hS => by obtain ⟨e0, e1⟩ := hS; go_simp⟩) SX ?_
  try go_simp
  refine wpAnyT_take (i := 1) (v := .pointer (some ⟨x, 0, none⟩)) rfl (by kernel_rfl) (by kernel_rfl) (by kernel_rfl) (by kernel_rfl) (fun _ _ _ h => h) (Or.inl ⟨by kernel_rfl, fun X hS => by obtain ⟨e0, e1⟩ := hS; go_simp⟩) SX ?_
  try go_simp
  refine wpAnyT_take (i := 2) (v := .pointer (some ⟨x, 0, none⟩)) rfl (by kernel_rfl) (by kernel_rfl) (by kernel_rfl) (by kernel_rfl) (fun _ _ _ h => h) (Or.inl ⟨by kernel_rfl, fun X hS => by obtain ⟨e0, e1⟩ := hS; go_simp⟩) SX ?_
  try go_simp
  refine wpAnyT_take (i := 3) (v := .string ⟨#[cx]⟩) rfl (by kernel_rfl) (by kernel_rfl) (by kernel_rfl) (by kernel_rfl) (fun _ _ _ h => h) (Or.inl ⟨by kernel_rfl, fun X hS => by obtain ⟨e0, e1⟩ := hS; clear x0 y0; go_simp⟩) SX ?_
  try go_simp
  refine wpAnyT_one 4 rfl (by kernel_rfl) (fun K hK => ?_)
  go_simp
  refine (isVar_one cx false hvx w.drew).mono ?_
  rintro e w' ⟨rfl, rfl⟩
  refine hK _ _ (fun _ => SX) ?_
  clear hK K
  refine wpAnyT_take (i := 5) (v := .bool false) rfl (by kernel_rfl) (by kernel_rfl) (by kernel_rfl) (by kernel_rfl) (fun _ _ _ h => h) (Or.inl ⟨by kernel_rfl, fun X hS => by obtain ⟨e0, e1⟩ := hS; go_simp⟩) SX ?_
  try go_simp
  refine wpAnyT_take (i := 6) (v := undef) rfl (by kernel_rfl) (by kernel_rfl) (by kernel_rfl) (by kernel_rfl) (fun _ _ _ h => h) (Or.inr ⟨by kernel_rfl, rfl⟩) SX ?_
  try go_simp
  refine wpAnyT_take (i := 7) (v := undef) rfl (by kernel_rfl) (by kernel_rfl) (by kernel_rfl) (by kernel_rfl) (fun _ _ _ h => h) (Or.inr ⟨by kernel_rfl, rfl⟩) SX ?_
  try go_simp
  refine wpAnyT_take (i := 8) (v := undef) rfl (by kernel_rfl) (by kernel_rfl) (by kernel_rfl) (by kernel_rfl) (fun _ _ _ h => h) (Or.inr ⟨by kernel_rfl, rfl⟩) SX ?_
  try go_simp
  refine wpAnyT_take (i := 9) (v := undef) rfl (by kernel_rfl) (by kernel_rfl) (by kernel_rfl) (by kernel_rfl) (fun _ _ _ h => h) (Or.inr ⟨by kernel_rfl, rfl⟩) SX ?_
  try go_simp
  refine wpAnyT_take (i := 10) (v := undef) rfl (by kernel_rfl) (by kernel_rfl) (by kernel_rfl) (by kernel_rfl) (fun _ _ _ h => h) (Or.inr ⟨by kernel_rfl, rfl⟩) SX ?_
  try go_simp
  refine wpAnyT_take (i := 11) (v := .bool false) rfl (by kernel_rfl) (by kernel_rfl) (by kernel_rfl) (by kernel_rfl) (fun _ _ _ h => h) (Or.inl ⟨by kernel_rfl, fun X hS => by obtain ⟨e0, e1⟩ := hS; go_simp⟩) SX ?_
  try go_simp
  refine wpAnyT_take (i := 12) (v := .bool false) rfl (by kernel_rfl) (by kernel_rfl) (by kernel_rfl) (by kernel_rfl) (fun _ _ _ h => h) (Or.inl ⟨by kernel_rfl, fun X hS => by obtain ⟨e0, e1⟩ := hS; go_simp⟩) SX ?_
  try go_simp
  refine wpAnyT_take (i := 13) (v := undef) rfl (by kernel_rfl) (by kernel_rfl) (by kernel_rfl) (by kernel_rfl) (fun _ _ _ h => h) (Or.inr ⟨by kernel_rfl, rfl⟩) SX ?_
  try go_simp
  refine wpAnyT_take (i := 14) (v := undef) rfl (by kernel_rfl) (by kernel_rfl) (by kernel_rfl) (by kernel_rfl) (fun _ _ _ h => h) (Or.inr ⟨by kernel_rfl, rfl⟩) SX ?_
  try go_simp
  refine wpAnyT_take (i := 15) (v := undef) rfl (by kernel_rfl) (by kernel_rfl) (by kernel_rfl) (by kernel_rfl) (fun _ _ _ h => h) (Or.inr ⟨by kernel_rfl, rfl⟩) SX ?_
  try go_simp
  refine wpAnyT_take (i := 16) (v := undef) rfl (by kernel_rfl) (by kernel_rfl) (by kernel_rfl) (by kernel_rfl) (fun _ _ _ h => h) (Or.inr ⟨by kernel_rfl, rfl⟩) SX ?_
  try go_simp
  refine wpAnyT_take (i := 17) (v := undef) rfl (by kernel_rfl) (by kernel_rfl) (by kernel_rfl) (by kernel_rfl) (fun _ _ _ h => h) (Or.inr ⟨by kernel_rfl, rfl⟩) SX ?_
  try go_simp
  refine wpAnyT_take (i := 18) (v := undef) rfl (by kernel_rfl) (by kernel_rfl) (by kernel_rfl) (by kernel_rfl) (fun _ _ _ h => h) (Or.inr ⟨by kernel_rfl, rfl⟩) SX ?_
  try go_simp
  refine wpAnyT_take (i := 19) (v := undef) rfl (by kernel_rfl) (by kernel_rfl) (by kernel_rfl) (by kernel_rfl) (fun _ _ _ h => h) (Or.inr ⟨by kernel_rfl, rfl⟩) SX ?_
  try go_simp
  refine wpAnyT_take (i := 20) (v := undef) rfl (by kernel_rfl) (by kernel_rfl) (by kernel_rfl) (by kernel_rfl) (fun _ _ _ h => h) (Or.inr ⟨by kernel_rfl, rfl⟩) SX ?_
  try go_simp
  refine wpAnyT_take (i := 21) (v := undef) rfl (by kernel_rfl) (by kernel_rfl) (by kernel_rfl) (by kernel_rfl) (fun _ _ _ h => h) (Or.inr ⟨by kernel_rfl, rfl⟩) SX ?_
  try go_simp
  refine wpAnyT_take (i := 22) (v := .bool false) rfl (by kernel_rfl) (by kernel_rfl) (by kernel_rfl) (by kernel_rfl) (fun _ _ _ h => h) (Or.inl ⟨by kernel_rfl, fun X hS => by obtain ⟨e0, e1⟩ := hS; go_simp⟩) SX ?_
  try go_simp
  refine wpAnyT_one 23 rfl (by kernel_rfl) (fun K hK => ?_)
  go_simp
  refine hK _ _ (fun _ => SX) ?_
  clear hK K
  refine wpAnyT_drop _ 24 _ _ _ (by decide) (by kernel_rfl) ?_
  change wpList _ _ _ [] _ _
  clear SX
  go_wp2_with (first | (go_at_call 67; refine (isVar_gen _ _).mono ?_; rintro e w' ⟨rfl, rfl⟩; first | rw [hvx] | rw [hvy]))
  refine wp_region_any (by kernel_rfl) ?_
  change wpAny _ _ _ _ _ _ _ (World.drew _)
  have SX : w.drew.drew.cell? ⟨x, 0, none⟩ = some (.string ⟨#[cx]⟩) ∧ w.drew.drew.cell? ⟨y, 0, none⟩ = some (.string ⟨#[cy]⟩) := ⟨x0, y0⟩
  refine wpAny_of_T (S := fun X => X.cell? ⟨x, 0, none⟩ = some (.string ⟨#[cx]⟩) ∧ X.cell? ⟨y, 0, none⟩ = some (.string ⟨#[cy]⟩)) (m := 17) _ _ _ _ ?_
  refine wpAnyT_take (i := 0) (v := .pointer (some ⟨x, 0, none⟩)) rfl (by kernel_rfl) (by kernel_rfl) (by kernel_rfl) (by kernel_rfl) (fun _ _ _ h => h) (Or.inl ⟨by kernel_rfl, fun X hS => by obtain ⟨e0, e1⟩ := hS; go_simp⟩) SX ?_
  try go_simp
  refine wpAnyT_take (i := 1) (v := .pointer (some ⟨x, 0, none⟩)) rfl (by kernel_rfl) (by kernel_rfl) (by kernel_rfl) (by kernel_rfl) (fun _ _ _ h => h) (Or.inl ⟨by kernel_rfl, fun X hS => by obtain ⟨e0, e1⟩ := hS; go_simp⟩) SX ?_
  try go_simp
  refine wpAnyT_take (i := 2) (v := .pointer (some ⟨x, 0, none⟩)) rfl (by kernel_rfl) (by kernel_rfl) (by kernel_rfl) (by kernel_rfl) (fun _ _ _ h => h) (Or.inl ⟨by kernel_rfl, fun X hS => by obtain ⟨e0, e1⟩ := hS; go_simp⟩) SX ?_
  try go_simp
  refine wpAnyT_take (i := 3) (v := .string ⟨#[cx]⟩) rfl (by kernel_rfl) (by kernel_rfl) (by kernel_rfl) (by kernel_rfl) (fun _ _ _ h => h) (Or.inl ⟨by kernel_rfl, fun X hS => by obtain ⟨e0, e1⟩ := hS; clear x0 y0; go_simp⟩) SX ?_
  try go_simp
  refine wpAnyT_one 4 rfl (by kernel_rfl) (fun K hK => ?_)
  go_simp
  refine (isVar_one cx false hvx w.drew.drew).mono ?_
  rintro e w' ⟨rfl, rfl⟩
  refine hK _ _ (fun _ => SX) ?_
  clear hK K
  refine wpAnyT_take (i := 5) (v := .bool true) rfl (by kernel_rfl) (by kernel_rfl) (by kernel_rfl) (by kernel_rfl) (fun _ _ _ h => h) (Or.inl ⟨by kernel_rfl, fun X hS => by obtain ⟨e0, e1⟩ := hS; go_simp⟩) SX ?_
  try go_simp
  refine wpAnyT_take (i := 6) (v := .bool true) rfl (by kernel_rfl) (by kernel_rfl) (by kernel_rfl) (by kernel_rfl) (fun _ _ _ h => h) (Or.inl ⟨by kernel_rfl, fun X hS => by obtain ⟨e0, e1⟩ := hS; go_simp⟩) SX ?_
  try go_simp
  refine wpAnyT_take (i := 7) (v := .pointer (some ⟨x, 0, none⟩)) rfl (by kernel_rfl) (by kernel_rfl) (by kernel_rfl) (by kernel_rfl) (fun _ _ _ h => h) (Or.inl ⟨by kernel_rfl, fun X hS => by obtain ⟨e0, e1⟩ := hS; go_simp⟩) SX ?_
  try go_simp
  refine wpAnyT_take (i := 8) (v := .pointer (some ⟨x, 0, none⟩)) rfl (by kernel_rfl) (by kernel_rfl) (by kernel_rfl) (by kernel_rfl) (fun _ _ _ h => h) (Or.inl ⟨by kernel_rfl, fun X hS => by obtain ⟨e0, e1⟩ := hS; go_simp⟩) SX ?_
  try go_simp
  refine wpAnyT_take (i := 9) (v := .pointer (some ⟨x, 0, none⟩)) rfl (by kernel_rfl) (by kernel_rfl) (by kernel_rfl) (by kernel_rfl) (fun _ _ _ h => h) (Or.inl ⟨by kernel_rfl, fun X hS => by obtain ⟨e0, e1⟩ := hS; go_simp⟩) SX ?_
  try go_simp
  refine wpAnyT_take (i := 10) (v := .string ⟨#[cx]⟩) rfl (by kernel_rfl) (by kernel_rfl) (by kernel_rfl) (by kernel_rfl) (fun _ _ _ h => h) (Or.inl ⟨by kernel_rfl, fun X hS => by obtain ⟨e0, e1⟩ := hS; clear x0 y0; go_simp⟩) SX ?_
  try go_simp
  refine wpAnyT_take (i := 11) (v := .pointer (some ⟨y, 0, none⟩)) rfl (by kernel_rfl) (by kernel_rfl) (by kernel_rfl) (by kernel_rfl) (fun _ _ _ h => h) (Or.inl ⟨by kernel_rfl, fun X hS => by obtain ⟨e0, e1⟩ := hS; go_simp⟩) SX ?_
  try go_simp
  refine wpAnyT_take (i := 12) (v := .pointer (some ⟨y, 0, none⟩)) rfl (by kernel_rfl) (by kernel_rfl) (by kernel_rfl) (by kernel_rfl) (fun _ _ _ h => h) (Or.inl ⟨by kernel_rfl, fun X hS => by obtain ⟨e0, e1⟩ := hS; go_simp⟩) SX ?_
  try go_simp
  refine wpAnyT_take (i := 13) (v := .pointer (some ⟨y, 0, none⟩)) rfl (by kernel_rfl) (by kernel_rfl) (by kernel_rfl) (by kernel_rfl) (fun _ _ _ h => h) (Or.inl ⟨by kernel_rfl, fun X hS => by obtain ⟨e0, e1⟩ := hS; go_simp⟩) SX ?_
  try go_simp
  refine wpAnyT_take (i := 14) (v := .string ⟨#[cy]⟩) rfl (by kernel_rfl) (by kernel_rfl) (by kernel_rfl) (by kernel_rfl) (fun _ _ _ h => h) (Or.inl ⟨by kernel_rfl, fun X hS => by obtain ⟨e0, e1⟩ := hS; clear x0 y0; go_simp⟩) SX ?_
  try go_simp
  refine wpAnyT_take (i := 15) (v := .bool true) rfl (by kernel_rfl) (by kernel_rfl) (by kernel_rfl) (by kernel_rfl) (fun _ _ _ h => h) (Or.inl ⟨by kernel_rfl, fun X hS => by clear hS; go_simp⟩) SX ?_
  try go_simp
  refine wpAnyT_take (i := 16) (v := .bool true) rfl (by kernel_rfl) (by kernel_rfl) (by kernel_rfl) (by kernel_rfl) (fun _ _ _ h => h) (Or.inl ⟨by kernel_rfl, fun X hS => by obtain ⟨e0, e1⟩ := hS; go_simp⟩) SX ?_
  try go_simp
  refine wpAnyT_drop _ 17 _ _ _ (by decide) (by kernel_rfl) ?_
  change wpList _ _ _ [] _ _
  clear SX
  go_wp2_with fail
  go_ret
  exact ⟨rfl, HG.out.kc (KC.refl _), (TN.drew _ _).trans (TN.drew _ _)⟩
set_option maxHeartbeats 8000000 in
theorem ug_con0 {N : Nds} {L : Lks} {a b x y : Nat} {cx : UInt8} (ha : En L a x) (hb : En L b y) (hne : x ≠ y) (hx : N x = some (cx, [])) (hy : N y = some (cx, [])) (hvx : isV cx = false) : UgAt N L a b true (lnk L x y) := by
  obtain ⟨cy, hcy⟩ : ∃ cy, cy = cx := ⟨_, rfl⟩
  rw [← hcy] at hy
  have hvy : isV cy = false := by rw [hcy]; exact hvx
  have hee : (cx == cy) = true := by rw [hcy]; simp
  clear hcy
  intro w B hg hnl hna hnb
  have HG := hid hg
  have HNL := hid hnl
  have HNA := hid hna
  have HNB := hid hnb
  have hpe : (binOp .eql 81 (.pointer (some ⟨x, 0, none⟩)) (.pointer (some ⟨y, 0, none⟩))).run Try.prog w = .ok (.bool false) w := by
    have := eql_ptr (w := w) (hg.nb ⟨_, hx⟩) (hg.nb ⟨_, hy⟩)
    rwa [decide_eq_false hne] at this
  obtain ⟨ax, capx, x0, x1, x2, fx2, hlx, hrx⟩ := hg.at hx
  obtain ⟨ay, capy, y0, y1, y2, fy2, hly, hry⟩ := hg.at hy
  have HRX := hid hrx
  have HRY := hid hry
  have HX := hid hx
  have HY := hid hy
  have HNE := hid hne
  clear hx hy hne hrx hry
  clear hg hnl hna hnb
  go_enter Try.func42, Try.ntmps42
  go_wp2_with fail
  refine (end_any ha HNL.out w HG.out HNA.out).mono ?_
  rintro e w' ⟨rfl, rfl⟩
  go_wp2_with fail
  refine (end_any hb HNL.out w HG.out HNB.out).mono ?_
  rintro e w' ⟨rfl, rfl⟩
  go_wp2_with fail
  clear hpe
  refine wp_region_any (by kernel_rfl) ?_
  change wpAny _ _ _ _ _ _ _ (World.drew _)
  have SX : w.drew.cell? ⟨x, 0, none⟩ = some (.string ⟨#[cx]⟩) ∧ w.drew.cell? ⟨y, 0, none⟩ = some (.string ⟨#[cy]⟩) := ⟨x0, y0⟩
  refine wpAny_of_T (S := fun X => X.cell? ⟨x, 0, none⟩ = some (.string ⟨#[cx]⟩) ∧ X.cell? ⟨y, 0, none⟩ = some (.string ⟨#[cy]⟩)) (m := 24) _ _ _ _ ?_
  refine wpAnyT_take (i := 0) (v := .pointer (some ⟨x, 0, none⟩)) rfl (by kernel_rfl) (by kernel_rfl) (by kernel_rfl) (by kernel_rfl) (fun _ _ _ h => h) (Or.inl ⟨by kernel_rfl, fun X hS => by obtain ⟨e0, e1⟩ := hS; go_simp⟩) SX ?_
  try go_simp
  refine wpAnyT_take (i := 1) (v := .pointer (some ⟨x, 0, none⟩)) rfl (by kernel_rfl) (by kernel_rfl) (by kernel_rfl) (by kernel_rfl) (fun _ _ _ h => h) (Or.inl ⟨by kernel_rfl, fun X hS => by obtain ⟨e0, e1⟩ := hS; go_simp⟩) SX ?_
  try go_simp
  refine wpAnyT_take (i := 2) (v := .pointer (some ⟨x, 0, none⟩)) rfl (by kernel_rfl) (by kernel_rfl) (by kernel_rfl) (by kernel_rfl) (fun _ _ _ h => h) (Or.inl ⟨by kernel_rfl, fun X hS => by obtain ⟨e0, e1⟩ := hS; go_simp⟩) SX ?_
  try go_simp
  refine wpAnyT_take (i := 3) (v := .string ⟨#[cx]⟩) rfl (by kernel_rfl) (by kernel_rfl) (by kernel_rfl) (by kernel_rfl) (fun _ _ _ h => h) (Or.inl ⟨by kernel_rfl, fun X hS => by obtain ⟨e0, e1⟩ := hS; clear x0 y0; go_simp⟩) SX ?_
  try go_simp
  refine wpAnyT_one 4 rfl (by kernel_rfl) (fun K hK => ?_)
  go_simp
  refine (isVar_one cx false hvx w.drew).mono ?_
  rintro e w' ⟨rfl, rfl⟩
  refine hK _ _ (fun _ => SX) ?_
  clear hK K
  refine wpAnyT_take (i := 5) (v := .bool false) rfl (by kernel_rfl) (by kernel_rfl) (by kernel_rfl) (by kernel_rfl) (fun _ _ _ h => h) (Or.inl ⟨by kernel_rfl, fun X hS => by obtain ⟨e0, e1⟩ := hS; go_simp⟩) SX ?_
  try go_simp
  refine wpAnyT_take (i := 6) (v := undef) rfl (by kernel_rfl) (by kernel_rfl) (by kernel_rfl) (by kernel_rfl) (fun _ _ _ h => h) (Or.inr ⟨by kernel_rfl, rfl⟩) SX ?_
  try go_simp
  refine wpAnyT_take (i := 7) (v := undef) rfl (by kernel_rfl) (by kernel_rfl) (by kernel_rfl) (by kernel_rfl) (fun _ _ _ h => h) (Or.inr ⟨by kernel_rfl, rfl⟩) SX ?_
  try go_simp
  refine wpAnyT_take (i := 8) (v := undef) rfl (by kernel_rfl) (by kernel_rfl) (by kernel_rfl) (by kernel_rfl) (fun _ _ _ h => h) (Or.inr ⟨by kernel_rfl, rfl⟩) SX ?_
  try go_simp
  refine wpAnyT_take (i := 9) (v := undef) rfl (by kernel_rfl) (by kernel_rfl) (by kernel_rfl) (by kernel_rfl) (fun _ _ _ h => h) (Or.inr ⟨by kernel_rfl, rfl⟩) SX ?_
  try go_simp
  refine wpAnyT_take (i := 10) (v := undef) rfl (by kernel_rfl) (by kernel_rfl) (by kernel_rfl) (by kernel_rfl) (fun _ _ _ h => h) (Or.inr ⟨by kernel_rfl, rfl⟩) SX ?_
  try go_simp
  refine wpAnyT_take (i := 11) (v := .bool false) rfl (by kernel_rfl) (by kernel_rfl) (by kernel_rfl) (by kernel_rfl) (fun _ _ _ h => h) (Or.inl ⟨by kernel_rfl, fun X hS => by obtain ⟨e0, e1⟩ := hS; go_simp⟩) SX ?_
  try go_simp
  refine wpAnyT_take (i := 12) (v := .bool false) rfl (by kernel_rfl) (by kernel_rfl) (by kernel_rfl) (by kernel_rfl) (fun _ _ _ h => h) (Or.inl ⟨by kernel_rfl, fun X hS => by obtain ⟨e0, e1⟩ := hS; go_simp⟩) SX ?_
  try go_simp
  refine wpAnyT_take (i := 13) (v := undef) rfl (by kernel_rfl) (by kernel_rfl) (by kernel_rfl) (by kernel_rfl) (fun _ _ _ h => h) (Or.inr ⟨by kernel_rfl, rfl⟩) SX ?_
  try go_simp
  refine wpAnyT_take (i := 14) (v := undef) rfl (by kernel_rfl) (by kernel_rfl) (by kernel_rfl) (by kernel_rfl) (fun _ _ _ h => h) (Or.inr ⟨by kernel_rfl, rfl⟩) SX ?_
  try go_simp
  refine wpAnyT_take (i := 15) (v := undef) rfl (by kernel_rfl) (by kernel_rfl) (by kernel_rfl) (by kernel_rfl) (fun _ _ _ h => h) (Or.inr ⟨by kernel_rfl, rfl⟩) SX ?_
  try go_simp
  refine wpAnyT_take (i := 16) (v := undef) rfl (by kernel_rfl) (by kernel_rfl) (by kernel_rfl) (by kernel_rfl) (fun _ _ _ h => h) (Or.inr ⟨by kernel_rfl, rfl⟩) SX ?_
  try go_simp
  refine wpAnyT_take (i := 17) (v := undef) rfl (by kernel_rfl) (by kernel_rfl) (by kernel_rfl) (by kernel_rfl) (fun _ _ _ h => h) (Or.inr ⟨by kernel_rfl, rfl⟩) SX ?_
  try go_simp
  refine wpAnyT_take (i := 18) (v := undef) rfl (by kernel_rfl) (by kernel_rfl) (by kernel_rfl) (by kernel_rfl) (fun _ _ _ h => h) (Or.inr ⟨by kernel_rfl, rfl⟩) SX ?_
  try go_simp
  refine wpAnyT_take (i := 19) (v := undef) rfl (by kernel_rfl) (by kernel_rfl) (by kernel_rfl) (by kernel_rfl) (fun _ _ _ h => h) (Or.inr ⟨by kernel_rfl, rfl⟩) SX ?_
  try go_simp
  refine wpAnyT_take (i := 20) (v := undef) rfl (by kernel_rfl) (by kernel_rfl) (by kernel_rfl) (by kernel_rfl) (fun _ _ _ h => h) (Or.inr ⟨by kernel_rfl, rfl⟩) SX ?_
  try go_simp
  refine wpAnyT_take (i := 21) (v := undef) rfl (by kernel_rfl) (by kernel_rfl) (by kernel_rfl) (by kernel_rfl) (fun _ _ _ h => h) (Or.inr ⟨by kernel_rfl, rfl⟩) SX ?_
  try go_simp
  refine wpAnyT_take (i := 22) (v := .bool false) rfl (by kernel_rfl) (by kernel_rfl) (by kernel_rfl) (by kernel_rfl) (fun _ _ _ h => h) (Or.inl ⟨by kernel_rfl, fun X hS => by obtain ⟨e0, e1⟩ := hS; go_simp⟩) SX ?_
  try go_simp
  refine wpAnyT_one 23 rfl (by kernel_rfl) (fun K hK => ?_)
  go_simp
  refine hK _ _ (fun _ => SX) ?_
  clear hK K
  refine wpAnyT_drop _ 24 _ _ _ (by decide) (by kernel_rfl) ?_
  change wpList _ _ _ [] _ _
  clear SX
  go_wp2_with (first | (go_at_call 67; refine (isVar_gen _ _).mono ?_; rintro e w' ⟨rfl, rfl⟩; first | rw [hvx] | rw [hvy]))
  refine wp_region_any (by kernel_rfl) ?_
  change wpAny _ _ _ _ _ _ _ (World.drew _)
  have SX : w.drew.drew.cell? ⟨x, 0, none⟩ = some (.string ⟨#[cx]⟩) ∧ w.drew.drew.cell? ⟨y, 0, none⟩ = some (.string ⟨#[cy]⟩) := ⟨x0, y0⟩
  refine wpAny_of_T (S := fun X => X.cell? ⟨x, 0, none⟩ = some (.string ⟨#[cx]⟩) ∧ X.cell? ⟨y, 0, none⟩ = some (.string ⟨#[cy]⟩)) (m := 17) _ _ _ _ ?_
  refine wpAnyT_take (i := 0) (v := .pointer (some ⟨x, 0, none⟩)) rfl (by kernel_rfl) (by kernel_rfl) (by kernel_rfl) (by kernel_rfl) (fun _ _ _ h => h) (Or.inl ⟨by kernel_rfl, fun X hS => by obtain ⟨e0, e1⟩ := hS; go_simp⟩) SX ?_
  try go_simp
  refine wpAnyT_take (i := 1) (v := .pointer (some ⟨x, 0, none⟩)) rfl (by kernel_rfl) (by kernel_rfl) (by kernel_rfl) (by kernel_rfl) (fun _ _ _ h => h) (Or.inl ⟨by kernel_rfl, fun X hS => by obtain ⟨e0, e1⟩ := hS; go_simp⟩) SX ?_
  try go_simp
  refine wpAnyT_take (i := 2) (v := .pointer (some ⟨x, 0, none⟩)) rfl (by kernel_rfl) (by kernel_rfl) (by kernel_rfl) (by kernel_rfl) (fun _ _ _ h => h) (Or.inl ⟨by kernel_rfl, fun X hS => by obtain ⟨e0, e1⟩ := hS; go_simp⟩) SX ?_
  try go_simp
  refine wpAnyT_take (i := 3) (v := .string ⟨#[cx]⟩) rfl (by kernel_rfl) (by kernel_rfl) (by kernel_rfl) (by kernel_rfl) (fun _ _ _ h => h) (Or.inl ⟨by kernel_rfl, fun X hS => by obtain ⟨e0, e1⟩ := hS; clear x0 y0; go_simp⟩) SX ?_
  try go_simp
  refine wpAnyT_one 4 rfl (by kernel_rfl) (fun K hK => ?_)
  go_simp
  refine (isVar_one cx false hvx w.drew.drew).mono ?_
  rintro e w' ⟨rfl, rfl⟩
  refine hK _ _ (fun _ => SX) ?_
  clear hK K
  refine wpAnyT_take (i := 5) (v := .bool true) rfl (by kernel_rfl) (by kernel_rfl) (by kernel_rfl) (by kernel_rfl) (fun _ _ _ h => h) (Or.inl ⟨by kernel_rfl, fun X hS => by obtain ⟨e0, e1⟩ := hS; go_simp⟩) SX ?_
  try go_simp
  refine wpAnyT_take (i := 6) (v := .bool true) rfl (by kernel_rfl) (by kernel_rfl) (by kernel_rfl) (by kernel_rfl) (fun _ _ _ h => h) (Or.inl ⟨by kernel_rfl, fun X hS => by obtain ⟨e0, e1⟩ := hS; go_simp⟩) SX ?_
  try go_simp
  refine wpAnyT_take (i := 7) (v := .pointer (some ⟨x, 0, none⟩)) rfl (by kernel_rfl) (by kernel_rfl) (by kernel_rfl) (by kernel_rfl) (fun _ _ _ h => h) (Or.inl ⟨by kernel_rfl, fun X hS => by obtain ⟨e0, e1⟩ := hS; go_simp⟩) SX ?_
  try go_simp
  refine wpAnyT_take (i := 8) (v := .pointer (some ⟨x, 0, none⟩)) rfl (by kernel_rfl) (by kernel_rfl) (by kernel_rfl) (by kernel_rfl) (fun _ _ _ h => h) (Or.inl ⟨by kernel_rfl, fun X hS => by obtain ⟨e0, e1⟩ := hS; go_simp⟩) SX ?_
  try go_simp
  refine wpAnyT_take (i := 9) (v := .pointer (some ⟨x, 0, none⟩)) rfl (by kernel_rfl) (by kernel_rfl) (by kernel_rfl) (by kernel_rfl) (fun _ _ _ h => h) (Or.inl ⟨by kernel_rfl, fun X hS => by obtain ⟨e0, e1⟩ := hS; go_simp⟩) SX ?_
  try go_simp
  refine wpAnyT_take (i := 10) (v := .string ⟨#[cx]⟩) rfl (by kernel_rfl) (by kernel_rfl) (by kernel_rfl) (by kernel_rfl) (fun _ _ _ h => h) (Or.inl ⟨by kernel_rfl, fun X hS => by obtain ⟨e0, e1⟩ := hS; clear x0 y0; go_simp⟩) SX ?_
  try go_simp
  refine wpAnyT_take (i := 11) (v := .pointer (some ⟨y, 0, none⟩)) rfl (by kernel_rfl) (by kernel_rfl) (by kernel_rfl) (by kernel_rfl) (fun _ _ _ h => h) (Or.inl ⟨by kernel_rfl, fun X hS => by obtain ⟨e0, e1⟩ := hS; go_simp⟩) SX ?_
  try go_simp
  refine wpAnyT_take (i := 12) (v := .pointer (some ⟨y, 0, none⟩)) rfl (by kernel_rfl) (by kernel_rfl) (by kernel_rfl) (by kernel_rfl) (fun _ _ _ h => h) (Or.inl ⟨by kernel_rfl, fun X hS => by obtain ⟨e0, e1⟩ := hS; go_simp⟩) SX ?_
  try go_simp
  refine wpAnyT_take (i := 13) (v := .pointer (some ⟨y, 0, none⟩)) rfl (by kernel_rfl) (by kernel_rfl) (by kernel_rfl) (by kernel_rfl) (fun _ _ _ h => h) (Or.inl ⟨by kernel_rfl, fun X hS => by obtain ⟨e0, e1⟩ := hS; go_simp⟩) SX ?_
  try go_simp
  refine wpAnyT_take (i := 14) (v := .string ⟨#[cy]⟩) rfl (by kernel_rfl) (by kernel_rfl) (by kernel_rfl) (by kernel_rfl) (fun _ _ _ h => h) (Or.inl ⟨by kernel_rfl, fun X hS => by obtain ⟨e0, e1⟩ := hS; clear x0 y0; go_simp⟩) SX ?_
  try go_simp
  refine wpAnyT_take (i := 15) (v := .bool false) rfl (by kernel_rfl) (by kernel_rfl) (by kernel_rfl) (by kernel_rfl) (fun _ _ _ h => h) (Or.inl ⟨by kernel_rfl, fun X hS => by clear hS; go_simp⟩) SX ?_
  try go_simp
  refine wpAnyT_take (i := 16) (v := .bool false) rfl (by kernel_rfl) (by kernel_rfl) (by kernel_rfl) (by kernel_rfl) (fun _ _ _ h => h) (Or.inl ⟨by kernel_rfl, fun X hS => by obtain ⟨e0, e1⟩ := hS; go_simp⟩) SX ?_
  try go_simp
  refine wpAnyT_drop _ 17 _ _ _ (by decide) (by kernel_rfl) ?_
  change wpList _ _ _ [] _ _
  clear SX
  go_wp2_with fail
  have HGV : Hid (GH (w.setCell ⟨x, 2, none⟩ (.pointer (some ⟨y, 0, none⟩))).drew.drew N (lnk L x y) B) := GH.kc (w' := (w.setCell ⟨x, 2, none⟩ (.pointer (some ⟨y, 0, none⟩))).drew.drew) (GH.link HG.out ⟨_, HX.out⟩ y) (fun _ _ _ _ h => h)
  have HTV : Hid (TN N w (w.setCell ⟨x, 2, none⟩ (.pointer (some ⟨y, 0, none⟩))).drew.drew) := ((TN.set (N := N) (x := x) (o := 2) w ⟨_, HX.out⟩ (.pointer (some ⟨y, 0, none⟩))).trans (TN.drew N _)).trans (TN.drew N _)
  have HNLV : Hid (NL N (lnk L x y)) := nl_lnk HNL.out ⟨_, HY.out⟩
  have HRV := hid (row_tn HTV.out HG.out HRX.out)
  clear x0 x1 x2 fx2 y0 y1 y2 fy2 hlx hly
  generalize (w.setCell ⟨x, 2, none⟩ (.pointer (some ⟨y, 0, none⟩))).drew.drew = V at *
  refine wp_loop_rounds 1 ?_
  rw [rounds_succ]
  go_wp2_with fail
  go_ret
  exact ⟨rfl, HGV.out, HTV.out⟩
set_option maxHeartbeats 8000000 in
theorem ug_con1 {N : Nds} {L L2 : Lks} {a b x y p q : Nat} {cx : UInt8} {r : Bool} (ha : En L a x) (hb : En L b y) (hne : x ≠ y) (hx : N x = some (cx, [p])) (hy : N y = some (cx, [q])) (hvx : isV cx = false) (hnp : ∃ v, N p = some v) (hnq : ∃ v, N q = some v) (ih : UgAt N (lnk L x y) p q r L2) : UgAt N L a b r L2 := by
  obtain ⟨cy, hcy⟩ : ∃ cy, cy = cx := ⟨_, rfl⟩
  rw [← hcy] at hy
  have hvy : isV cy = false := by rw [hcy]; exact hvx
  have hee : (cx == cy) = true := by rw [hcy]; simp
  clear hcy
  intro w B hg hnl hna hnb
  have HG := hid hg
  have HNL := hid hnl
  have HNA := hid hna
  have HNB := hid hnb
  have hpe : (binOp .eql 81 (.pointer (some ⟨x, 0, none⟩)) (.pointer (some ⟨y, 0, none⟩))).run Try.prog w = .ok (.bool false) w := by
    have := eql_ptr (w := w) (hg.nb ⟨_, hx⟩) (hg.nb ⟨_, hy⟩)
    rwa [decide_eq_false hne] at this
  obtain ⟨ax, capx, x0, x1, x2, fx2, hlx, hrx⟩ := hg.at hx
  obtain ⟨ay, capy, y0, y1, y2, fy2, hly, hry⟩ := hg.at hy
  have HRX := hid hrx
  have HRY := hid hry
  have HX := hid hx
  have HY := hid hy
  have HNE := hid hne
  clear hx hy hne hrx hry
  clear hg hnl hna hnb
  go_enter Try.func42, Try.ntmps42
  go_wp2_with fail
  refine (end_any ha HNL.out w HG.out HNA.out).mono ?_
  rintro e w' ⟨rfl, rfl⟩
  go_wp2_with fail
  refine (end_any hb HNL.out w HG.out HNB.out).mono ?_
  rintro e w' ⟨rfl, rfl⟩
  go_wp2_with fail
  clear hpe
  refine wp_region_any (by kernel_rfl) ?_
  change wpAny _ _ _ _ _ _ _ (World.drew _)
  have SX : w.drew.cell? ⟨x, 0, none⟩ = some (.string ⟨#[cx]⟩) ∧ w.drew.cell? ⟨y, 0, none⟩ = some (.string ⟨#[cy]⟩) := ⟨x0, y0⟩
  refine wpAny_of_T (S := fun X => X.cell? ⟨x, 0, none⟩ = some (.string ⟨#[cx]⟩) ∧ X.cell? ⟨y, 0, none⟩ = some (.string ⟨#[cy]⟩)) (m := 24) _ _ _ _ ?_
  refine wpAnyT_take (i := 0) (v := .pointer (some ⟨x, 0, none⟩)) rfl (by kernel_rfl) (by kernel_rfl) (by kernel_rfl) (by kernel_rfl) (fun _ _ _ h => h) (Or.inl ⟨by kernel_rfl, fun X hS => by obtain ⟨e0, e1⟩ := hS; go_simp⟩) SX ?_
  try go_simp
  refine wpAnyT_take (i := 1) (v := .pointer (some ⟨x, 0, none⟩)) rfl (by kernel_rfl) (by kernel_rfl) (by kernel_rfl) (by kernel_rfl) (fun _ _ _ h => h) (Or.inl ⟨by kernel_rfl, fun X hS => by obtain ⟨e0, e1⟩ := hS; go_simp⟩) SX ?_
  try go_simp
  refine wpAnyT_take (i := 2) (v := .pointer (some ⟨x, 0, none⟩)) rfl (by kernel_rfl) (by kernel_rfl) (by kernel_rfl) (by kernel_rfl) (fun _ _ _ h => h) (Or.inl ⟨by kernel_rfl, fun X hS => by obtain ⟨e0, e1⟩ := hS; go_simp⟩) SX ?_
  try go_simp
  refine wpAnyT_take (i := 3) (v := .string ⟨#[cx]⟩) rfl (by kernel_rfl) (by kernel_rfl) (by kernel_rfl) (by kernel_rfl) (fun _ _ _ h => h) (Or.inl ⟨by kernel_rfl, fun X hS => by obtain ⟨e0, e1⟩ := hS; clear x0 y0; go_simp⟩) SX ?_
  try go_simp
  refine wpAnyT_one 4 rfl (by kernel_rfl) (fun K hK => ?_)
  go_simp
  refine (isVar_one cx false hvx w.drew).mono ?_
  rintro e w' ⟨rfl, rfl⟩
  refine hK _ _ (fun _ => SX) ?_
  clear hK K
  refine wpAnyT_take (i := 5) (v := .bool false) rfl (by kernel_rfl) (by kernel_rfl) (by kernel_rfl) (by kernel_rfl) (fun _ _ _ h => h) (Or.inl ⟨by kernel_rfl, fun X hS => by obtain ⟨e0, e1⟩ := hS; go_simp⟩) SX ?_
  try go_simp
  refine wpAnyT_take (i := 6) (v := undef) rfl (by kernel_rfl) (by kernel_rfl) (by kernel_rfl) (by kernel_rfl) (fun _ _ _ h => h) (Or.inr ⟨by kernel_rfl, rfl⟩) SX ?_
  try go_simp
  refine wpAnyT_take (i := 7) (v := undef) rfl (by kernel_rfl) (by kernel_rfl) (by kernel_rfl) (by kernel_rfl) (fun _ _ _ h => h) (Or.inr ⟨by kernel_rfl, rfl⟩) SX ?_
  try go_simp
  refine wpAnyT_take (i := 8) (v := undef) rfl (by kernel_rfl) (by kernel_rfl) (by kernel_rfl) (by kernel_rfl) (fun _ _ _ h => h) (Or.inr ⟨by kernel_rfl, rfl⟩) SX ?_
  try go_simp
  refine wpAnyT_take (i := 9) (v := undef) rfl (by kernel_rfl) (by kernel_rfl) (by kernel_rfl) (by kernel_rfl) (fun _ _ _ h => h) (Or.inr ⟨by kernel_rfl, rfl⟩) SX ?_
  try go_simp
  refine wpAnyT_take (i := 10) (v := undef) rfl (by kernel_rfl) (by kernel_rfl) (by kernel_rfl) (by kernel_rfl) (fun _ _ _ h => h) (Or.inr ⟨by kernel_rfl, rfl⟩) SX ?_
  try go_simp
  refine wpAnyT_take (i := 11) (v := .bool false) rfl (by kernel_rfl) (by kernel_rfl) (by kernel_rfl) (by kernel_rfl) (fun _ _ _ h => h) (Or.inl ⟨by kernel_rfl, fun X hS => by obtain ⟨e0, e1⟩ := hS; go_simp⟩) SX ?_
  try go_simp
  refine wpAnyT_take (i := 12) (v := .bool false) rfl (by kernel_rfl) (by kernel_rfl) (by kernel_rfl) (by kernel_rfl) (fun _ _ _ h => h) (Or.inl ⟨by kernel_rfl, fun X hS => by obtain ⟨e0, e1⟩ := hS; go_simp⟩) SX ?_
  try go_simp
  refine wpAnyT_take (i := 13) (v := undef) rfl (by kernel_rfl) (by kernel_rfl) (by kernel_rfl) (by kernel_rfl) (fun _ _ _ h => h) (Or.inr ⟨by kernel_rfl, rfl⟩) SX ?_
  try go_simp
  refine wpAnyT_take (i := 14) (v := undef) rfl (by kernel_rfl) (by kernel_rfl) (by kernel_rfl) (by kernel_rfl) (fun _ _ _ h => h) (Or.inr ⟨by kernel_rfl, rfl⟩) SX ?_
  try go_simp
  refine wpAnyT_take (i := 15) (v := undef) rfl (by kernel_rfl) (by kernel_rfl) (by kernel_rfl) (by kernel_rfl) (fun _ _ _ h => h) (Or.inr ⟨by kernel_rfl, rfl⟩) SX ?_
  try go_simp
  refine wpAnyT_take (i := 16) (v := undef) rfl (by kernel_rfl) (by kernel_rfl) (by kernel_rfl) (by kernel_rfl) (fun _ _ _ h => h) (Or.inr ⟨by kernel_rfl, rfl⟩) SX ?_
  try go_simp
  refine wpAnyT_take (i := 17) (v := undef) rfl (by kernel_rfl) (by kernel_rfl) (by kernel_rfl) (by kernel_rfl) (fun _ _ _ h => h) (Or.inr ⟨by kernel_rfl, rfl⟩) SX ?_
  try go_simp
  refine wpAnyT_take (i := 18) (v := undef) rfl (by kernel_rfl) (by kernel_rfl) (by kernel_rfl) (by kernel_rfl) (fun _ _ _ h => h) (Or.inr ⟨by kernel_rfl, rfl⟩) SX ?_
  try go_simp
  refine wpAnyT_take (i := 19) (v := undef) rfl (by kernel_rfl) (by kernel_rfl) (by kernel_rfl) (by kernel_rfl) (fun _ _ _ h => h) (Or.inr ⟨by kernel_rfl, rfl⟩) SX ?_
  try go_simp
  refine wpAnyT_take (i := 20) (v := undef) rfl (by kernel_rfl) (by kernel_rfl) (by kernel_rfl) (by kernel_rfl) (fun _ _ _ h => h) (Or.inr ⟨by kernel_rfl, rfl⟩) SX ?_
  try go_simp
  refine wpAnyT_take (i := 21) (v := undef) rfl (by kernel_rfl) (by kernel_rfl) (by kernel_rfl) (by kernel_rfl) (fun _ _ _ h => h) (Or.inr ⟨by kernel_rfl, rfl⟩) SX ?_
  try go_simp
  refine wpAnyT_take (i := 22) (v := .bool false) rfl (by kernel_rfl) (by kernel_rfl) (by kernel_rfl) (by kernel_rfl) (fun _ _ _ h => h) (Or.inl ⟨by kernel_rfl, fun X hS => by obtain ⟨e0, e1⟩ := hS; go_simp⟩) SX ?_
  try go_simp
  refine wpAnyT_one 23 rfl (by kernel_rfl) (fun K hK => ?_)
  go_simp
  refine hK _ _ (fun _ => SX) ?_
  clear hK K
  refine wpAnyT_drop _ 24 _ _ _ (by decide) (by kernel_rfl) ?_
  change wpList _ _ _ [] _ _
  clear SX
  go_wp2_with (first | (go_at_call 67; refine (isVar_gen _ _).mono ?_; rintro e w' ⟨rfl, rfl⟩; first | rw [hvx] | rw [hvy]))
  refine wp_region_any (by kernel_rfl) ?_
  change wpAny _ _ _ _ _ _ _ (World.drew _)
  have SX : w.drew.drew.cell? ⟨x, 0, none⟩ = some (.string ⟨#[cx]⟩) ∧ w.drew.drew.cell? ⟨y, 0, none⟩ = some (.string ⟨#[cy]⟩) := ⟨x0, y0⟩
  refine wpAny_of_T (S := fun X => X.cell? ⟨x, 0, none⟩ = some (.string ⟨#[cx]⟩) ∧ X.cell? ⟨y, 0, none⟩ = some (.string ⟨#[cy]⟩)) (m := 17) _ _ _ _ ?_
  refine wpAnyT_take (i := 0) (v := .pointer (some ⟨x, 0, none⟩)) rfl (by kernel_rfl) (by kernel_rfl) (by kernel_rfl) (by kernel_rfl) (fun _ _ _ h => h) (Or.inl ⟨by kernel_rfl, fun X hS => by obtain ⟨e0, e1⟩ := hS; go_simp⟩) SX ?_
  try go_simp
  refine wpAnyT_take (i := 1) (v := .pointer (some ⟨x, 0, none⟩)) rfl (by kernel_rfl) (by kernel_rfl) (by kernel_rfl) (by kernel_rfl) (fun _ _ _ h => h) (Or.inl ⟨by kernel_rfl, fun X hS => by obtain ⟨e0, e1⟩ := hS; go_simp⟩) SX ?_
  try go_simp
  refine wpAnyT_take (i := 2) (v := .pointer (some ⟨x, 0, none⟩)) rfl (by kernel_rfl) (by kernel_rfl) (by kernel_rfl) (by kernel_rfl) (fun _ _ _ h => h) (Or.inl ⟨by kernel_rfl, fun X hS => by obtain ⟨e0, e1⟩ := hS; go_simp⟩) SX ?_
  try go_simp
  refine wpAnyT_take (i := 3) (v := .string ⟨#[cx]⟩) rfl (by kernel_rfl) (by kernel_rfl) (by kernel_rfl) (by kernel_rfl) (fun _ _ _ h => h) (Or.inl ⟨by kernel_rfl, fun X hS => by obtain ⟨e0, e1⟩ := hS; clear x0 y0; go_simp⟩) SX ?_
  try go_simp
  refine wpAnyT_one 4 rfl (by kernel_rfl) (fun K hK => ?_)
  go_simp
  refine (isVar_one cx false hvx w.drew.drew).mono ?_
  rintro e w' ⟨rfl, rfl⟩
  refine hK _ _ (fun _ => SX) ?_
  clear hK K
  refine wpAnyT_take (i := 5) (v := .bool true) rfl (by kernel_rfl) (by kernel_rfl) (by kernel_rfl) (by kernel_rfl) (fun _ _ _ h => h) (Or.inl ⟨by kernel_rfl, fun X hS => by obtain ⟨e0, e1⟩ := hS; go_simp⟩) SX ?_
  try go_simp
  refine wpAnyT_take (i := 6) (v := .bool true) rfl (by kernel_rfl) (by kernel_rfl) (by kernel_rfl) (by kernel_rfl) (fun _ _ _ h => h) (Or.inl ⟨by kernel_rfl, fun X hS => by obtain ⟨e0, e1⟩ := hS; go_simp⟩) SX ?_
  try go_simp
  refine wpAnyT_take (i := 7) (v := .pointer (some ⟨x, 0, none⟩)) rfl (by kernel_rfl) (by kernel_rfl) (by kernel_rfl) (by kernel_rfl) (fun _ _ _ h => h) (Or.inl ⟨by kernel_rfl, fun X hS => by obtain ⟨e0, e1⟩ := hS; go_simp⟩) SX ?_
  try go_simp
  refine wpAnyT_take (i := 8) (v := .pointer (some ⟨x, 0, none⟩)) rfl (by kernel_rfl) (by kernel_rfl) (by kernel_rfl) (by kernel_rfl) (fun _ _ _ h => h) (Or.inl ⟨by kernel_rfl, fun X hS => by obtain ⟨e0, e1⟩ := hS; go_simp⟩) SX ?_
  try go_simp
  refine wpAnyT_take (i := 9) (v := .pointer (some ⟨x, 0, none⟩)) rfl (by kernel_rfl) (by kernel_rfl) (by kernel_rfl) (by kernel_rfl) (fun _ _ _ h => h) (Or.inl ⟨by kernel_rfl, fun X hS => by obtain ⟨e0, e1⟩ := hS; go_simp⟩) SX ?_
  try go_simp
  refine wpAnyT_take (i := 10) (v := .string ⟨#[cx]⟩) rfl (by kernel_rfl) (by kernel_rfl) (by kernel_rfl) (by kernel_rfl) (fun _ _ _ h => h) (Or.inl ⟨by kernel_rfl, fun X hS => by obtain ⟨e0, e1⟩ := hS; clear x0 y0; go_simp⟩) SX ?_
  try go_simp
  refine wpAnyT_take (i := 11) (v := .pointer (some ⟨y, 0, none⟩)) rfl (by kernel_rfl) (by kernel_rfl) (by kernel_rfl) (by kernel_rfl) (fun _ _ _ h => h) (Or.inl ⟨by kernel_rfl, fun X hS => by obtain ⟨e0, e1⟩ := hS; go_simp⟩) SX ?_
  try go_simp
  refine wpAnyT_take (i := 12) (v := .pointer (some ⟨y, 0, none⟩)) rfl (by kernel_rfl) (by kernel_rfl) (by kernel_rfl) (by kernel_rfl) (fun _ _ _ h => h) (Or.inl ⟨by kernel_rfl, fun X hS => by obtain ⟨e0, e1⟩ := hS; go_simp⟩) SX ?_
  try go_simp
  refine wpAnyT_take (i := 13) (v := .pointer (some ⟨y, 0, none⟩)) rfl (by kernel_rfl) (by kernel_rfl) (by kernel_rfl) (by kernel_rfl) (fun _ _ _ h => h) (Or.inl ⟨by kernel_rfl, fun X hS => by obtain ⟨e0, e1⟩ := hS; go_simp⟩) SX ?_
  try go_simp
  refine wpAnyT_take (i := 14) (v := .string ⟨#[cy]⟩) rfl (by kernel_rfl) (by kernel_rfl) (by kernel_rfl) (by kernel_rfl) (fun _ _ _ h => h) (Or.inl ⟨by kernel_rfl, fun X hS => by obtain ⟨e0, e1⟩ := hS; clear x0 y0; go_simp⟩) SX ?_
  try go_simp
  refine wpAnyT_take (i := 15) (v := .bool false) rfl (by kernel_rfl) (by kernel_rfl) (by kernel_rfl) (by kernel_rfl) (fun _ _ _ h => h) (Or.inl ⟨by kernel_rfl, fun X hS => by clear hS; go_simp⟩) SX ?_
  try go_simp
  refine wpAnyT_take (i := 16) (v := .bool false) rfl (by kernel_rfl) (by kernel_rfl) (by kernel_rfl) (by kernel_rfl) (fun _ _ _ h => h) (Or.inl ⟨by kernel_rfl, fun X hS => by obtain ⟨e0, e1⟩ := hS; go_simp⟩) SX ?_
  try go_simp
  refine wpAnyT_drop _ 17 _ _ _ (by decide) (by kernel_rfl) ?_
  change wpList _ _ _ [] _ _
  clear SX
  go_wp2_with fail
  have HGV : Hid (GH (w.setCell ⟨x, 2, none⟩ (.pointer (some ⟨y, 0, none⟩))).drew.drew N (lnk L x y) B) := GH.kc (w' := (w.setCell ⟨x, 2, none⟩ (.pointer (some ⟨y, 0, none⟩))).drew.drew) (GH.link HG.out ⟨_, HX.out⟩ y) (fun _ _ _ _ h => h)
  have HTV : Hid (TN N w (w.setCell ⟨x, 2, none⟩ (.pointer (some ⟨y, 0, none⟩))).drew.drew) := ((TN.set (N := N) (x := x) (o := 2) w ⟨_, HX.out⟩ (.pointer (some ⟨y, 0, none⟩))).trans (TN.drew N _)).trans (TN.drew N _)
  have HNLV : Hid (NL N (lnk L x y)) := nl_lnk HNL.out ⟨_, HY.out⟩
  have HRV := hid (row_tn HTV.out HG.out HRX.out)
  clear x0 x1 x2 fx2 y0 y1 y2 fy2 hlx hly
  generalize (w.setCell ⟨x, 2, none⟩ (.pointer (some ⟨y, 0, none⟩))).drew.drew = V at *
  refine wp_loop_rounds 2 ?_
  obtain ⟨g0, eg0, c0, hg0⟩ := row_part HRV.out (j := 0) (p := p) rfl (by simp)
  obtain ⟨ay0, cay0, -, d0, -, -, hly0, hry0⟩ := HGV.out.at HY.out
  obtain ⟨k0, ek0, f0, hk0⟩ := row_part hry0 (j := 0) (p := q) rfl (by simp)
  subst eg0
  subst ek0
  clear hry0
  rw [rounds_succ]
  go_wp2_with fail
  refine (ih V B HGV.out HNLV.out hnp hnq).mono ?_
  rintro e V0 ⟨rfl, hgh, htn⟩
  have HGV0 := hid hgh
  have HTV0 : Hid (TN N w V0) := HTV.out.trans htn
  have HRV0 := hid (row_tn htn HGV.out HRV.out)
  clear hgh htn c0 d0 f0
  cases r with
  | false =>
    go_wp2_with fail
    go_ret
    exact ⟨rfl, HGV0.out, HTV0.out⟩
  | true =>
    go_wp2_with fail
    rw [rounds_succ]
    go_wp2_with fail
    go_ret
    exact ⟨rfl, HGV0.out, HTV0.out⟩
set_option maxHeartbeats 8000000 in
theorem ug_con2f {N : Nds} {L L2 : Lks} {a b x y p p2 q q2 : Nat} {cx : UInt8} (ha : En L a x) (hb : En L b y) (hne : x ≠ y) (hx : N x = some (cx, [p, p2])) (hy : N y = some (cx, [q, q2])) (hvx : isV cx = false) (hnp : ∃ v, N p = some v) (hnq : ∃ v, N q = some v) (ih : UgAt N (lnk L x y) p q false L2) : UgAt N L a b false L2 := by
  obtain ⟨cy, hcy⟩ : ∃ cy, cy = cx := ⟨_, rfl⟩
  rw [← hcy] at hy
  have hvy : isV cy = false := by rw [hcy]; exact hvx
  have hee : (cx == cy) = true := by rw [hcy]; simp
  clear hcy
  intro w B hg hnl hna hnb
  have HG := hid hg
  have HNL := hid hnl
  have HNA := hid hna
  have HNB := hid hnb
  have hpe : (binOp .eql 81 (.pointer (some ⟨x, 0, none⟩)) (.pointer (some ⟨y, 0, none⟩))).run Try.prog w = .ok (.bool false) w := by
    have := eql_ptr (w := w) (hg.nb ⟨_, hx⟩) (hg.nb ⟨_, hy⟩)
    rwa [decide_eq_false hne] at this
  obtain ⟨ax, capx, x0, x1, x2, fx2, hlx, hrx⟩ := hg.at hx
  obtain ⟨ay, capy, y0, y1, y2, fy2, hly, hry⟩ := hg.at hy
  have HRX := hid hrx
  have HRY := hid hry
  have HX := hid hx
  have HY := hid hy
  have HNE := hid hne
  clear hx hy hne hrx hry
  clear hg hnl hna hnb
  go_enter Try.func42, Try.ntmps42
  go_wp2_with fail
  refine (end_any ha HNL.out w HG.out HNA.out).mono ?_
  rintro e w' ⟨rfl, rfl⟩
  go_wp2_with fail
  refine (end_any hb HNL.out w HG.out HNB.out).mono ?_
  rintro e w' ⟨rfl, rfl⟩
  go_wp2_with fail
  clear hpe
  refine wp_region_any (by kernel_rfl) ?_
  change wpAny _ _ _ _ _ _ _ (World.drew _)
  have SX : w.drew.cell? ⟨x, 0, none⟩ = some (.string ⟨#[cx]⟩) ∧ w.drew.cell? ⟨y, 0, none⟩ = some (.string ⟨#[cy]⟩) := ⟨x0, y0⟩
  refine wpAny_of_T (S := fun X => X.cell? ⟨x, 0, none⟩ = some (.string ⟨#[cx]⟩) ∧ X.cell? ⟨y, 0, none⟩ = some (.string ⟨#[cy]⟩)) (m := 24) _ _ _ _ ?_
  refine wpAnyT_take (i := 0) (v := .pointer (some ⟨x, 0, none⟩)) rfl (by kernel_rfl) (by kernel_rfl) (by kernel_rfl) (by kernel_rfl) (fun _ _ _ h => h) (Or.inl ⟨by kernel_rfl, fun X hS => by obtain ⟨e0, e1⟩ := hS; go_simp⟩) SX ?_
  try go_simp
  refine wpAnyT_take (i := 1) (v := .pointer (some ⟨x, 0, none⟩)) rfl (by kernel_rfl) (by kernel_rfl) (by kernel_rfl) (by kernel_rfl) (fun _ _ _ h => h) (Or.inl ⟨by kernel_rfl, fun X hS => by obtain ⟨e0, e1⟩ := hS; go_simp⟩) SX ?_
  try go_simp
  refine wpAnyT_take (i := 2) (v := .pointer (some ⟨x, 0, none⟩)) rfl (by kernel_rfl) (by kernel_rfl) (by kernel_rfl) (by kernel_rfl) (fun _ _ _ h => h) (Or.inl ⟨by kernel_rfl, fun X hS => by obtain ⟨e0, e1⟩ := hS; go_simp⟩) SX ?_
  try go_simp
  refine wpAnyT_take (i := 3) (v := .string ⟨#[cx]⟩) rfl (by kernel_rfl) (by kernel_rfl) (by kernel_rfl) (by kernel_rfl) (fun _ _ _ h => h) (Or.inl ⟨by kernel_rfl, fun X hS => by obtain ⟨e0, e1⟩ := hS; clear x0 y0; go_simp⟩) SX ?_
  try go_simp
  refine wpAnyT_one 4 rfl (by kernel_rfl) (fun K hK => ?_)
  go_simp
  refine (isVar_one cx false hvx w.drew).mono ?_
  rintro e w' ⟨rfl, rfl⟩
  refine hK _ _ (fun _ => SX) ?_
  clear hK K
  refine wpAnyT_take (i := 5) (v := .bool false) rfl (by kernel_rfl) (by kernel_rfl) (by kernel_rfl) (by kernel_rfl) (fun _ _ _ h => h) (Or.inl ⟨by kernel_rfl, fun X hS => by obtain ⟨e0, e1⟩ := hS; go_simp⟩) SX ?_
  try go_simp
  refine wpAnyT_take (i := 6) (v := undef) rfl (by kernel_rfl) (by kernel_rfl) (by kernel_rfl) (by kernel_rfl) (fun _ _ _ h => h) (Or.inr ⟨by kernel_rfl, rfl⟩) SX ?_
  try go_simp
  refine wpAnyT_take (i := 7) (v := undef) rfl (by kernel_rfl) (by kernel_rfl) (by kernel_rfl) (by kernel_rfl) (fun _ _ _ h => h) (Or.inr ⟨by kernel_rfl, rfl⟩) SX ?_
  try go_simp
  refine wpAnyT_take (i := 8) (v := undef) rfl (by kernel_rfl) (by kernel_rfl) (by kernel_rfl) (by kernel_rfl) (fun _ _ _ h => h) (Or.inr ⟨by kernel_rfl, rfl⟩) SX ?_
  try go_simp
  refine wpAnyT_take (i := 9) (v := undef) rfl (by kernel_rfl) (by kernel_rfl) (by kernel_rfl) (by kernel_rfl) (fun _ _ _ h => h) (Or.inr ⟨by kernel_rfl, rfl⟩) SX ?_
  try go_simp
  refine wpAnyT_take (i := 10) (v := undef) rfl (by kernel_rfl) (by kernel_rfl) (by kernel_rfl) (by kernel_rfl) (fun _ _ _ h => h) (Or.inr ⟨by kernel_rfl, rfl⟩) SX ?_
  try go_simp
  refine wpAnyT_take (i := 11) (v := .bool false) rfl (by kernel_rfl) (by kernel_rfl) (by kernel_rfl) (by kernel_rfl) (fun _ _ _ h => h) (Or.inl ⟨by kernel_rfl, fun X hS => by obtain ⟨e0, e1⟩ := hS; go_simp⟩) SX ?_
  try go_simp
  refine wpAnyT_take (i := 12) (v := .bool false) rfl (by kernel_rfl) (by kernel_rfl) (by kernel_rfl) (by kernel_rfl) (fun _ _ _ h => h) (Or.inl ⟨by kernel_rfl, fun X hS => by obtain ⟨e0, e1⟩ := hS; go_simp⟩) SX ?_
  try go_simp
  refine wpAnyT_take (i := 13) (v := undef) rfl (by kernel_rfl) (by kernel_rfl) (by kernel_rfl) (by kernel_rfl) (fun _ _ _ h => h) (Or.inr ⟨by kernel_rfl, rfl⟩) SX ?_
  try go_simp
  refine wpAnyT_take (i := 14) (v := undef) rfl (by kernel_rfl) (by kernel_rfl) (by kernel_rfl) (by kernel_rfl) (fun _ _ _ h => h) (Or.inr ⟨by kernel_rfl, rfl⟩) SX ?_
  try go_simp
  refine wpAnyT_take (i := 15) (v := undef) rfl (by kernel_rfl) (by kernel_rfl) (by kernel_rfl) (by kernel_rfl) (fun _ _ _ h => h) (Or.inr ⟨by kernel_rfl, rfl⟩) SX ?_
  try go_simp
  refine wpAnyT_take (i := 16) (v := undef) rfl (by kernel_rfl) (by kernel_rfl) (by kernel_rfl) (by kernel_rfl) (fun _ _ _ h => h) (Or.inr ⟨by kernel_rfl, rfl⟩) SX ?_
  try go_simp
  refine wpAnyT_take (i := 17) (v := undef) rfl (by kernel_rfl) (by kernel_rfl) (by kernel_rfl) (by kernel_rfl) (fun _ _ _ h => h) (Or.inr ⟨by kernel_rfl, rfl⟩) SX ?_
  try go_simp
  refine wpAnyT_take (i := 18) (v := undef) rfl (by kernel_rfl) (by kernel_rfl) (by kernel_rfl) (by kernel_rfl) (fun _ _ _ h => h) (Or.inr ⟨by kernel_rfl, rfl⟩) SX ?_
  try go_simp
  refine wpAnyT_take (i := 19) (v := undef) rfl (by kernel_rfl) (by kernel_rfl) (by kernel_rfl) (by kernel_rfl) (fun _ _ _ h => h) (Or.inr ⟨by kernel_rfl, rfl⟩) SX ?_
  try go_simp
  refine wpAnyT_take (i := 20) (v := undef) rfl (by kernel_rfl) (by kernel_rfl) (by kernel_rfl) (by kernel_rfl) (fun _ _ _ h => h) (Or.inr ⟨by kernel_rfl, rfl⟩) SX ?_
  try go_simp
  refine wpAnyT_take (i := 21) (v := undef) rfl (by kernel_rfl) (by kernel_rfl) (by kernel_rfl) (by kernel_rfl) (fun _ _ _ h => h) (Or.inr ⟨by kernel_rfl, rfl⟩) SX ?_
  try go_simp
  refine wpAnyT_take (i := 22) (v := .bool false) rfl (by kernel_rfl) (by kernel_rfl) (by kernel_rfl) (by kernel_rfl) (fun _ _ _ h => h) (Or.inl ⟨by kernel_rfl, fun X hS => by obtain ⟨e0, e1⟩ := hS; go_simp⟩) SX ?_
  try go_simp
  refine wpAnyT_one 23 rfl (by kernel_rfl) (fun K hK => ?_)
  go_simp
  refine hK _ _ (fun _ => SX) ?_
  clear hK K
  refine wpAnyT_drop _ 24 _ _ _ (by decide) (by kernel_rfl) ?_
  change wpList _ _ _ [] _ _
  clear SX
  go_wp2_with (first | (go_at_call 67; refine (isVar_gen _ _).mono ?_; rintro e w' ⟨rfl, rfl⟩; first | rw [hvx] | rw [hvy]))
  refine wp_region_any (by kernel_rfl) ?_
  change wpAny _ _ _ _ _ _ _ (World.drew _)
  have SX : w.drew.drew.cell? ⟨x, 0, none⟩ = some (.string ⟨#[cx]⟩) ∧ w.drew.drew.cell? ⟨y, 0, none⟩ = some (.string ⟨#[cy]⟩) := ⟨x0, y0⟩
  refine wpAny_of_T (S := fun X => X.cell? ⟨x, 0, none⟩ = some (.string ⟨#[cx]⟩) ∧ X.cell? ⟨y, 0, none⟩ = some (.string ⟨#[cy]⟩)) (m := 17) _ _ _ _ ?_
  refine wpAnyT_take (i := 0) (v := .pointer (some ⟨x, 0, none⟩)) rfl (by kernel_rfl) (by kernel_rfl) (by kernel_rfl) (by kernel_rfl) (fun _ _ _ h => h) (Or.inl ⟨by kernel_rfl, fun X hS => by obtain ⟨e0, e1⟩ := hS; go_simp⟩) SX ?_
  try go_simp
  refine wpAnyT_take (i := 1) (v := .pointer (some ⟨x, 0, none⟩)) rfl (by kernel_rfl) (by kernel_rfl) (by kernel_rfl) (by kernel_rfl) (fun _ _ _ h => h) (Or.inl ⟨by kernel_rfl, fun X hS => by obtain ⟨e0, e1⟩ := hS; go_simp⟩) SX ?_
  try go_simp
  refine wpAnyT_take (i := 2) (v := .pointer (some ⟨x, 0, none⟩)) rfl (by kernel_rfl) (by kernel_rfl) (by kernel_rfl) (by kernel_rfl) (fun _ _ _ h => h) (Or.inl ⟨by kernel_rfl, fun X hS => by obtain ⟨e0, e1⟩ := hS; go_simp⟩) SX ?_
  try go_simp
  refine wpAnyT_take (i := 3) (v := .string ⟨#[cx]⟩) rfl (by kernel_rfl) (by kernel_rfl) (by kernel_rfl) (by kernel_rfl) (fun _ _ _ h => h) (Or.inl ⟨by kernel_rfl, fun X hS => by obtain ⟨e0, e1⟩ := hS; clear x0 y0; go_simp⟩) SX ?_
  try go_simp
  refine wpAnyT_one 4 rfl (by kernel_rfl) (fun K hK => ?_)
  go_simp
  refine (isVar_one cx false hvx w.drew.drew).mono ?_
  rintro e w' ⟨rfl, rfl⟩
  refine hK _ _ (fun _ => SX) ?_
  clear hK K
  refine wpAnyT_take (i := 5) (v := .bool true) rfl (by kernel_rfl) (by kernel_rfl) (by kernel_rfl) (by kernel_rfl) (fun _ _ _ h => h) (Or.inl ⟨by kernel_rfl, fun X hS => by obtain ⟨e0, e1⟩ := hS; go_simp⟩) SX ?_
  try go_simp
  refine wpAnyT_take (i := 6) (v := .bool true) rfl (by kernel_rfl) (by kernel_rfl) (by kernel_rfl) (by kernel_rfl) (fun _ _ _ h => h) (Or.inl ⟨by kernel_rfl, fun X hS => by obtain ⟨e0, e1⟩ := hS; go_simp⟩) SX ?_
  try go_simp
  refine wpAnyT_take (i := 7) (v := .pointer (some ⟨x, 0, none⟩)) rfl (by kernel_rfl) (by kernel_rfl) (by kernel_rfl) (by kernel_rfl) (fun _ _ _ h => h) (Or.inl ⟨by kernel_rfl, fun X hS => by obtain ⟨e0, e1⟩ := hS; go_simp⟩) SX ?_
  try go_simp
  refine wpAnyT_take (i := 8) (v := .pointer (some ⟨x, 0, none⟩)) rfl (by kernel_rfl) (by kernel_rfl) (by kernel_rfl) (by kernel_rfl) (fun _ _ _ h => h) (Or.inl ⟨by kernel_rfl, fun X hS => by obtain ⟨e0, e1⟩ := hS; go_simp⟩) SX ?_
  try go_simp
  refine wpAnyT_take (i := 9) (v := .pointer (some ⟨x, 0, none⟩)) rfl (by kernel_rfl) (by kernel_rfl) (by kernel_rfl) (by kernel_rfl) (fun _ _ _ h => h) (Or.inl ⟨by kernel_rfl, fun X hS => by obtain ⟨e0, e1⟩ := hS; go_simp⟩) SX ?_
  try go_simp
  refine wpAnyT_take (i := 10) (v := .string ⟨#[cx]⟩) rfl (by kernel_rfl) (by kernel_rfl) (by kernel_rfl) (by kernel_rfl) (fun _ _ _ h => h) (Or.inl ⟨by kernel_rfl, fun X hS => by obtain ⟨e0, e1⟩ := hS; clear x0 y0; go_simp⟩) SX ?_
  try go_simp
  refine wpAnyT_take (i := 11) (v := .pointer (some ⟨y, 0, none⟩)) rfl (by kernel_rfl) (by kernel_rfl) (by kernel_rfl) (by kernel_rfl) (fun _ _ _ h => h) (Or.inl ⟨by kernel_rfl, fun X hS => by obtain ⟨e0, e1⟩ := hS; go_simp⟩) SX ?_
  try go_simp
  refine wpAnyT_take (i := 12) (v := .pointer (some ⟨y, 0, none⟩)) rfl (by kernel_rfl) (by kernel_rfl) (by kernel_rfl) (by kernel_rfl) (fun _ _ _ h => h) (Or.inl ⟨by kernel_rfl, fun X hS => by obtain ⟨e0, e1⟩ := hS; go_simp⟩) SX ?_
  try go_simp
  refine wpAnyT_take (i := 13) (v := .pointer (some ⟨y, 0, none⟩)) rfl (by kernel_rfl) (by kernel_rfl) (by kernel_rfl) (by kernel_rfl) (fun _ _ _ h => h) (Or.inl ⟨by kernel_rfl, fun X hS => by obtain ⟨e0, e1⟩ := hS; go_simp⟩) SX ?_
  try go_simp
  refine wpAnyT_take (i := 14) (v := .string ⟨#[cy]⟩) rfl (by kernel_rfl) (by kernel_rfl) (by kernel_rfl) (by kernel_rfl) (fun _ _ _ h => h) (Or.inl ⟨by kernel_rfl, fun X hS => by obtain ⟨e0, e1⟩ := hS; clear x0 y0; go_simp⟩) SX ?_
  try go_simp
  refine wpAnyT_take (i := 15) (v := .bool false) rfl (by kernel_rfl) (by kernel_rfl) (by kernel_rfl) (by kernel_rfl) (fun _ _ _ h => h) (Or.inl ⟨by kernel_rfl, fun X hS => by clear hS; go_simp⟩) SX ?_
  try go_simp
  refine wpAnyT_take (i := 16) (v := .bool false) rfl (by kernel_rfl) (by kernel_rfl) (by kernel_rfl) (by kernel_rfl) (fun _ _ _ h => h) (Or.inl ⟨by kernel_rfl, fun X hS => by obtain ⟨e0, e1⟩ := hS; go_simp⟩) SX ?_
  try go_simp
  refine wpAnyT_drop _ 17 _ _ _ (by decide) (by kernel_rfl) ?_
  change wpList _ _ _ [] _ _
  clear SX
  go_wp2_with fail
  have HGV : Hid (GH (w.setCell ⟨x, 2, none⟩ (.pointer (some ⟨y, 0, none⟩))).drew.drew N (lnk L x y) B) := GH.kc (w' := (w.setCell ⟨x, 2, none⟩ (.pointer (some ⟨y, 0, none⟩))).drew.drew) (GH.link HG.out ⟨_, HX.out⟩ y) (fun _ _ _ _ h => h)
  have HTV : Hid (TN N w (w.setCell ⟨x, 2, none⟩ (.pointer (some ⟨y, 0, none⟩))).drew.drew) := ((TN.set (N := N) (x := x) (o := 2) w ⟨_, HX.out⟩ (.pointer (some ⟨y, 0, none⟩))).trans (TN.drew N _)).trans (TN.drew N _)
  have HNLV : Hid (NL N (lnk L x y)) := nl_lnk HNL.out ⟨_, HY.out⟩
  have HRV := hid (row_tn HTV.out HG.out HRX.out)
  clear x0 x1 x2 fx2 y0 y1 y2 fy2 hlx hly
  generalize (w.setCell ⟨x, 2, none⟩ (.pointer (some ⟨y, 0, none⟩))).drew.drew = V at *
  refine wp_loop_rounds 3 ?_
  obtain ⟨g0, eg0, c0, hg0⟩ := row_part HRV.out (j := 0) (p := p) rfl (by simp)
  obtain ⟨ay0, cay0, -, d0, -, -, hly0, hry0⟩ := HGV.out.at HY.out
  obtain ⟨k0, ek0, f0, hk0⟩ := row_part hry0 (j := 0) (p := q) rfl (by simp)
  subst eg0
  subst ek0
  clear hry0
  rw [rounds_succ]
  go_wp2_with fail
  refine (ih V B HGV.out HNLV.out hnp hnq).mono ?_
  rintro e V0 ⟨rfl, hgh, htn⟩
  have HGV0 := hid hgh
  have HTV0 : Hid (TN N w V0) := HTV.out.trans htn
  have HRV0 := hid (row_tn htn HGV.out HRV.out)
  clear hgh htn c0 d0 f0
  go_wp2_with fail
  go_ret
  exact ⟨rfl, HGV0.out, HTV0.out⟩
set_option maxHeartbeats 8000000 in
theorem ug_con2t {N : Nds} {L L1 L2 : Lks} {a b x y p p2 q q2 : Nat} {cx : UInt8} {r : Bool} (ha : En L a x) (hb : En L b y) (hne : x ≠ y) (hx : N x = some (cx, [p, p2])) (hy : N y = some (cx, [q, q2])) (hvx : isV cx = false) (hnp : ∃ v, N p = some v) (hnq : ∃ v, N q = some v) (hnp2 : ∃ v, N p2 = some v) (hnq2 : ∃ v, N q2 = some v) (nl1 : NL N (lnk L x y) → NL N L1) (i1 : UgAt N (lnk L x y) p q true L1) (i2 : UgAt N L1 p2 q2 r L2) : UgAt N L a b r L2 := by
  obtain ⟨cy, hcy⟩ : ∃ cy, cy = cx := ⟨_, rfl⟩
  rw [← hcy] at hy
  have hvy : isV cy = false := by rw [hcy]; exact hvx
  have hee : (cx == cy) = true := by rw [hcy]; simp
  clear hcy
  intro w B hg hnl hna hnb
  have HG := hid hg
  have HNL := hid hnl
  have HNA := hid hna
  have HNB := hid hnb
  have hpe : (binOp .eql 81 (.pointer (some ⟨x, 0, none⟩)) (.pointer (some ⟨y, 0, none⟩))).run Try.prog w = .ok (.bool false) w := by
    have := eql_ptr (w := w) (hg.nb ⟨_, hx⟩) (hg.nb ⟨_, hy⟩)
    rwa [decide_eq_false hne] at this
  obtain ⟨ax, capx, x0, x1, x2, fx2, hlx, hrx⟩ := hg.at hx
  obtain ⟨ay, capy, y0, y1, y2, fy2, hly, hry⟩ := hg.at hy
  have HRX := hid hrx
  have HRY := hid hry
  have HX := hid hx
  have HY := hid hy
  have HNE := hid hne
  clear hx hy hne hrx hry
  clear hg hnl hna hnb
  go_enter Try.func42, Try.ntmps42
  go_wp2_with fail
  refine (end_any ha HNL.out w HG.out HNA.out).mono ?_
  rintro e w' ⟨rfl, rfl⟩
  go_wp2_with fail
  refine (end_any hb HNL.out w HG.out HNB.out).mono ?_
  rintro e w' ⟨rfl, rfl⟩
  go_wp2_with fail
  clear hpe
  refine wp_region_any (by kernel_rfl) ?_
  change wpAny _ _ _ _ _ _ _ (World.drew _)
  have SX : w.drew.cell? ⟨x, 0, none⟩ = some (.string ⟨#[cx]⟩) ∧ w.drew.cell? ⟨y, 0, none⟩ = some (.string ⟨#[cy]⟩) := ⟨x0, y0⟩
  refine wpAny_of_T (S := fun X => X.cell? ⟨x, 0, none⟩ = some (.string ⟨#[cx]⟩) ∧ X.cell? ⟨y, 0, none⟩ = some (.string ⟨#[cy]⟩)) (m := 24) _ _ _ _ ?_
  refine wpAnyT_take (i := 0) (v := .pointer (some ⟨x, 0, none⟩)) rfl (by kernel_rfl) (by kernel_rfl) (by kernel_rfl) (by kernel_rfl) (fun _ _ _ h => h) (Or.inl ⟨by kernel_rfl, fun X hS => by obtain ⟨e0, e1⟩ := hS; go_simp⟩) SX ?_
  try go_simp
  refine wpAnyT_take (i := 1) (v := .pointer (some ⟨x, 0, none⟩)) rfl (by kernel_rfl) (by kernel_rfl) (by kernel_rfl) (by kernel_rfl) (fun _ _ _ h => h) (Or.inl ⟨by kernel_rfl, fun X hS => by obtain ⟨e0, e1⟩ := hS; go_simp⟩) SX ?_
  try go_simp
  refine wpAnyT_take (i := 2) (v := .pointer (some ⟨x, 0, none⟩)) rfl (by kernel_rfl) (by kernel_rfl) (by kernel_rfl) (by kernel_rfl) (fun _ _ _ h => h) (Or.inl ⟨by kernel_rfl, fun X hS => by obtain ⟨e0, e1⟩ := hS; go_simp⟩) SX ?_
  try go_simp
  refine wpAnyT_take (i := 3) (v := .string ⟨#[cx]⟩) rfl (by kernel_rfl) (by kernel_rfl) (by kernel_rfl) (by kernel_rfl) (fun _ _ _ h => h) (Or.inl ⟨by kernel_rfl, fun X hS => by obtain ⟨e0, e1⟩ := hS; clear x0 y0; go_simp⟩) SX ?_
  try go_simp
  refine wpAnyT_one 4 rfl (by kernel_rfl) (fun K hK => ?_)
  go_simp
  refine (isVar_one cx false hvx w.drew).mono ?_
  rintro e w' ⟨rfl, rfl⟩
  refine hK _ _ (fun _ => SX) ?_
  clear hK K
  refine wpAnyT_take (i := 5) (v := .bool false) rfl (by kernel_rfl) (by kernel_rfl) (by kernel_rfl) (by kernel_rfl) (fun _ _ _ h => h) (Or.inl ⟨by kernel_rfl, fun X hS => by obtain ⟨e0, e1⟩ := hS; go_simp⟩) SX ?_
  try go_simp
  refine wpAnyT_take (i := 6) (v := undef) rfl (by kernel_rfl) (by kernel_rfl) (by kernel_rfl) (by kernel_rfl) (fun _ _ _ h => h) (Or.inr ⟨by kernel_rfl, rfl⟩) SX ?_
  try go_simp
  refine wpAnyT_take (i := 7) (v := undef) rfl (by kernel_rfl) (by kernel_rfl) (by kernel_rfl) (by kernel_rfl) (fun _ _ _ h => h) (Or.inr ⟨by kernel_rfl, rfl⟩) SX ?_
  try go_simp
  refine wpAnyT_take (i := 8) (v := undef) rfl (by kernel_rfl) (by kernel_rfl) (by kernel_rfl) (by kernel_rfl) (fun _ _ _ h => h) (Or.inr ⟨by kernel_rfl, rfl⟩) SX ?_
  try go_simp
  refine wpAnyT_take (i := 9) (v := undef) rfl (by kernel_rfl) (by kernel_rfl) (by kernel_rfl) (by kernel_rfl) (fun _ _ _ h => h) (Or.inr ⟨by kernel_rfl, rfl⟩) SX ?_
  try go_simp
  refine wpAnyT_take (i := 10) (v := undef) rfl (by kernel_rfl) (by kernel_rfl) (by kernel_rfl) (by kernel_rfl) (fun _ _ _ h => h) (Or.inr ⟨by kernel_rfl, rfl⟩) SX ?_
  try go_simp
  refine wpAnyT_take (i := 11) (v := .bool false) rfl (by kernel_rfl) (by kernel_rfl) (by kernel_rfl) (by kernel_rfl) (fun _ _ _ h => h) (Or.inl ⟨by kernel_rfl, fun X hS => by obtain ⟨e0, e1⟩ := hS; go_simp⟩) SX ?_
  try go_simp
  refine wpAnyT_take (i := 12) (v := .bool false) rfl (by kernel_rfl) (by kernel_rfl) (by kernel_rfl) (by kernel_rfl) (fun _ _ _ h => h) (Or.inl ⟨by kernel_rfl, fun X hS => by obtain ⟨e0, e1⟩ := hS; go_simp⟩) SX ?_
  try go_simp
  refine wpAnyT_take (i := 13) (v := undef) rfl (by kernel_rfl) (by kernel_rfl) (by kernel_rfl) (by kernel_rfl) (fun _ _ _ h => h) (Or.inr ⟨by kernel_rfl, rfl⟩) SX ?_
  try go_simp
  refine wpAnyT_take (i := 14) (v := undef) rfl (by kernel_rfl) (by kernel_rfl) (by kernel_rfl) (by kernel_rfl) (fun _ _ _ h => h) (Or.inr ⟨by kernel_rfl, rfl⟩) SX ?_
  try go_simp
  refine wpAnyT_take (i := 15) (v := undef) rfl (by kernel_rfl) (by kernel_rfl) (by kernel_rfl) (by kernel_rfl) (fun _ _ _ h => h) (Or.inr ⟨by kernel_rfl, rfl⟩) SX ?_
  try go_simp
  refine wpAnyT_take (i := 16) (v := undef) rfl (by kernel_rfl) (by kernel_rfl) (by kernel_rfl) (by kernel_rfl) (fun _ _ _ h => h) (Or.inr ⟨by kernel_rfl, rfl⟩) SX ?_
  try go_simp
  refine wpAnyT_take (i := 17) (v := undef) rfl (by kernel_rfl) (by kernel_rfl) (by kernel_rfl) (by kernel_rfl) (fun _ _ _ h => h) (Or.inr ⟨by kernel_rfl, rfl⟩) SX ?_
  try go_simp
  refine wpAnyT_take (i := 18) (v := undef) rfl (by kernel_rfl) (by kernel_rfl) (by kernel_rfl) (by kernel_rfl) (fun _ _ _ h => h) (Or.inr ⟨by kernel_rfl, rfl⟩) SX ?_
  try go_simp
  refine wpAnyT_take (i := 19) (v := undef) rfl (by kernel_rfl) (by kernel_rfl) (by kernel_rfl) (by kernel_rfl) (fun _ _ _ h => h) (Or.inr ⟨by kernel_rfl, rfl⟩) SX ?_
  try go_simp
  refine wpAnyT_take (i := 20) (v := undef) rfl (by kernel_rfl) (by kernel_rfl) (by kernel_rfl) (by kernel_rfl) (fun _ _ _ h => h) (Or.inr ⟨by kernel_rfl, rfl⟩) SX ?_
  try go_simp
  refine wpAnyT_take (i := 21) (v := undef) rfl (by kernel_rfl) (by kernel_rfl) (by kernel_rfl) (by kernel_rfl) (fun _ _ _ h => h) (Or.inr ⟨by kernel_rfl, rfl⟩) SX ?_
  try go_simp
  refine wpAnyT_take (i := 22) (v := .bool false) rfl (by kernel_rfl) (by kernel_rfl) (by kernel_rfl) (by kernel_rfl) (fun _ _ _ h => h) (Or.inl ⟨by kernel_rfl, fun X hS => by obtain ⟨e0, e1⟩ := hS; go_simp⟩) SX ?_
  try go_simp
  refine wpAnyT_one 23 rfl (by kernel_rfl) (fun K hK => ?_)
  go_simp
  refine hK _ _ (fun _ => SX) ?_
  clear hK K
  refine wpAnyT_drop _ 24 _ _ _ (by decide) (by kernel_rfl) ?_
  change wpList _ _ _ [] _ _
  clear SX
  go_wp2_with (first | (go_at_call 67; refine (isVar_gen _ _).mono ?_; rintro e w' ⟨rfl, rfl⟩; first | rw [hvx] | rw [hvy]))
  refine wp_region_any (by kernel_rfl) ?_
  change wpAny _ _ _ _ _ _ _ (World.drew _)
  have SX : w.drew.drew.cell? ⟨x, 0, none⟩ = some (.string ⟨#[cx]⟩) ∧ w.drew.drew.cell? ⟨y, 0, none⟩ = some (.string ⟨#[cy]⟩) := ⟨x0, y0⟩
  refine wpAny_of_T (S := fun X => X.cell? ⟨x, 0, none⟩ = some (.string ⟨#[cx]⟩) ∧ X.cell? ⟨y, 0, none⟩ = some (.string ⟨#[cy]⟩)) (m := 17) _ _ _ _ ?_
  refine wpAnyT_take (i := 0) (v := .pointer (some ⟨x, 0, none⟩)) rfl (by kernel_rfl) (by kernel_rfl) (by kernel_rfl) (by kernel_rfl) (fun _ _ _ h => h) (Or.inl ⟨by kernel_rfl, fun X hS => by obtain ⟨e0, e1⟩ := hS; go_simp⟩) SX ?_
  try go_simp
  refine wpAnyT_take (i := 1) (v := .pointer (some ⟨x, 0, none⟩)) rfl (by kernel_rfl) (by kernel_rfl) (by kernel_rfl) (by kernel_rfl) (fun _ _ _ h => h) (Or.inl ⟨by kernel_rfl, fun X hS => by obtain ⟨e0, e1⟩ := hS; go_simp⟩) SX ?_
  try go_simp
  refine wpAnyT_take (i := 2) (v := .pointer (some ⟨x, 0, none⟩)) rfl (by kernel_rfl) (by kernel_rfl) (by kernel_rfl) (by kernel_rfl) (fun _ _ _ h => h) (Or.inl ⟨by kernel_rfl, fun X hS => by obtain ⟨e0, e1⟩ := hS; go_simp⟩) SX ?_
  try go_simp
  refine wpAnyT_take (i := 3) (v := .string ⟨#[cx]⟩) rfl (by kernel_rfl) (by kernel_rfl) (by kernel_rfl) (by kernel_rfl) (fun _ _ _ h => h) (Or.inl ⟨by kernel_rfl, fun X hS => by obtain ⟨e0, e1⟩ := hS; clear x0 y0; go_simp⟩) SX ?_
  try go_simp
  refine wpAnyT_one 4 rfl (by kernel_rfl) (fun K hK => ?_)
  go_simp
  refine (isVar_one cx false hvx w.drew.drew).mono ?_
  rintro e w' ⟨rfl, rfl⟩
  refine hK _ _ (fun _ => SX) ?_
  clear hK K
  refine wpAnyT_take (i := 5) (v := .bool true) rfl (by kernel_rfl) (by kernel_rfl) (by kernel_rfl) (by kernel_rfl) (fun _ _ _ h => h) (Or.inl ⟨by kernel_rfl, fun X hS => by obtain ⟨e0, e1⟩ := hS; go_simp⟩) SX ?_
  try go_simp
  refine wpAnyT_take (i := 6) (v := .bool true) rfl (by kernel_rfl) (by kernel_rfl) (by kernel_rfl) (by kernel_rfl) (fun _ _ _ h => h) (Or.inl ⟨by kernel_rfl, fun X hS => by obtain ⟨e0, e1⟩ := hS; go_simp⟩) SX ?_
  try go_simp
  refine wpAnyT_take (i := 7) (v := .pointer (some ⟨x, 0, none⟩)) rfl (by kernel_rfl) (by kernel_rfl) (by kernel_rfl) (by kernel_rfl) (fun _ _ _ h => h) (Or.inl ⟨by kernel_rfl, fun X hS => by obtain ⟨e0, e1⟩ := hS; go_simp⟩) SX ?_
  try go_simp
  refine wpAnyT_take (i := 8) (v := .pointer (some ⟨x, 0, none⟩)) rfl (by kernel_rfl) (by kernel_rfl) (by kernel_rfl) (by kernel_rfl) (fun _ _ _ h => h) (Or.inl ⟨by kernel_rfl, fun X hS => by obtain ⟨e0, e1⟩ := hS; go_simp⟩) SX ?_
  try go_simp
  refine wpAnyT_take (i := 9) (v := .pointer (some ⟨x, 0, none⟩)) rfl (by kernel_rfl) (by kernel_rfl) (by kernel_rfl) (by kernel_rfl) (fun _ _ _ h => h) (Or.inl ⟨by kernel_rfl, fun X hS => by obtain ⟨e0, e1⟩ := hS; go_simp⟩) SX ?_
  try go_simp
  refine wpAnyT_take (i := 10) (v := .string ⟨#[cx]⟩) rfl (by kernel_rfl) (by kernel_rfl) (by kernel_rfl) (by kernel_rfl) (fun _ _ _ h => h) (Or.inl ⟨by kernel_rfl, fun X hS => by obtain ⟨e0, e1⟩ := hS; clear x0 y0; go_simp⟩) SX ?_
  try go_simp
  refine wpAnyT_take (i := 11) (v := .pointer (some ⟨y, 0, none⟩)) rfl (by kernel_rfl) (by kernel_rfl) (by kernel_rfl) (by kernel_rfl) (fun _ _ _ h => h) (Or.inl ⟨by kernel_rfl, fun X hS => by obtain ⟨e0, e1⟩ := hS; go_simp⟩) SX ?_
  try go_simp
  refine wpAnyT_take (i := 12) (v := .pointer (some ⟨y, 0, none⟩)) rfl (by kernel_rfl) (by kernel_rfl) (by kernel_rfl) (by kernel_rfl) (fun _ _ _ h => h) (Or.inl ⟨by kernel_rfl, fun X hS => by obtain ⟨e0, e1⟩ := hS; go_simp⟩) SX ?_
  try go_simp
  refine wpAnyT_take (i := 13) (v := .pointer (some ⟨y, 0, none⟩)) rfl (by kernel_rfl) (by kernel_rfl) (by kernel_rfl) (by kernel_rfl) (fun _ _ _ h => h) (Or.inl ⟨by kernel_rfl, fun X hS => by obtain ⟨e0, e1⟩ := hS; go_simp⟩) SX ?_
  try go_simp
  refine wpAnyT_take (i := 14) (v := .string ⟨#[cy]⟩) rfl (by kernel_rfl) (by kernel_rfl) (by kernel_rfl) (by kernel_rfl) (fun _ _ _ h => h) (Or.inl ⟨by kernel_rfl, fun X hS => by obtain ⟨e0, e1⟩ := hS; clear x0 y0; go_simp⟩) SX ?_
  try go_simp
  refine wpAnyT_take (i := 15) (v := .bool false) rfl (by kernel_rfl) (by kernel_rfl) (by kernel_rfl) (by kernel_rfl) (fun _ _ _ h => h) (Or.inl ⟨by kernel_rfl, fun X hS => by clear hS; go_simp⟩) SX ?_
  try go_simp
  refine wpAnyT_take (i := 16) (v := .bool false) rfl (by kernel_rfl) (by kernel_rfl) (by kernel_rfl) (by kernel_rfl) (fun _ _ _ h => h) (Or.inl ⟨by kernel_rfl, fun X hS => by obtain ⟨e0, e1⟩ := hS; go_simp⟩) SX ?_
  try go_simp
  refine wpAnyT_drop _ 17 _ _ _ (by decide) (by kernel_rfl) ?_
  change wpList _ _ _ [] _ _
  clear SX
  go_wp2_with fail
  have HGV : Hid (GH (w.setCell ⟨x, 2, none⟩ (.pointer (some ⟨y, 0, none⟩))).drew.drew N (lnk L x y) B) := GH.kc (w' := (w.setCell ⟨x, 2, none⟩ (.pointer (some ⟨y, 0, none⟩))).drew.drew) (GH.link HG.out ⟨_, HX.out⟩ y) (fun _ _ _ _ h => h)
  have HTV : Hid (TN N w (w.setCell ⟨x, 2, none⟩ (.pointer (some ⟨y, 0, none⟩))).drew.drew) := ((TN.set (N := N) (x := x) (o := 2) w ⟨_, HX.out⟩ (.pointer (some ⟨y, 0, none⟩))).trans (TN.drew N _)).trans (TN.drew N _)
  have HNLV : Hid (NL N (lnk L x y)) := nl_lnk HNL.out ⟨_, HY.out⟩
  have HRV := hid (row_tn HTV.out HG.out HRX.out)
  clear x0 x1 x2 fx2 y0 y1 y2 fy2 hlx hly
  generalize (w.setCell ⟨x, 2, none⟩ (.pointer (some ⟨y, 0, none⟩))).drew.drew = V at *
  refine wp_loop_rounds 3 ?_
  obtain ⟨g0, eg0, c0, hg0⟩ := row_part HRV.out (j := 0) (p := p) rfl (by simp)
  obtain ⟨ay0, cay0, -, d0, -, -, hly0, hry0⟩ := HGV.out.at HY.out
  obtain ⟨k0, ek0, f0, hk0⟩ := row_part hry0 (j := 0) (p := q) rfl (by simp)
  subst eg0
  subst ek0
  clear hry0
  rw [rounds_succ]
  go_wp2_with fail
  refine (i1 V B HGV.out HNLV.out hnp hnq).mono ?_
  rintro e V0 ⟨rfl, hgh, htn⟩
  have HGV0 := hid hgh
  have HTV0 : Hid (TN N w V0) := HTV.out.trans htn
  have HRV0 := hid (row_tn htn HGV.out HRV.out)
  clear hgh htn c0 d0 f0
  have HNLV0 := hid (nl1 HNLV.out)
  go_wp2_with fail
  obtain ⟨g1, eg1, c1, hg1⟩ := row_part HRV0.out (j := 1) (p := p2) rfl (by simp)
  obtain ⟨ay1, cay1, -, d1, -, -, hly1, hry1⟩ := HGV0.out.at HY.out
  obtain ⟨k1, ek1, f1, hk1⟩ := row_part hry1 (j := 1) (p := q2) rfl (by simp)
  cases eg1
  subst ek1
  clear hry1
  rw [rounds_succ]
  go_wp2_with fail
  refine (i2 V0 B HGV0.out HNLV0.out hnp2 hnq2).mono ?_
  rintro e V1 ⟨rfl, hgh, htn⟩
  have HGV1 := hid hgh
  have HTV1 : Hid (TN N w V1) := HTV0.out.trans htn
  have HRV1 := hid (row_tn htn HGV0.out HRV0.out)
  clear hgh htn c1 d1 f1
  cases r with
  | false =>
    go_wp2_with fail
    go_ret
    exact ⟨rfl, HGV1.out, HTV1.out⟩
  | true =>
    go_wp2_with fail
    rw [rounds_succ]
    go_wp2_with fail
    go_ret
    exact ⟨rfl, HGV1.out, HTV1.out⟩
set_option maxHeartbeats 8000000 in
theorem ug_var {N : Nds} {L : Lks} {a b x y : Nat} {cx cy : UInt8} {qs : List Nat} (ha : En L a x) (hb : En L b y) (hne : x ≠ y) (hx : N x = some (cx, [])) (hy : N y = some (cy, qs)) (hvx : isV cx = true) (hs : sw cx cy = false) : UgAt N L a b true (lnk L x y) := by
  cases hvy : isV cy with
  | false =>
    clear hs
    intro w B hg hnl hna hnb
    have HG := hid hg
    have HNL := hid hnl
    have HNA := hid hna
    have HNB := hid hnb
    have hpe : (binOp .eql 81 (.pointer (some ⟨x, 0, none⟩)) (.pointer (some ⟨y, 0, none⟩))).run Try.prog w = .ok (.bool false) w := by
      have := eql_ptr (w := w) (hg.nb ⟨_, hx⟩) (hg.nb ⟨_, hy⟩)
      rwa [decide_eq_false hne] at this
    obtain ⟨ax, capx, x0, x1, x2, fx2, hlx, hrx⟩ := hg.at hx
    obtain ⟨ay, capy, y0, y1, y2, fy2, hly, hry⟩ := hg.at hy
    have HRX := hid hrx
    have HRY := hid hry
    have HX := hid hx
    have HY := hid hy
    have HNE := hid hne
    clear hx hy hne hrx hry
    clear hg hnl hna hnb
    go_enter Try.func42, Try.ntmps42
    go_wp2_with fail
    refine (end_any ha HNL.out w HG.out HNA.out).mono ?_
    rintro e w' ⟨rfl, rfl⟩
    go_wp2_with fail
    refine (end_any hb HNL.out w HG.out HNB.out).mono ?_
    rintro e w' ⟨rfl, rfl⟩
    go_wp2_with fail
    clear hpe
    refine wp_region_any (by kernel_rfl) ?_
    change wpAny _ _ _ _ _ _ _ (World.drew _)
    have SX : w.drew.cell? ⟨x, 0, none⟩ = some (.string ⟨#[cx]⟩) ∧ w.drew.cell? ⟨y, 0, none⟩ = some (.string ⟨#[cy]⟩) := ⟨x0, y0⟩
    refine wpAny_of_T (S := fun X => X.cell? ⟨x, 0, none⟩ = some (.string ⟨#[cx]⟩) ∧ X.cell? ⟨y, 0, none⟩ = some (.string ⟨#[cy]⟩)) (m := 24) _ _ _ _ ?_
    refine wpAnyT_take (i := 0) (v := .pointer (some ⟨x, 0, none⟩)) rfl (by kernel_rfl) (by kernel_rfl) (by kernel_rfl) (by kernel_rfl) (fun _ _ _ h => h) (Or.inl ⟨by kernel_rfl, fun X hS => by obtain ⟨e0, e1⟩ := hS; go_simp⟩) SX ?_
    try go_simp
    refine wpAnyT_take (i := 1) (v := .pointer (some ⟨x, 0, none⟩)) rfl (by kernel_rfl) (by kernel_rfl) (by kernel_rfl) (by kernel_rfl) (fun _ _ _ h => h) (Or.inl ⟨by kernel_rfl, fun X hS => by obtain ⟨e0, e1⟩ := hS; go_simp⟩) SX ?_
    try go_simp
    refine wpAnyT_take (i := 2) (v := .pointer (some ⟨x, 0, none⟩)) rfl (by kernel_rfl) (by kernel_rfl) (by kernel_rfl) (by kernel_rfl) (fun _ _ _ h => h) (Or.inl ⟨by kernel_rfl, fun X hS => by obtain ⟨e0, e1⟩ := hS; go_simp⟩) SX ?_
    try go_simp
    refine wpAnyT_take (i := 3) (v := .string ⟨#[cx]⟩) rfl (by kernel_rfl) (by kernel_rfl) (by kernel_rfl) (by kernel_rfl) (fun _ _ _ h => h) (Or.inl ⟨by kernel_rfl, fun X hS => by obtain ⟨e0, e1⟩ := hS; clear x0 y0; go_simp⟩) SX ?_
    try go_simp
    refine wpAnyT_one 4 rfl (by kernel_rfl) (fun K hK => ?_)
    go_simp
    refine (isVar_one cx true hvx w.drew).mono ?_
    rintro e w' ⟨rfl, rfl⟩
    refine hK _ _ (fun _ => SX) ?_
    clear hK K
    refine wpAnyT_take (i := 5) (v := .bool true) rfl (by kernel_rfl) (by kernel_rfl) (by kernel_rfl) (by kernel_rfl) (fun _ _ _ h => h) (Or.inl ⟨by kernel_rfl, fun X hS => by obtain ⟨e0, e1⟩ := hS; go_simp⟩) SX ?_
    try go_simp
    refine wpAnyT_take (i := 6) (v := .pointer (some ⟨y, 0, none⟩)) rfl (by kernel_rfl) (by kernel_rfl) (by kernel_rfl) (by kernel_rfl) (fun _ _ _ h => h) (Or.inl ⟨by kernel_rfl, fun X hS => by obtain ⟨e0, e1⟩ := hS; go_simp⟩) SX ?_
    try go_simp
    refine wpAnyT_take (i := 7) (v := .pointer (some ⟨y, 0, none⟩)) rfl (by kernel_rfl) (by kernel_rfl) (by kernel_rfl) (by kernel_rfl) (fun _ _ _ h => h) (Or.inl ⟨by kernel_rfl, fun X hS => by obtain ⟨e0, e1⟩ := hS; go_simp⟩) SX ?_
    try go_simp
    refine wpAnyT_take (i := 8) (v := .pointer (some ⟨y, 0, none⟩)) rfl (by kernel_rfl) (by kernel_rfl) (by kernel_rfl) (by kernel_rfl) (fun _ _ _ h => h) (Or.inl ⟨by kernel_rfl, fun X hS => by obtain ⟨e0, e1⟩ := hS; go_simp⟩) SX ?_
    try go_simp
    refine wpAnyT_take (i := 9) (v := .string ⟨#[cy]⟩) rfl (by kernel_rfl) (by kernel_rfl) (by kernel_rfl) (by kernel_rfl) (fun _ _ _ h => h) (Or.inl ⟨by kernel_rfl, fun X hS => by obtain ⟨e0, e1⟩ := hS; clear x0 y0; go_simp⟩) SX ?_
    try go_simp
    refine wpAnyT_one 10 rfl (by kernel_rfl) (fun K hK => ?_)
    go_simp
    refine (isVar_one cy false hvy w.drew).mono ?_
    rintro e w' ⟨rfl, rfl⟩
    refine hK _ _ (fun _ => SX) ?_
    clear hK K
    refine wpAnyT_take (i := 11) (v := .bool false) rfl (by kernel_rfl) (by kernel_rfl) (by kernel_rfl) (by kernel_rfl) (fun _ _ _ h => h) (Or.inl ⟨by kernel_rfl, fun X hS => by obtain ⟨e0, e1⟩ := hS; go_simp⟩) SX ?_
    try go_simp
    refine wpAnyT_take (i := 12) (v := .bool false) rfl (by kernel_rfl) (by kernel_rfl) (by kernel_rfl) (by kernel_rfl) (fun _ _ _ h => h) (Or.inl ⟨by kernel_rfl, fun X hS => by obtain ⟨e0, e1⟩ := hS; go_simp⟩) SX ?_
    try go_simp
    refine wpAnyT_take (i := 13) (v := undef) rfl (by kernel_rfl) (by kernel_rfl) (by kernel_rfl) (by kernel_rfl) (fun _ _ _ h => h) (Or.inr ⟨by kernel_rfl, rfl⟩) SX ?_
    try go_simp
    refine wpAnyT_take (i := 14) (v := undef) rfl (by kernel_rfl) (by kernel_rfl) (by kernel_rfl) (by kernel_rfl) (fun _ _ _ h => h) (Or.inr ⟨by kernel_rfl, rfl⟩) SX ?_
    try go_simp
    refine wpAnyT_take (i := 15) (v := undef) rfl (by kernel_rfl) (by kernel_rfl) (by kernel_rfl) (by kernel_rfl) (fun _ _ _ h => h) (Or.inr ⟨by kernel_rfl, rfl⟩) SX ?_
    try go_simp
    refine wpAnyT_take (i := 16) (v := undef) rfl (by kernel_rfl) (by kernel_rfl) (by kernel_rfl) (by kernel_rfl) (fun _ _ _ h => h) (Or.inr ⟨by kernel_rfl, rfl⟩) SX ?_
    try go_simp
    refine wpAnyT_take (i := 17) (v := undef) rfl (by kernel_rfl) (by kernel_rfl) (by kernel_rfl) (by kernel_rfl) (fun _ _ _ h => h) (Or.inr ⟨by kernel_rfl, rfl⟩) SX ?_
    try go_simp
    refine wpAnyT_take (i := 18) (v := undef) rfl (by kernel_rfl) (by kernel_rfl) (by kernel_rfl) (by kernel_rfl) (fun _ _ _ h => h) (Or.inr ⟨by kernel_rfl, rfl⟩) SX ?_
    try go_simp
    refine wpAnyT_take (i := 19) (v := undef) rfl (by kernel_rfl) (by kernel_rfl) (by kernel_rfl) (by kernel_rfl) (fun _ _ _ h => h) (Or.inr ⟨by kernel_rfl, rfl⟩) SX ?_
    try go_simp
    refine wpAnyT_take (i := 20) (v := undef) rfl (by kernel_rfl) (by kernel_rfl) (by kernel_rfl) (by kernel_rfl) (fun _ _ _ h => h) (Or.inr ⟨by kernel_rfl, rfl⟩) SX ?_
    try go_simp
    refine wpAnyT_take (i := 21) (v := undef) rfl (by kernel_rfl) (by kernel_rfl) (by kernel_rfl) (by kernel_rfl) (fun _ _ _ h => h) (Or.inr ⟨by kernel_rfl, rfl⟩) SX ?_
    try go_simp
    refine wpAnyT_take (i := 22) (v := .bool false) rfl (by kernel_rfl) (by kernel_rfl) (by kernel_rfl) (by kernel_rfl) (fun _ _ _ h => h) (Or.inl ⟨by kernel_rfl, fun X hS => by obtain ⟨e0, e1⟩ := hS; go_simp⟩) SX ?_
    try go_simp
    refine wpAnyT_one 23 rfl (by kernel_rfl) (fun K hK => ?_)
    go_simp
    refine hK _ _ (fun _ => SX) ?_
    clear hK K
    refine wpAnyT_drop _ 24 _ _ _ (by decide) (by kernel_rfl) ?_
    change wpList _ _ _ [] _ _
    clear SX
    go_wp2_with (first | (go_at_call 67; refine (isVar_gen _ _).mono ?_; rintro e w' ⟨rfl, rfl⟩; first | rw [hvx] | rw [hvy]))
    refine wp_region_any (by kernel_rfl) ?_
    change wpAny _ _ _ _ _ _ _ (World.drew _)
    have SX : w.drew.drew.cell? ⟨x, 0, none⟩ = some (.string ⟨#[cx]⟩) ∧ w.drew.drew.cell? ⟨y, 0, none⟩ = some (.string ⟨#[cy]⟩) := ⟨x0, y0⟩
    refine wpAny_of_T (S := fun X => X.cell? ⟨x, 0, none⟩ = some (.string ⟨#[cx]⟩) ∧ X.cell? ⟨y, 0, none⟩ = some (.string ⟨#[cy]⟩)) (m := 17) _ _ _ _ ?_
    refine wpAnyT_take (i := 0) (v := .pointer (some ⟨x, 0, none⟩)) rfl (by kernel_rfl) (by kernel_rfl) (by kernel_rfl) (by kernel_rfl) (fun _ _ _ h => h) (Or.inl ⟨by kernel_rfl, fun X hS => by obtain ⟨e0, e1⟩ := hS; go_simp⟩) SX ?_
    try go_simp
    refine wpAnyT_take (i := 1) (v := .pointer (some ⟨x, 0, none⟩)) rfl (by kernel_rfl) (by kernel_rfl) (by kernel_rfl) (by kernel_rfl) (fun _ _ _ h => h) (Or.inl ⟨by kernel_rfl, fun X hS => by obtain ⟨e0, e1⟩ := hS; go_simp⟩) SX ?_
    try go_simp
    refine wpAnyT_take (i := 2) (v := .pointer (some ⟨x, 0, none⟩)) rfl (by kernel_rfl) (by kernel_rfl) (by kernel_rfl) (by kernel_rfl) (fun _ _ _ h => h) (Or.inl ⟨by kernel_rfl, fun X hS => by obtain ⟨e0, e1⟩ := hS; go_simp⟩) SX ?_
    try go_simp
    refine wpAnyT_take (i := 3) (v := .string ⟨#[cx]⟩) rfl (by kernel_rfl) (by kernel_rfl) (by kernel_rfl) (by kernel_rfl) (fun _ _ _ h => h) (Or.inl ⟨by kernel_rfl, fun X hS => by obtain ⟨e0, e1⟩ := hS; clear x0 y0; go_simp⟩) SX ?_
    try go_simp
    refine wpAnyT_one 4 rfl (by kernel_rfl) (fun K hK => ?_)
    go_simp
    refine (isVar_one cx true hvx w.drew.drew).mono ?_
    rintro e w' ⟨rfl, rfl⟩
    refine hK _ _ (fun _ => SX) ?_
    clear hK K
    refine wpAnyT_take (i := 5) (v := .bool false) rfl (by kernel_rfl) (by kernel_rfl) (by kernel_rfl) (by kernel_rfl) (fun _ _ _ h => h) (Or.inl ⟨by kernel_rfl, fun X hS => by obtain ⟨e0, e1⟩ := hS; go_simp⟩) SX ?_
    try go_simp
    refine wpAnyT_take (i := 6) (v := .bool false) rfl (by kernel_rfl) (by kernel_rfl) (by kernel_rfl) (by kernel_rfl) (fun _ _ _ h => h) (Or.inl ⟨by kernel_rfl, fun X hS => by obtain ⟨e0, e1⟩ := hS; go_simp⟩) SX ?_
    try go_simp
    refine wpAnyT_take (i := 7) (v := undef) rfl (by kernel_rfl) (by kernel_rfl) (by kernel_rfl) (by kernel_rfl) (fun _ _ _ h => h) (Or.inr ⟨by kernel_rfl, rfl⟩) SX ?_
    try go_simp
    refine wpAnyT_take (i := 8) (v := undef) rfl (by kernel_rfl) (by kernel_rfl) (by kernel_rfl) (by kernel_rfl) (fun _ _ _ h => h) (Or.inr ⟨by kernel_rfl, rfl⟩) SX ?_
    try go_simp
    refine wpAnyT_take (i := 9) (v := undef) rfl (by kernel_rfl) (by kernel_rfl) (by kernel_rfl) (by kernel_rfl) (fun _ _ _ h => h) (Or.inr ⟨by kernel_rfl, rfl⟩) SX ?_
    try go_simp
    refine wpAnyT_take (i := 10) (v := undef) rfl (by kernel_rfl) (by kernel_rfl) (by kernel_rfl) (by kernel_rfl) (fun _ _ _ h => h) (Or.inr ⟨by kernel_rfl, rfl⟩) SX ?_
    try go_simp
    refine wpAnyT_take (i := 11) (v := undef) rfl (by kernel_rfl) (by kernel_rfl) (by kernel_rfl) (by kernel_rfl) (fun _ _ _ h => h) (Or.inr ⟨by kernel_rfl, rfl⟩) SX ?_
    try go_simp
    refine wpAnyT_take (i := 12) (v := undef) rfl (by kernel_rfl) (by kernel_rfl) (by kernel_rfl) (by kernel_rfl) (fun _ _ _ h => h) (Or.inr ⟨by kernel_rfl, rfl⟩) SX ?_
    try go_simp
    refine wpAnyT_take (i := 13) (v := undef) rfl (by kernel_rfl) (by kernel_rfl) (by kernel_rfl) (by kernel_rfl) (fun _ _ _ h => h) (Or.inr ⟨by kernel_rfl, rfl⟩) SX ?_
    try go_simp
    refine wpAnyT_take (i := 14) (v := undef) rfl (by kernel_rfl) (by kernel_rfl) (by kernel_rfl) (by kernel_rfl) (fun _ _ _ h => h) (Or.inr ⟨by kernel_rfl, rfl⟩) SX ?_
    try go_simp
    refine wpAnyT_take (i := 15) (v := undef) rfl (by kernel_rfl) (by kernel_rfl) (by kernel_rfl) (by kernel_rfl) (fun _ _ _ h => h) (Or.inr ⟨by kernel_rfl, rfl⟩) SX ?_
    try go_simp
    refine wpAnyT_take (i := 16) (v := .bool false) rfl (by kernel_rfl) (by kernel_rfl) (by kernel_rfl) (by kernel_rfl) (fun _ _ _ h => h) (Or.inl ⟨by kernel_rfl, fun X hS => by obtain ⟨e0, e1⟩ := hS; go_simp⟩) SX ?_
    try go_simp
    refine wpAnyT_drop _ 17 _ _ _ (by decide) (by kernel_rfl) ?_
    change wpList _ _ _ [] _ _
    clear SX
    go_wp2_with fail
    have HGV : Hid (GH (w.setCell ⟨x, 2, none⟩ (.pointer (some ⟨y, 0, none⟩))).drew.drew N (lnk L x y) B) := GH.kc (w' := (w.setCell ⟨x, 2, none⟩ (.pointer (some ⟨y, 0, none⟩))).drew.drew) (GH.link HG.out ⟨_, HX.out⟩ y) (fun _ _ _ _ h => h)
    have HTV : Hid (TN N w (w.setCell ⟨x, 2, none⟩ (.pointer (some ⟨y, 0, none⟩))).drew.drew) := ((TN.set (N := N) (x := x) (o := 2) w ⟨_, HX.out⟩ (.pointer (some ⟨y, 0, none⟩))).trans (TN.drew N _)).trans (TN.drew N _)
    have HNLV : Hid (NL N (lnk L x y)) := nl_lnk HNL.out ⟨_, HY.out⟩
    have HRV := hid (row_tn HTV.out HG.out HRX.out)
    clear x0 x1 x2 fx2 y0 y1 y2 fy2 hlx hly
    generalize (w.setCell ⟨x, 2, none⟩ (.pointer (some ⟨y, 0, none⟩))).drew.drew = V at *
    refine wp_loop_rounds 1 ?_
    rw [rounds_succ]
    go_wp2_with fail
    go_ret
    exact ⟨rfl, HGV.out, HTV.out⟩
  | true =>
    have hgt : decide (cy.toNat < cx.toNat) = false := by
      unfold sw at hs
      rw [hvx, hvy] at hs
      simpa using hs
    clear hs
    intro w B hg hnl hna hnb
    have HG := hid hg
    have HNL := hid hnl
    have HNA := hid hna
    have HNB := hid hnb
    have hpe : (binOp .eql 81 (.pointer (some ⟨x, 0, none⟩)) (.pointer (some ⟨y, 0, none⟩))).run Try.prog w = .ok (.bool false) w := by
      have := eql_ptr (w := w) (hg.nb ⟨_, hx⟩) (hg.nb ⟨_, hy⟩)
      rwa [decide_eq_false hne] at this
    obtain ⟨ax, capx, x0, x1, x2, fx2, hlx, hrx⟩ := hg.at hx
    obtain ⟨ay, capy, y0, y1, y2, fy2, hly, hry⟩ := hg.at hy
    have HRX := hid hrx
    have HRY := hid hry
    have HX := hid hx
    have HY := hid hy
    have HNE := hid hne
    clear hx hy hne hrx hry
    clear hg hnl hna hnb
    go_enter Try.func42, Try.ntmps42
    go_wp2_with fail
    refine (end_any ha HNL.out w HG.out HNA.out).mono ?_
    rintro e w' ⟨rfl, rfl⟩
    go_wp2_with fail
    refine (end_any hb HNL.out w HG.out HNB.out).mono ?_
    rintro e w' ⟨rfl, rfl⟩
    go_wp2_with fail
    clear hpe
    refine wp_region_any (by kernel_rfl) ?_
    change wpAny _ _ _ _ _ _ _ (World.drew _)
    have SX : w.drew.cell? ⟨x, 0, none⟩ = some (.string ⟨#[cx]⟩) ∧ w.drew.cell? ⟨y, 0, none⟩ = some (.string ⟨#[cy]⟩) := ⟨x0, y0⟩
    refine wpAny_of_T (S := fun X => X.cell? ⟨x, 0, none⟩ = some (.string ⟨#[cx]⟩) ∧ X.cell? ⟨y, 0, none⟩ = some (.string ⟨#[cy]⟩)) (m := 24) _ _ _ _ ?_
    refine wpAnyT_take (i := 0) (v := .pointer (some ⟨x, 0, none⟩)) rfl (by kernel_rfl) (by kernel_rfl) (by kernel_rfl) (by kernel_rfl) (fun _ _ _ h => h) (Or.inl ⟨by kernel_rfl, fun X hS => by obtain ⟨e0, e1⟩ := hS; go_simp⟩) SX ?_
    try go_simp
    refine wpAnyT_take (i := 1) (v := .pointer (some ⟨x, 0, none⟩)) rfl (by kernel_rfl) (by kernel_rfl) (by kernel_rfl) (by kernel_rfl) (fun _ _ _ h => h) (Or.inl ⟨by kernel_rfl, fun X hS => by obtain ⟨e0, e1⟩ := hS; go_simp⟩) SX ?_
    try go_simp
    refine wpAnyT_take (i := 2) (v := .pointer (some ⟨x, 0, none⟩)) rfl (by kernel_rfl) (by kernel_rfl) (by kernel_rfl) (by kernel_rfl) (fun _ _ _ h => h) (Or.inl ⟨by kernel_rfl, fun X hS => by obtain ⟨e0, e1⟩ := hS; go_simp⟩) SX ?_
    try go_simp
    refine wpAnyT_take (i := 3) (v := .string ⟨#[cx]⟩) rfl (by kernel_rfl) (by kernel_rfl) (by kernel_rfl) (by kernel_rfl) (fun _ _ _ h => h) (Or.inl ⟨by kernel_rfl, fun X hS => by obtain ⟨e0, e1⟩ := hS; clear x0 y0; go_simp⟩) SX ?_
    try go_simp
    refine wpAnyT_one 4 rfl (by kernel_rfl) (fun K hK => ?_)
    go_simp
    refine (isVar_one cx true hvx w.drew).mono ?_
    rintro e w' ⟨rfl, rfl⟩
    refine hK _ _ (fun _ => SX) ?_
    clear hK K
    refine wpAnyT_take (i := 5) (v := .bool true) rfl (by kernel_rfl) (by kernel_rfl) (by kernel_rfl) (by kernel_rfl) (fun _ _ _ h => h) (Or.inl ⟨by kernel_rfl, fun X hS => by obtain ⟨e0, e1⟩ := hS; go_simp⟩) SX ?_
    try go_simp
    refine wpAnyT_take (i := 6) (v := .pointer (some ⟨y, 0, none⟩)) rfl (by kernel_rfl) (by kernel_rfl) (by kernel_rfl) (by kernel_rfl) (fun _ _ _ h => h) (Or.inl ⟨by kernel_rfl, fun X hS => by obtain ⟨e0, e1⟩ := hS; go_simp⟩) SX ?_
    try go_simp
    refine wpAnyT_take (i := 7) (v := .pointer (some ⟨y, 0, none⟩)) rfl (by kernel_rfl) (by kernel_rfl) (by kernel_rfl) (by kernel_rfl) (fun _ _ _ h => h) (Or.inl ⟨by kernel_rfl, fun X hS => by obtain ⟨e0, e1⟩ := hS; go_simp⟩) SX ?_
    try go_simp
    refine wpAnyT_take (i := 8) (v := .pointer (some ⟨y, 0, none⟩)) rfl (by kernel_rfl) (by kernel_rfl) (by kernel_rfl) (by kernel_rfl) (fun _ _ _ h => h) (Or.inl ⟨by kernel_rfl, fun X hS => by obtain ⟨e0, e1⟩ := hS; go_simp⟩) SX ?_
    try go_simp
    refine wpAnyT_take (i := 9) (v := .string ⟨#[cy]⟩) rfl (by kernel_rfl) (by kernel_rfl) (by kernel_rfl) (by kernel_rfl) (fun _ _ _ h => h) (Or.inl ⟨by kernel_rfl, fun X hS => by obtain ⟨e0, e1⟩ := hS; clear x0 y0; go_simp⟩) SX ?_
    try go_simp
    refine wpAnyT_one 10 rfl (by kernel_rfl) (fun K hK => ?_)
    go_simp
    refine (isVar_one cy true hvy w.drew).mono ?_
    rintro e w' ⟨rfl, rfl⟩
    refine hK _ _ (fun _ => SX) ?_
    clear hK K
    refine wpAnyT_take (i := 11) (v := .bool true) rfl (by kernel_rfl) (by kernel_rfl) (by kernel_rfl) (by kernel_rfl) (fun _ _ _ h => h) (Or.inl ⟨by kernel_rfl, fun X hS => by obtain ⟨e0, e1⟩ := hS; go_simp⟩) SX ?_
    try go_simp
    refine wpAnyT_take (i := 12) (v := .bool true) rfl (by kernel_rfl) (by kernel_rfl) (by kernel_rfl) (by kernel_rfl) (fun _ _ _ h => h) (Or.inl ⟨by kernel_rfl, fun X hS => by obtain ⟨e0, e1⟩ := hS; go_simp⟩) SX ?_
    try go_simp
    refine wpAnyT_take (i := 13) (v := .pointer (some ⟨x, 0, none⟩)) rfl (by kernel_rfl) (by kernel_rfl) (by kernel_rfl) (by kernel_rfl) (fun _ _ _ h => h) (Or.inl ⟨by kernel_rfl, fun X hS => by obtain ⟨e0, e1⟩ := hS; go_simp⟩) SX ?_
    try go_simp
    refine wpAnyT_take (i := 14) (v := .pointer (some ⟨x, 0, none⟩)) rfl (by kernel_rfl) (by kernel_rfl) (by kernel_rfl) (by kernel_rfl) (fun _ _ _ h => h) (Or.inl ⟨by kernel_rfl, fun X hS => by obtain ⟨e0, e1⟩ := hS; go_simp⟩) SX ?_
    try go_simp
    refine wpAnyT_take (i := 15) (v := .pointer (some ⟨x, 0, none⟩)) rfl (by kernel_rfl) (by kernel_rfl) (by kernel_rfl) (by kernel_rfl) (fun _ _ _ h => h) (Or.inl ⟨by kernel_rfl, fun X hS => by obtain ⟨e0, e1⟩ := hS; go_simp⟩) SX ?_
    try go_simp
    refine wpAnyT_take (i := 16) (v := .string ⟨#[cx]⟩) rfl (by kernel_rfl) (by kernel_rfl) (by kernel_rfl) (by kernel_rfl) (fun _ _ _ h => h) (Or.inl ⟨by kernel_rfl, fun X hS => by obtain ⟨e0, e1⟩ := hS; clear x0 y0; go_simp⟩) SX ?_
    try go_simp
    refine wpAnyT_take (i := 17) (v := .pointer (some ⟨y, 0, none⟩)) rfl (by kernel_rfl) (by kernel_rfl) (by kernel_rfl) (by kernel_rfl) (fun _ _ _ h => h) (Or.inl ⟨by kernel_rfl, fun X hS => by obtain ⟨e0, e1⟩ := hS; go_simp⟩) SX ?_
    try go_simp
    refine wpAnyT_take (i := 18) (v := .pointer (some ⟨y, 0, none⟩)) rfl (by kernel_rfl) (by kernel_rfl) (by kernel_rfl) (by kernel_rfl) (fun _ _ _ h => h) (Or.inl ⟨by kernel_rfl, fun X hS => by obtain ⟨e0, e1⟩ := hS; go_simp⟩) SX ?_
    try go_simp
    refine wpAnyT_take (i := 19) (v := .pointer (some ⟨y, 0, none⟩)) rfl (by kernel_rfl) (by kernel_rfl) (by kernel_rfl) (by kernel_rfl) (fun _ _ _ h => h) (Or.inl ⟨by kernel_rfl, fun X hS => by obtain ⟨e0, e1⟩ := hS; go_simp⟩) SX ?_
    try go_simp
    refine wpAnyT_take (i := 20) (v := .string ⟨#[cy]⟩) rfl (by kernel_rfl) (by kernel_rfl) (by kernel_rfl) (by kernel_rfl) (fun _ _ _ h => h) (Or.inl ⟨by kernel_rfl, fun X hS => by obtain ⟨e0, e1⟩ := hS; clear x0 y0; go_simp⟩) SX ?_
    try go_simp
    refine wpAnyT_take (i := 21) (v := .bool false) rfl (by kernel_rfl) (by kernel_rfl) (by kernel_rfl) (by kernel_rfl) (fun _ _ _ h => h) (Or.inl ⟨by kernel_rfl, fun X hS => by clear hS; have hq := gtr1 Try.prog 9 cx cy X; rw [hgt] at hq; go_simp⟩) SX ?_
    try go_simp
    refine wpAnyT_take (i := 22) (v := .bool false) rfl (by kernel_rfl) (by kernel_rfl) (by kernel_rfl) (by kernel_rfl) (fun _ _ _ h => h) (Or.inl ⟨by kernel_rfl, fun X hS => by obtain ⟨e0, e1⟩ := hS; go_simp⟩) SX ?_
    try go_simp
    refine wpAnyT_one 23 rfl (by kernel_rfl) (fun K hK => ?_)
    go_simp
    refine hK _ _ (fun _ => SX) ?_
    clear hK K
    refine wpAnyT_drop _ 24 _ _ _ (by decide) (by kernel_rfl) ?_
    change wpList _ _ _ [] _ _
    clear SX
    go_wp2_with (first | (go_at_call 67; refine (isVar_gen _ _).mono ?_; rintro e w' ⟨rfl, rfl⟩; first | rw [hvx] | rw [hvy]))
    refine wp_region_any (by kernel_rfl) ?_
    change wpAny _ _ _ _ _ _ _ (World.drew _)
    have SX : w.drew.drew.cell? ⟨x, 0, none⟩ = some (.string ⟨#[cx]⟩) ∧ w.drew.drew.cell? ⟨y, 0, none⟩ = some (.string ⟨#[cy]⟩) := ⟨x0, y0⟩
    refine wpAny_of_T (S := fun X => X.cell? ⟨x, 0, none⟩ = some (.string ⟨#[cx]⟩) ∧ X.cell? ⟨y, 0, none⟩ = some (.string ⟨#[cy]⟩)) (m := 17) _ _ _ _ ?_
    refine wpAnyT_take (i := 0) (v := .pointer (some ⟨x, 0, none⟩)) rfl (by kernel_rfl) (by kernel_rfl) (by kernel_rfl) (by kernel_rfl) (fun _ _ _ h => h) (Or.inl ⟨by kernel_rfl, fun X hS => by obtain ⟨e0, e1⟩ := hS; go_simp⟩) SX ?_
    try go_simp
    refine wpAnyT_take (i := 1) (v := .pointer (some ⟨x, 0, none⟩)) rfl (by kernel_rfl) (by kernel_rfl) (by kernel_rfl) (by kernel_rfl) (fun _ _ _ h => h) (Or.inl ⟨by kernel_rfl, fun X hS => by obtain ⟨e0, e1⟩ := hS; go_simp⟩) SX ?_
    try go_simp
    refine wpAnyT_take (i := 2) (v := .pointer (some ⟨x, 0, none⟩)) rfl (by kernel_rfl) (by kernel_rfl) (by kernel_rfl) (by kernel_rfl) (fun _ _ _ h => h) (Or.inl ⟨by kernel_rfl, fun X hS => by obtain ⟨e0, e1⟩ := hS; go_simp⟩) SX ?_
    try go_simp
    refine wpAnyT_take (i := 3) (v := .string ⟨#[cx]⟩) rfl (by kernel_rfl) (by kernel_rfl) (by kernel_rfl) (by kernel_rfl) (fun _ _ _ h => h) (Or.inl ⟨by kernel_rfl, fun X hS => by obtain ⟨e0, e1⟩ := hS; clear x0 y0; go_simp⟩) SX ?_
    try go_simp
    refine wpAnyT_one 4 rfl (by kernel_rfl) (fun K hK => ?_)
    go_simp
    refine (isVar_one cx true hvx w.drew.drew).mono ?_
    rintro e w' ⟨rfl, rfl⟩
    refine hK _ _ (fun _ => SX) ?_
    clear hK K
    refine wpAnyT_take (i := 5) (v := .bool false) rfl (by kernel_rfl) (by kernel_rfl) (by kernel_rfl) (by kernel_rfl) (fun _ _ _ h => h) (Or.inl ⟨by kernel_rfl, fun X hS => by obtain ⟨e0, e1⟩ := hS; go_simp⟩) SX ?_
    try go_simp
    refine wpAnyT_take (i := 6) (v := .bool false) rfl (by kernel_rfl) (by kernel_rfl) (by kernel_rfl) (by kernel_rfl) (fun _ _ _ h => h) (Or.inl ⟨by kernel_rfl, fun X hS => by obtain ⟨e0, e1⟩ := hS; go_simp⟩) SX ?_
    try go_simp
    refine wpAnyT_take (i := 7) (v := undef) rfl (by kernel_rfl) (by kernel_rfl) (by kernel_rfl) (by kernel_rfl) (fun _ _ _ h => h) (Or.inr ⟨by kernel_rfl, rfl⟩) SX ?_
    try go_simp
    refine wpAnyT_take (i := 8) (v := undef) rfl (by kernel_rfl) (by kernel_rfl) (by kernel_rfl) (by kernel_rfl) (fun _ _ _ h => h) (Or.inr ⟨by kernel_rfl, rfl⟩) SX ?_
    try go_simp
    refine wpAnyT_take (i := 9) (v := undef) rfl (by kernel_rfl) (by kernel_rfl) (by kernel_rfl) (by kernel_rfl) (fun _ _ _ h => h) (Or.inr ⟨by kernel_rfl, rfl⟩) SX ?_
    try go_simp
    refine wpAnyT_take (i := 10) (v := undef) rfl (by kernel_rfl) (by kernel_rfl) (by kernel_rfl) (by kernel_rfl) (fun _ _ _ h => h) (Or.inr ⟨by kernel_rfl, rfl⟩) SX ?_
    try go_simp
    refine wpAnyT_take (i := 11) (v := undef) rfl (by kernel_rfl) (by kernel_rfl) (by kernel_rfl) (by kernel_rfl) (fun _ _ _ h => h) (Or.inr ⟨by kernel_rfl, rfl⟩) SX ?_
    try go_simp
    refine wpAnyT_take (i := 12) (v := undef) rfl (by kernel_rfl) (by kernel_rfl) (by kernel_rfl) (by kernel_rfl) (fun _ _ _ h => h) (Or.inr ⟨by kernel_rfl, rfl⟩) SX ?_
    try go_simp
    refine wpAnyT_take (i := 13) (v := undef) rfl (by kernel_rfl) (by kernel_rfl) (by kernel_rfl) (by kernel_rfl) (fun _ _ _ h => h) (Or.inr ⟨by kernel_rfl, rfl⟩) SX ?_
    try go_simp
    refine wpAnyT_take (i := 14) (v := undef) rfl (by kernel_rfl) (by kernel_rfl) (by kernel_rfl) (by kernel_rfl) (fun _ _ _ h => h) (Or.inr ⟨by kernel_rfl, rfl⟩) SX ?_
    try go_simp
    refine wpAnyT_take (i := 15) (v := undef) rfl (by kernel_rfl) (by kernel_rfl) (by kernel_rfl) (by kernel_rfl) (fun _ _ _ h => h) (Or.inr ⟨by kernel_rfl, rfl⟩) SX ?_
    try go_simp
    refine wpAnyT_take (i := 16) (v := .bool false) rfl (by kernel_rfl) (by kernel_rfl) (by kernel_rfl) (by kernel_rfl) (fun _ _ _ h => h) (Or.inl ⟨by kernel_rfl, fun X hS => by obtain ⟨e0, e1⟩ := hS; go_simp⟩) SX ?_
    try go_simp
    refine wpAnyT_drop _ 17 _ _ _ (by decide) (by kernel_rfl) ?_
    change wpList _ _ _ [] _ _
    clear SX
    go_wp2_with fail
    have HGV : Hid (GH (w.setCell ⟨x, 2, none⟩ (.pointer (some ⟨y, 0, none⟩))).drew.drew N (lnk L x y) B) := GH.kc (w' := (w.setCell ⟨x, 2, none⟩ (.pointer (some ⟨y, 0, none⟩))).drew.drew) (GH.link HG.out ⟨_, HX.out⟩ y) (fun _ _ _ _ h => h)
    have HTV : Hid (TN N w (w.setCell ⟨x, 2, none⟩ (.pointer (some ⟨y, 0, none⟩))).drew.drew) := ((TN.set (N := N) (x := x) (o := 2) w ⟨_, HX.out⟩ (.pointer (some ⟨y, 0, none⟩))).trans (TN.drew N _)).trans (TN.drew N _)
    have HNLV : Hid (NL N (lnk L x y)) := nl_lnk HNL.out ⟨_, HY.out⟩
    have HRV := hid (row_tn HTV.out HG.out HRX.out)
    clear x0 x1 x2 fx2 y0 y1 y2 fy2 hlx hly
    generalize (w.setCell ⟨x, 2, none⟩ (.pointer (some ⟨y, 0, none⟩))).drew.drew = V at *
    refine wp_loop_rounds 1 ?_
    rw [rounds_succ]
    go_wp2_with fail
    go_ret
    exact ⟨rfl, HGV.out, HTV.out⟩
set_option maxHeartbeats 8000000 in
theorem ug_varS {N : Nds} {L : Lks} {a b x y : Nat} {cx cy : UInt8} {qs : List Nat} (ha : En L a y) (hb : En L b x) (hne : y ≠ x) (hx : N x = some (cx, [])) (hy : N y = some (cy, qs)) (hvx : isV cx = true) (hs : sw cy cx = true) : UgAt N L a b true (lnk L x y) := by
  cases hvy : isV cy with
  | false =>
    clear hs
    intro w B hg hnl hna hnb
    have HG := hid hg
    have HNL := hid hnl
    have HNA := hid hna
    have HNB := hid hnb
    have hpe : (binOp .eql 81 (.pointer (some ⟨y, 0, none⟩)) (.pointer (some ⟨x, 0, none⟩))).run Try.prog w = .ok (.bool false) w := by
      have := eql_ptr (w := w) (hg.nb ⟨_, hy⟩) (hg.nb ⟨_, hx⟩)
      rwa [decide_eq_false hne] at this
    obtain ⟨ax, capx, x0, x1, x2, fx2, hlx, hrx⟩ := hg.at hx
    obtain ⟨ay, capy, y0, y1, y2, fy2, hly, hry⟩ := hg.at hy
    have HRX := hid hrx
    have HRY := hid hry
    have HX := hid hx
    have HY := hid hy
    have HNE := hid hne
    clear hx hy hne hrx hry
    clear hg hnl hna hnb
    go_enter Try.func42, Try.ntmps42
    go_wp2_with fail
    refine (end_any ha HNL.out w HG.out HNA.out).mono ?_
    rintro e w' ⟨rfl, rfl⟩
    go_wp2_with fail
    refine (end_any hb HNL.out w HG.out HNB.out).mono ?_
    rintro e w' ⟨rfl, rfl⟩
    go_wp2_with fail
    clear hpe
    refine wp_region_any (by kernel_rfl) ?_
    change wpAny _ _ _ _ _ _ _ (World.drew _)
    have SX : w.drew.cell? ⟨y, 0, none⟩ = some (.string ⟨#[cy]⟩) ∧ w.drew.cell? ⟨x, 0, none⟩ = some (.string ⟨#[cx]⟩) := ⟨y0, x0⟩
    refine wpAny_of_T (S := fun X => X.cell? ⟨y, 0, none⟩ = some (.string ⟨#[cy]⟩) ∧ X.cell? ⟨x, 0, none⟩ = some (.string ⟨#[cx]⟩)) (m := 24) _ _ _ _ ?_
    refine wpAnyT_take (i := 0) (v := .pointer (some ⟨y, 0, none⟩)) rfl (by kernel_rfl) (by kernel_rfl) (by kernel_rfl) (by kernel_rfl) (fun _ _ _ h => h) (Or.inl ⟨by kernel_rfl, fun X hS => by obtain ⟨e0, e1⟩ := hS; go_simp⟩) SX ?_
    try go_simp
    refine wpAnyT_take (i := 1) (v := .pointer (some ⟨y, 0, none⟩)) rfl (by kernel_rfl) (by kernel_rfl) (by kernel_rfl) (by kernel_rfl) (fun _ _ _ h => h) (Or.inl ⟨by kernel_rfl, fun X hS => by obtain ⟨e0, e1⟩ := hS; go_simp⟩) SX ?_
    try go_simp
    refine wpAnyT_take (i := 2) (v := .pointer (some ⟨y, 0, none⟩)) rfl (by kernel_rfl) (by kernel_rfl) (by kernel_rfl) (by kernel_rfl) (fun _ _ _ h => h) (Or.inl ⟨by kernel_rfl, fun X hS => by obtain ⟨e0, e1⟩ := hS; go_simp⟩) SX ?_
    try go_simp
    refine wpAnyT_take (i := 3) (v := .string ⟨#[cy]⟩) rfl (by kernel_rfl) (by kernel_rfl) (by kernel_rfl) (by kernel_rfl) (fun _ _ _ h => h) (Or.inl ⟨by kernel_rfl, fun X hS => by obtain ⟨e0, e1⟩ := hS; clear x0 y0; go_simp⟩) SX ?_
    try go_simp
    refine wpAnyT_one 4 rfl (by kernel_rfl) (fun K hK => ?_)
    go_simp
    refine (isVar_one cy false hvy w.drew).mono ?_
    rintro e w' ⟨rfl, rfl⟩
    refine hK _ _ (fun _ => SX) ?_
    clear hK K
    refine wpAnyT_take (i := 5) (v := .bool false) rfl (by kernel_rfl) (by kernel_rfl) (by kernel_rfl) (by kernel_rfl) (fun _ _ _ h => h) (Or.inl ⟨by kernel_rfl, fun X hS => by obtain ⟨e0, e1⟩ := hS; go_simp⟩) SX ?_
    try go_simp
    refine wpAnyT_take (i := 6) (v := undef) rfl (by kernel_rfl) (by kernel_rfl) (by kernel_rfl) (by kernel_rfl) (fun _ _ _ h => h) (Or.inr ⟨by kernel_rfl, rfl⟩) SX ?_
    try go_simp
    refine wpAnyT_take (i := 7) (v := undef) rfl (by kernel_rfl) (by kernel_rfl) (by kernel_rfl) (by kernel_rfl) (fun _ _ _ h => h) (Or.inr ⟨by kernel_rfl, rfl⟩) SX ?_
    try go_simp
    refine wpAnyT_take (i := 8) (v := undef) rfl (by kernel_rfl) (by kernel_rfl) (by kernel_rfl) (by kernel_rfl) (fun _ _ _ h => h) (Or.inr ⟨by kernel_rfl, rfl⟩) SX ?_
    try go_simp
    refine wpAnyT_take (i := 9) (v := undef) rfl (by kernel_rfl) (by kernel_rfl) (by kernel_rfl) (by kernel_rfl) (fun _ _ _ h => h) (Or.inr ⟨by kernel_rfl, rfl⟩) SX ?_
    try go_simp
    refine wpAnyT_take (i := 10) (v := undef) rfl (by kernel_rfl) (by kernel_rfl) (by kernel_rfl) (by kernel_rfl) (fun _ _ _ h => h) (Or.inr ⟨by kernel_rfl, rfl⟩) SX ?_
    try go_simp
    refine wpAnyT_take (i := 11) (v := .bool false) rfl (by kernel_rfl) (by kernel_rfl) (by kernel_rfl) (by kernel_rfl) (fun _ _ _ h => h) (Or.inl ⟨by kernel_rfl, fun X hS => by obtain ⟨e0, e1⟩ := hS; go_simp⟩) SX ?_
    try go_simp
    refine wpAnyT_take (i := 12) (v := .bool false) rfl (by kernel_rfl) (by kernel_rfl) (by kernel_rfl) (by kernel_rfl) (fun _ _ _ h => h) (Or.inl ⟨by kernel_rfl, fun X hS => by obtain ⟨e0, e1⟩ := hS; go_simp⟩) SX ?_
    try go_simp
    refine wpAnyT_take (i := 13) (v := undef) rfl (by kernel_rfl) (by kernel_rfl) (by kernel_rfl) (by kernel_rfl) (fun _ _ _ h => h) (Or.inr ⟨by kernel_rfl, rfl⟩) SX ?_
    try go_simp
    refine wpAnyT_take (i := 14) (v := undef) rfl (by kernel_rfl) (by kernel_rfl) (by kernel_rfl) (by kernel_rfl) (fun _ _ _ h => h) (Or.inr ⟨by kernel_rfl, rfl⟩) SX ?_
    try go_simp
    refine wpAnyT_take (i := 15) (v := undef) rfl (by kernel_rfl) (by kernel_rfl) (by kernel_rfl) (by kernel_rfl) (fun _ _ _ h => h) (Or.inr ⟨by kernel_rfl, rfl⟩) SX ?_
    try go_simp
    refine wpAnyT_take (i := 16) (v := undef) rfl (by kernel_rfl) (by kernel_rfl) (by kernel_rfl) (by kernel_rfl) (fun _ _ _ h => h) (Or.inr ⟨by kernel_rfl, rfl⟩) SX ?_
    try go_simp
    refine wpAnyT_take (i := 17) (v := undef) rfl (by kernel_rfl) (by kernel_rfl) (by kernel_rfl) (by kernel_rfl) (fun _ _ _ h => h) (Or.inr ⟨by kernel_rfl, rfl⟩) SX ?_
    try go_simp
    refine wpAnyT_take (i := 18) (v := undef) rfl (by kernel_rfl) (by kernel_rfl) (by kernel_rfl) (by kernel_rfl) (fun _ _ _ h => h) (Or.inr ⟨by kernel_rfl, rfl⟩) SX ?_
    try go_simp
    refine wpAnyT_take (i := 19) (v := undef) rfl (by kernel_rfl) (by kernel_rfl) (by kernel_rfl) (by kernel_rfl) (fun _ _ _ h => h) (Or.inr ⟨by kernel_rfl, rfl⟩) SX ?_
    try go_simp
    refine wpAnyT_take (i := 20) (v := undef) rfl (by kernel_rfl) (by kernel_rfl) (by kernel_rfl) (by kernel_rfl) (fun _ _ _ h => h) (Or.inr ⟨by kernel_rfl, rfl⟩) SX ?_
    try go_simp
    refine wpAnyT_take (i := 21) (v := undef) rfl (by kernel_rfl) (by kernel_rfl) (by kernel_rfl) (by kernel_rfl) (fun _ _ _ h => h) (Or.inr ⟨by kernel_rfl, rfl⟩) SX ?_
    try go_simp
    refine wpAnyT_take (i := 22) (v := .bool false) rfl (by kernel_rfl) (by kernel_rfl) (by kernel_rfl) (by kernel_rfl) (fun _ _ _ h => h) (Or.inl ⟨by kernel_rfl, fun X hS => by obtain ⟨e0, e1⟩ := hS; go_simp⟩) SX ?_
    try go_simp
    refine wpAnyT_one 23 rfl (by kernel_rfl) (fun K hK => ?_)
    go_simp
    refine hK _ _ (fun _ => SX) ?_
    clear hK K
    refine wpAnyT_drop _ 24 _ _ _ (by decide) (by kernel_rfl) ?_
    change wpList _ _ _ [] _ _
    clear SX
    go_wp2_with (first | (go_at_call 67; refine (isVar_gen _ _).mono ?_; rintro e w' ⟨rfl, rfl⟩; first | rw [hvy] | rw [hvx]))
    refine wp_region_any (by kernel_rfl) ?_
    change wpAny _ _ _ _ _ _ _ (World.drew _)
    have SX : w.drew.drew.cell? ⟨x, 0, none⟩ = some (.string ⟨#[cx]⟩) ∧ w.drew.drew.cell? ⟨y, 0, none⟩ = some (.string ⟨#[cy]⟩) := ⟨x0, y0⟩
    refine wpAny_of_T (S := fun X => X.cell? ⟨x, 0, none⟩ = some (.string ⟨#[cx]⟩) ∧ X.cell? ⟨y, 0, none⟩ = some (.string ⟨#[cy]⟩)) (m := 17) _ _ _ _ ?_
    refine wpAnyT_take (i := 0) (v := .pointer (some ⟨x, 0, none⟩)) rfl (by kernel_rfl) (by kernel_rfl) (by kernel_rfl) (by kernel_rfl) (fun _ _ _ h => h) (Or.inl ⟨by kernel_rfl, fun X hS => by obtain ⟨e0, e1⟩ := hS; go_simp⟩) SX ?_
    try go_simp
    refine wpAnyT_take (i := 1) (v := .pointer (some ⟨x, 0, none⟩)) rfl (by kernel_rfl) (by kernel_rfl) (by kernel_rfl) (by kernel_rfl) (fun _ _ _ h => h) (Or.inl ⟨by kernel_rfl, fun X hS => by obtain ⟨e0, e1⟩ := hS; go_simp⟩) SX ?_
    try go_simp
    refine wpAnyT_take (i := 2) (v := .pointer (some ⟨x, 0, none⟩)) rfl (by kernel_rfl) (by kernel_rfl) (by kernel_rfl) (by kernel_rfl) (fun _ _ _ h => h) (Or.inl ⟨by kernel_rfl, fun X hS => by obtain ⟨e0, e1⟩ := hS; go_simp⟩) SX ?_
    try go_simp
    refine wpAnyT_take (i := 3) (v := .string ⟨#[cx]⟩) rfl (by kernel_rfl) (by kernel_rfl) (by kernel_rfl) (by kernel_rfl) (fun _ _ _ h => h) (Or.inl ⟨by kernel_rfl, fun X hS => by obtain ⟨e0, e1⟩ := hS; clear x0 y0; go_simp⟩) SX ?_
    try go_simp
    refine wpAnyT_one 4 rfl (by kernel_rfl) (fun K hK => ?_)
    go_simp
    refine (isVar_one cx true hvx w.drew.drew).mono ?_
    rintro e w' ⟨rfl, rfl⟩
    refine hK _ _ (fun _ => SX) ?_
    clear hK K
    refine wpAnyT_take (i := 5) (v := .bool false) rfl (by kernel_rfl) (by kernel_rfl) (by kernel_rfl) (by kernel_rfl) (fun _ _ _ h => h) (Or.inl ⟨by kernel_rfl, fun X hS => by obtain ⟨e0, e1⟩ := hS; go_simp⟩) SX ?_
    try go_simp
    refine wpAnyT_take (i := 6) (v := .bool false) rfl (by kernel_rfl) (by kernel_rfl) (by kernel_rfl) (by kernel_rfl) (fun _ _ _ h => h) (Or.inl ⟨by kernel_rfl, fun X hS => by obtain ⟨e0, e1⟩ := hS; go_simp⟩) SX ?_
    try go_simp
    refine wpAnyT_take (i := 7) (v := undef) rfl (by kernel_rfl) (by kernel_rfl) (by kernel_rfl) (by kernel_rfl) (fun _ _ _ h => h) (Or.inr ⟨by kernel_rfl, rfl⟩) SX ?_
    try go_simp
    refine wpAnyT_take (i := 8) (v := undef) rfl (by kernel_rfl) (by kernel_rfl) (by kernel_rfl) (by kernel_rfl) (fun _ _ _ h => h) (Or.inr ⟨by kernel_rfl, rfl⟩) SX ?_
    try go_simp
    refine wpAnyT_take (i := 9) (v := undef) rfl (by kernel_rfl) (by kernel_rfl) (by kernel_rfl) (by kernel_rfl) (fun _ _ _ h => h) (Or.inr ⟨by kernel_rfl, rfl⟩) SX ?_
    try go_simp
    refine wpAnyT_take (i := 10) (v := undef) rfl (by kernel_rfl) (by kernel_rfl) (by kernel_rfl) (by kernel_rfl) (fun _ _ _ h => h) (Or.inr ⟨by kernel_rfl, rfl⟩) SX ?_
    try go_simp
    refine wpAnyT_take (i := 11) (v := undef) rfl (by kernel_rfl) (by kernel_rfl) (by kernel_rfl) (by kernel_rfl) (fun _ _ _ h => h) (Or.inr ⟨by kernel_rfl, rfl⟩) SX ?_
    try go_simp
    refine wpAnyT_take (i := 12) (v := undef) rfl (by kernel_rfl) (by kernel_rfl) (by kernel_rfl) (by kernel_rfl) (fun _ _ _ h => h) (Or.inr ⟨by kernel_rfl, rfl⟩) SX ?_
    try go_simp
    refine wpAnyT_take (i := 13) (v := undef) rfl (by kernel_rfl) (by kernel_rfl) (by kernel_rfl) (by kernel_rfl) (fun _ _ _ h => h) (Or.inr ⟨by kernel_rfl, rfl⟩) SX ?_
    try go_simp
    refine wpAnyT_take (i := 14) (v := undef) rfl (by kernel_rfl) (by kernel_rfl) (by kernel_rfl) (by kernel_rfl) (fun _ _ _ h => h) (Or.inr ⟨by kernel_rfl, rfl⟩) SX ?_
    try go_simp
    refine wpAnyT_take (i := 15) (v := undef) rfl (by kernel_rfl) (by kernel_rfl) (by kernel_rfl) (by kernel_rfl) (fun _ _ _ h => h) (Or.inr ⟨by kernel_rfl, rfl⟩) SX ?_
    try go_simp
    refine wpAnyT_take (i := 16) (v := .bool false) rfl (by kernel_rfl) (by kernel_rfl) (by kernel_rfl) (by kernel_rfl) (fun _ _ _ h => h) (Or.inl ⟨by kernel_rfl, fun X hS => by obtain ⟨e0, e1⟩ := hS; go_simp⟩) SX ?_
    try go_simp
    refine wpAnyT_drop _ 17 _ _ _ (by decide) (by kernel_rfl) ?_
    change wpList _ _ _ [] _ _
    clear SX
    go_wp2_with fail
    have HGV : Hid (GH (w.setCell ⟨x, 2, none⟩ (.pointer (some ⟨y, 0, none⟩))).drew.drew N (lnk L x y) B) := GH.kc (w' := (w.setCell ⟨x, 2, none⟩ (.pointer (some ⟨y, 0, none⟩))).drew.drew) (GH.link HG.out ⟨_, HX.out⟩ y) (fun _ _ _ _ h => h)
    have HTV : Hid (TN N w (w.setCell ⟨x, 2, none⟩ (.pointer (some ⟨y, 0, none⟩))).drew.drew) := ((TN.set (N := N) (x := x) (o := 2) w ⟨_, HX.out⟩ (.pointer (some ⟨y, 0, none⟩))).trans (TN.drew N _)).trans (TN.drew N _)
    have HNLV : Hid (NL N (lnk L x y)) := nl_lnk HNL.out ⟨_, HY.out⟩
    have HRV := hid (row_tn HTV.out HG.out HRX.out)
    clear x0 x1 x2 fx2 y0 y1 y2 fy2 hlx hly
    generalize (w.setCell ⟨x, 2, none⟩ (.pointer (some ⟨y, 0, none⟩))).drew.drew = V at *
    refine wp_loop_rounds 1 ?_
    rw [rounds_succ]
    go_wp2_with fail
    go_ret
    exact ⟨rfl, HGV.out, HTV.out⟩
  | true =>
    have hgt : decide (cx.toNat < cy.toNat) = true := by
      unfold sw at hs
      rw [hvx, hvy] at hs
      simpa using hs
    clear hs
    intro w B hg hnl hna hnb
    have HG := hid hg
    have HNL := hid hnl
    have HNA := hid hna
    have HNB := hid hnb
    have hpe : (binOp .eql 81 (.pointer (some ⟨y, 0, none⟩)) (.pointer (some ⟨x, 0, none⟩))).run Try.prog w = .ok (.bool false) w := by
      have := eql_ptr (w := w) (hg.nb ⟨_, hy⟩) (hg.nb ⟨_, hx⟩)
      rwa [decide_eq_false hne] at this
    obtain ⟨ax, capx, x0, x1, x2, fx2, hlx, hrx⟩ := hg.at hx
    obtain ⟨ay, capy, y0, y1, y2, fy2, hly, hry⟩ := hg.at hy
    have HRX := hid hrx
    have HRY := hid hry
    have HX := hid hx
    have HY := hid hy
    have HNE := hid hne
    clear hx hy hne hrx hry
    clear hg hnl hna hnb
    go_enter Try.func42, Try.ntmps42
    go_wp2_with fail
    refine (end_any ha HNL.out w HG.out HNA.out).mono ?_
    rintro e w' ⟨rfl, rfl⟩
    go_wp2_with fail
    refine (end_any hb HNL.out w HG.out HNB.out).mono ?_
    rintro e w' ⟨rfl, rfl⟩
    go_wp2_with fail
    clear hpe
    refine wp_region_any (by kernel_rfl) ?_
    change wpAny _ _ _ _ _ _ _ (World.drew _)
    have SX : w.drew.cell? ⟨y, 0, none⟩ = some (.string ⟨#[cy]⟩) ∧ w.drew.cell? ⟨x, 0, none⟩ = some (.string ⟨#[cx]⟩) := ⟨y0, x0⟩
    refine wpAny_of_T (S := fun X => X.cell? ⟨y, 0, none⟩ = some (.string ⟨#[cy]⟩) ∧ X.cell? ⟨x, 0, none⟩ = some (.string ⟨#[cx]⟩)) (m := 24) _ _ _ _ ?_
    refine wpAnyT_take (i := 0) (v := .pointer (some ⟨y, 0, none⟩)) rfl (by kernel_rfl) (by kernel_rfl) (by kernel_rfl) (by kernel_rfl) (fun _ _ _ h => h) (Or.inl ⟨by kernel_rfl, fun X hS => by obtain ⟨e0, e1⟩ := hS; go_simp⟩) SX ?_
    try go_simp
    refine wpAnyT_take (i := 1) (v := .pointer (some ⟨y, 0, none⟩)) rfl (by kernel_rfl) (by kernel_rfl) (by kernel_rfl) (by kernel_rfl) (fun _ _ _ h => h) (Or.inl ⟨by kernel_rfl, fun X hS => by obtain ⟨e0, e1⟩ := hS; go_simp⟩) SX ?_
    try go_simp
    refine wpAnyT_take (i := 2) (v := .pointer (some ⟨y, 0, none⟩)) rfl (by kernel_rfl) (by kernel_rfl) (by kernel_rfl) (by kernel_rfl) (fun _ _ _ h => h) (Or.inl ⟨by kernel_rfl, fun X hS => by obtain ⟨e0, e1⟩ := hS; go_simp⟩) SX ?_
    try go_simp
    refine wpAnyT_take (i := 3) (v := .string ⟨#[cy]⟩) rfl (by kernel_rfl) (by kernel_rfl) (by kernel_rfl) (by kernel_rfl) (fun _ _ _ h => h) (Or.inl ⟨by kernel_rfl, fun X hS => by obtain ⟨e0, e1⟩ := hS; clear x0 y0; go_simp⟩) SX ?_
    try go_simp
    refine wpAnyT_one 4 rfl (by kernel_rfl) (fun K hK => ?_)
    go_simp
    refine (isVar_one cy true hvy w.drew).mono ?_
    rintro e w' ⟨rfl, rfl⟩
    refine hK _ _ (fun _ => SX) ?_
    clear hK K
    refine wpAnyT_take (i := 5) (v := .bool true) rfl (by kernel_rfl) (by kernel_rfl) (by kernel_rfl) (by kernel_rfl) (fun _ _ _ h => h) (Or.inl ⟨by kernel_rfl, fun X hS => by obtain ⟨e0, e1⟩ := hS; go_simp⟩) SX ?_
    try go_simp
    refine wpAnyT_take (i := 6) (v := .pointer (some ⟨x, 0, none⟩)) rfl (by kernel_rfl) (by kernel_rfl) (by kernel_rfl) (by kernel_rfl) (fun _ _ _ h => h) (Or.inl ⟨by kernel_rfl, fun X hS => by obtain ⟨e0, e1⟩ := hS; go_simp⟩) SX ?_
    try go_simp
    refine wpAnyT_take (i := 7) (v := .pointer (some ⟨x, 0, none⟩)) rfl (by kernel_rfl) (by kernel_rfl) (by kernel_rfl) (by kernel_rfl) (fun _ _ _ h => h) (Or.inl ⟨by kernel_rfl, fun X hS => by obtain ⟨e0, e1⟩ := hS; go_simp⟩) SX ?_
    try go_simp
    refine wpAnyT_take (i := 8) (v := .pointer (some ⟨x, 0, none⟩)) rfl (by kernel_rfl) (by kernel_rfl) (by kernel_rfl) (by kernel_rfl) (fun _ _ _ h => h) (Or.inl ⟨by kernel_rfl, fun X hS => by obtain ⟨e0, e1⟩ := hS; go_simp⟩) SX ?_
    try go_simp
    refine wpAnyT_take (i := 9) (v := .string ⟨#[cx]⟩) rfl (by kernel_rfl) (by kernel_rfl) (by kernel_rfl) (by kernel_rfl) (fun _ _ _ h => h) (Or.inl ⟨by kernel_rfl, fun X hS => by obtain ⟨e0, e1⟩ := hS; clear x0 y0; go_simp⟩) SX ?_
    try go_simp
    refine wpAnyT_one 10 rfl (by kernel_rfl) (fun K hK => ?_)
    go_simp
    refine (isVar_one cx true hvx w.drew).mono ?_
    rintro e w' ⟨rfl, rfl⟩
    refine hK _ _ (fun _ => SX) ?_
    clear hK K
    refine wpAnyT_take (i := 11) (v := .bool true) rfl (by kernel_rfl) (by kernel_rfl) (by kernel_rfl) (by kernel_rfl) (fun _ _ _ h => h) (Or.inl ⟨by kernel_rfl, fun X hS => by obtain ⟨e0, e1⟩ := hS; go_simp⟩) SX ?_
    try go_simp
    refine wpAnyT_take (i := 12) (v := .bool true) rfl (by kernel_rfl) (by kernel_rfl) (by kernel_rfl) (by kernel_rfl) (fun _ _ _ h => h) (Or.inl ⟨by kernel_rfl, fun X hS => by obtain ⟨e0, e1⟩ := hS; go_simp⟩) SX ?_
    try go_simp
    refine wpAnyT_take (i := 13) (v := .pointer (some ⟨y, 0, none⟩)) rfl (by kernel_rfl) (by kernel_rfl) (by kernel_rfl) (by kernel_rfl) (fun _ _ _ h => h) (Or.inl ⟨by kernel_rfl, fun X hS => by obtain ⟨e0, e1⟩ := hS; go_simp⟩) SX ?_
    try go_simp
    refine wpAnyT_take (i := 14) (v := .pointer (some ⟨y, 0, none⟩)) rfl (by kernel_rfl) (by kernel_rfl) (by kernel_rfl) (by kernel_rfl) (fun _ _ _ h => h) (Or.inl ⟨by kernel_rfl, fun X hS => by obtain ⟨e0, e1⟩ := hS; go_simp⟩) SX ?_
    try go_simp
    refine wpAnyT_take (i := 15) (v := .pointer (some ⟨y, 0, none⟩)) rfl (by kernel_rfl) (by kernel_rfl) (by kernel_rfl) (by kernel_rfl) (fun _ _ _ h => h) (Or.inl ⟨by kernel_rfl, fun X hS => by obtain ⟨e0, e1⟩ := hS; go_simp⟩) SX ?_
    try go_simp
    refine wpAnyT_take (i := 16) (v := .string ⟨#[cy]⟩) rfl (by kernel_rfl) (by kernel_rfl) (by kernel_rfl) (by kernel_rfl) (fun _ _ _ h => h) (Or.inl ⟨by kernel_rfl, fun X hS => by obtain ⟨e0, e1⟩ := hS; clear x0 y0; go_simp⟩) SX ?_
    try go_simp
    refine wpAnyT_take (i := 17) (v := .pointer (some ⟨x, 0, none⟩)) rfl (by kernel_rfl) (by kernel_rfl) (by kernel_rfl) (by kernel_rfl) (fun _ _ _ h => h) (Or.inl ⟨by kernel_rfl, fun X hS => by obtain ⟨e0, e1⟩ := hS; go_simp⟩) SX ?_
    try go_simp
    refine wpAnyT_take (i := 18) (v := .pointer (some ⟨x, 0, none⟩)) rfl (by kernel_rfl) (by kernel_rfl) (by kernel_rfl) (by kernel_rfl) (fun _ _ _ h => h) (Or.inl ⟨by kernel_rfl, fun X hS => by obtain ⟨e0, e1⟩ := hS; go_simp⟩) SX ?_
    try go_simp
    refine wpAnyT_take (i := 19) (v := .pointer (some ⟨x, 0, none⟩)) rfl (by kernel_rfl) (by kernel_rfl) (by kernel_rfl) (by kernel_rfl) (fun _ _ _ h => h) (Or.inl ⟨by kernel_rfl, fun X hS => by obtain ⟨e0, e1⟩ := hS; go_simp⟩) SX ?_
    try go_simp
    refine wpAnyT_take (i := 20) (v := .string ⟨#[cx]⟩) rfl (by kernel_rfl) (by kernel_rfl) (by kernel_rfl) (by kernel_rfl) (fun _ _ _ h => h) (Or.inl ⟨by kernel_rfl, fun X hS => by obtain ⟨e0, e1⟩ := hS; clear x0 y0; go_simp⟩) SX ?_
    try go_simp
    refine wpAnyT_take (i := 21) (v := .bool true) rfl (by kernel_rfl) (by kernel_rfl) (by kernel_rfl) (by kernel_rfl) (fun _ _ _ h => h) (Or.inl ⟨by kernel_rfl, fun X hS => by clear hS; have hq := gtr1 Try.prog 9 cy cx X; rw [hgt] at hq; go_simp⟩) SX ?_
    try go_simp
    refine wpAnyT_take (i := 22) (v := .bool true) rfl (by kernel_rfl) (by kernel_rfl) (by kernel_rfl) (by kernel_rfl) (fun _ _ _ h => h) (Or.inl ⟨by kernel_rfl, fun X hS => by obtain ⟨e0, e1⟩ := hS; go_simp⟩) SX ?_
    try go_simp
    refine wpAnyT_one 23 rfl (by kernel_rfl) (fun K hK => ?_)
    go_simp
    refine hK _ _ (fun _ => SX) ?_
    clear hK K
    refine wpAnyT_drop _ 24 _ _ _ (by decide) (by kernel_rfl) ?_
    change wpList _ _ _ [] _ _
    clear SX
    go_wp2_with fail
    refine wp_region_any (by kernel_rfl) ?_
    change wpAny _ _ _ _ _ _ _ (World.drew _)
    have SX : w.drew.drew.cell? ⟨x, 0, none⟩ = some (.string ⟨#[cx]⟩) ∧ w.drew.drew.cell? ⟨y, 0, none⟩ = some (.string ⟨#[cy]⟩) := ⟨x0, y0⟩
    refine wpAny_of_T (S := fun X => X.cell? ⟨x, 0, none⟩ = some (.string ⟨#[cx]⟩) ∧ X.cell? ⟨y, 0, none⟩ = some (.string ⟨#[cy]⟩)) (m := 17) _ _ _ _ ?_
    refine wpAnyT_take (i := 0) (v := .pointer (some ⟨x, 0, none⟩)) rfl (by kernel_rfl) (by kernel_rfl) (by kernel_rfl) (by kernel_rfl) (fun _ _ _ h => h) (Or.inl ⟨by kernel_rfl, fun X hS => by obtain ⟨e0, e1⟩ := hS; go_simp⟩) SX ?_
    try go_simp
    refine wpAnyT_take (i := 1) (v := .pointer (some ⟨x, 0, none⟩)) rfl (by kernel_rfl) (by kernel_rfl) (by kernel_rfl) (by kernel_rfl) (fun _ _ _ h => h) (Or.inl ⟨by kernel_rfl, fun X hS => by obtain ⟨e0, e1⟩ := hS; go_simp⟩) SX ?_
    try go_simp
    refine wpAnyT_take (i := 2) (v := .pointer (some ⟨x, 0, none⟩)) rfl (by kernel_rfl) (by kernel_rfl) (by kernel_rfl) (by kernel_rfl) (fun _ _ _ h => h) (Or.inl ⟨by kernel_rfl, fun X hS => by obtain ⟨e0, e1⟩ := hS; go_simp⟩) SX ?_
    try go_simp
    refine wpAnyT_take (i := 3) (v := .string ⟨#[cx]⟩) rfl (by kernel_rfl) (by kernel_rfl) (by kernel_rfl) (by kernel_rfl) (fun _ _ _ h => h) (Or.inl ⟨by kernel_rfl, fun X hS => by obtain ⟨e0, e1⟩ := hS; clear x0 y0; go_simp⟩) SX ?_
    try go_simp
    refine wpAnyT_one 4 rfl (by kernel_rfl) (fun K hK => ?_)
    go_simp
    refine (isVar_one cx true hvx w.drew.drew).mono ?_
    rintro e w' ⟨rfl, rfl⟩
    refine hK _ _ (fun _ => SX) ?_
    clear hK K
    refine wpAnyT_take (i := 5) (v := .bool false) rfl (by kernel_rfl) (by kernel_rfl) (by kernel_rfl) (by kernel_rfl) (fun _ _ _ h => h) (Or.inl ⟨by kernel_rfl, fun X hS => by obtain ⟨e0, e1⟩ := hS; go_simp⟩) SX ?_
    try go_simp
    refine wpAnyT_take (i := 6) (v := .bool false) rfl (by kernel_rfl) (by kernel_rfl) (by kernel_rfl) (by kernel_rfl) (fun _ _ _ h => h) (Or.inl ⟨by kernel_rfl, fun X hS => by obtain ⟨e0, e1⟩ := hS; go_simp⟩) SX ?_
    try go_simp
    refine wpAnyT_take (i := 7) (v := undef) rfl (by kernel_rfl) (by kernel_rfl) (by kernel_rfl) (by kernel_rfl) (fun _ _ _ h => h) (Or.inr ⟨by kernel_rfl, rfl⟩) SX ?_
    try go_simp
    refine wpAnyT_take (i := 8) (v := undef) rfl (by kernel_rfl) (by kernel_rfl) (by kernel_rfl) (by kernel_rfl) (fun _ _ _ h => h) (Or.inr ⟨by kernel_rfl, rfl⟩) SX ?_
    try go_simp
    refine wpAnyT_take (i := 9) (v := undef) rfl (by kernel_rfl) (by kernel_rfl) (by kernel_rfl) (by kernel_rfl) (fun _ _ _ h => h) (Or.inr ⟨by kernel_rfl, rfl⟩) SX ?_
    try go_simp
    refine wpAnyT_take (i := 10) (v := undef) rfl (by kernel_rfl) (by kernel_rfl) (by kernel_rfl) (by kernel_rfl) (fun _ _ _ h => h) (Or.inr ⟨by kernel_rfl, rfl⟩) SX ?_
    try go_simp
    refine wpAnyT_take (i := 11) (v := undef) rfl (by kernel_rfl) (by kernel_rfl) (by kernel_rfl) (by kernel_rfl) (fun _ _ _ h => h) (Or.inr ⟨by kernel_rfl, rfl⟩) SX ?_
    try go_simp
    refine wpAnyT_take (i := 12) (v := undef) rfl (by kernel_rfl) (by kernel_rfl) (by kernel_rfl) (by kernel_rfl) (fun _ _ _ h => h) (Or.inr ⟨by kernel_rfl, rfl⟩) SX ?_
    try go_simp
    refine wpAnyT_take (i := 13) (v := undef) rfl (by kernel_rfl) (by kernel_rfl) (by kernel_rfl) (by kernel_rfl) (fun _ _ _ h => h) (Or.inr ⟨by kernel_rfl, rfl⟩) SX ?_
    try go_simp
    refine wpAnyT_take (i := 14) (v := undef) rfl (by kernel_rfl) (by kernel_rfl) (by kernel_rfl) (by kernel_rfl) (fun _ _ _ h => h) (Or.inr ⟨by kernel_rfl, rfl⟩) SX ?_
    try go_simp
    refine wpAnyT_take (i := 15) (v := undef) rfl (by kernel_rfl) (by kernel_rfl) (by kernel_rfl) (by kernel_rfl) (fun _ _ _ h => h) (Or.inr ⟨by kernel_rfl, rfl⟩) SX ?_
    try go_simp
    refine wpAnyT_take (i := 16) (v := .bool false) rfl (by kernel_rfl) (by kernel_rfl) (by kernel_rfl) (by kernel_rfl) (fun _ _ _ h => h) (Or.inl ⟨by kernel_rfl, fun X hS => by obtain ⟨e0, e1⟩ := hS; go_simp⟩) SX ?_
    try go_simp
    refine wpAnyT_drop _ 17 _ _ _ (by decide) (by kernel_rfl) ?_
    change wpList _ _ _ [] _ _
    clear SX
    go_wp2_with fail
    have HGV : Hid (GH (w.setCell ⟨x, 2, none⟩ (.pointer (some ⟨y, 0, none⟩))).drew.drew N (lnk L x y) B) := GH.kc (w' := (w.setCell ⟨x, 2, none⟩ (.pointer (some ⟨y, 0, none⟩))).drew.drew) (GH.link HG.out ⟨_, HX.out⟩ y) (fun _ _ _ _ h => h)
    have HTV : Hid (TN N w (w.setCell ⟨x, 2, none⟩ (.pointer (some ⟨y, 0, none⟩))).drew.drew) := ((TN.set (N := N) (x := x) (o := 2) w ⟨_, HX.out⟩ (.pointer (some ⟨y, 0, none⟩))).trans (TN.drew N _)).trans (TN.drew N _)
    have HNLV : Hid (NL N (lnk L x y)) := nl_lnk HNL.out ⟨_, HY.out⟩
    have HRV := hid (row_tn HTV.out HG.out HRX.out)
    clear x0 x1 x2 fx2 y0 y1 y2 fy2 hlx hly
    generalize (w.setCell ⟨x, 2, none⟩ (.pointer (some ⟨y, 0, none⟩))).drew.drew = V at *
    refine wp_loop_rounds 1 ?_
    rw [rounds_succ]
    go_wp2_with fail
    go_ret
    exact ⟨rfl, HGV.out, HTV.out⟩
theorem unify_any {N : Nds} (hw : Wh N) {L L2 : Lks} {a b : Nat} {r : Bool} (h : Ug2 N L a b r L2) : UgAt N L a b r L2 := by
  induction h with
  | same ha hb => exact ug_same ha hb
  | clash ha hb hne hx hy hv hv2 hc => exact ug_clash ha hb hne hx hy hv hv2 hc
  | con0 ha hb hne hx hy hv => exact ug_con0 ha hb hne hx hy hv
  | con1 ha hb hne hx hy hv _ ih => exact ug_con1 ha hb hne hx hy hv (hw.parts _ _ _ hx _ (by simp)) (hw.parts _ _ _ hy _ (by simp)) ih
  | con2f ha hb hne hx hy hv _ ih => exact ug_con2f ha hb hne hx hy hv (hw.parts _ _ _ hx _ (by simp)) (hw.parts _ _ _ hy _ (by simp)) ih
  | con2t ha hb hne hx hy hv h1 _ i1 i2 => exact ug_con2t ha hb hne hx hy hv (hw.parts _ _ _ hx _ (by simp)) (hw.parts _ _ _ hy _ (by simp)) (hw.parts _ _ _ hx _ (by simp)) (hw.parts _ _ _ hy _ (by simp)) (ug_nl h1) i1 i2
  | var ha hb hne hx hy hv hs => exact ug_var ha hb hne hx hy hv hs
  | varS ha hb hne hx hy hv hs => exact ug_varS ha hb hne hx hy hv hs
end GraW
end Go.Proofs.Ytcjalnianamlaaa
