/- The reference's l2Index, l2Walk and l2Occurs over bindings that run in no ring. Conditions: none. -/
import Derived.Test.YtcjalnianamlaaaUniP
import Derived.Test.YtcjalnianamlaaaMkType
import Derived.Test.YtcjalnianamlaaaReg2
set_option linter.unusedVariables false
set_option linter.unusedSimpArgs false
set_option maxRecDepth 100000
namespace Go.Proofs.Ytcjalnianamlaaa
open Go.RowKit Ty ListS Parts MkType
namespace UniS
open MatP UniP
def ix (c : UInt8) : Int := Lib.indexByte lts c
theorem ix_at : ∀ k : Nat, k < 12 → ∀ c, lts[k]? = some c → ix c = k := by
  intro k hk c hc
  rcases k with _ | _ | _ | _ | _ | _ | _ | _ | _ | _ | _ | _ | k
  all_goals first | omega | (simp [lts] at hc; subst hc; decide)
theorem ix_cases (c : UInt8) : (ix c = -1 ∧ c ∉ lts) ∨ ∃ k : Nat, k < 12 ∧ ix c = k ∧ lts[k]? = some c := by
  by_cases h : c ∈ lts
  · obtain ⟨k, hk⟩ := List.getElem?_of_mem h
    have hlt : k < 12 := (List.getElem?_eq_some_iff.1 hk).1
    exact .inr ⟨k, hlt, ix_at k hlt c hk, hk⟩
  · refine .inl ⟨?_, h⟩
    unfold ix
    rw [indexByte_neg]
    intro j hj e
    exact h (List.mem_of_getElem? e)
theorem lts_inj {j k : Nat} {c : UInt8} (hj : lts[j]? = some c) (hk : lts[k]? = some c) : j = k := by
  have h1 := ix_at j (List.getElem?_eq_some_iff.1 hj).1 c hj
  have h2 := ix_at k (List.getElem?_eq_some_iff.1 hk).1 c hk
  omega
theorem ix_ixl {c : UInt8} (h : c ∈ lts) : ix c = (ixl c : Int) := by
  have key : ∀ c, c ∈ lts → ix c = (ixl c : Int) := by
    intro c hc
    simp [lts] at hc
    rcases hc with rfl | rfl | rfl | rfl | rfl | rfl | rfl | rfl | rfl | rfl | rfl | rfl <;> decide
  exact key c h
theorem l2Index_any (c : UInt8) (w : World) : Calls Try.prog 56 #[.int .u8 c.toNat] w fun e w' => e = .returned (.int .i64 (ix c)) ∧ w = w' := by
  go_enter Try.func56, Try.ntmps56
  go_wp2_with (go_at_call 80; refine (l13Find _ _ _ (by decide)).mono ?_; rintro e w' ⟨rfl, rfl⟩)
  go_ret
  exact ⟨rfl, rfl⟩
/-- block mb holds the bindings m; what is bound lies in w0 -/
def MapW (w0 w : World) (mb : Nat) (m : Sg) : Prop :=
  (∀ c, c ∉ lts → m c = none) ∧ ∃ cs e, w.heap[mb]? = some (.cells cs e (0, 0)) ∧ cs.size = 24 ∧ ∀ k : Nat, k < 12 → ∀ c, lts[k]? = some c → ∃ (hd : UInt8) (a : Option Addr) (n cap : Nat), cs[k * 2]? = some (.int .u8 hd.toNat) ∧ cs[k * 2 + 1]? = some (.slice a n cap) ∧
    match m c with
    | some t => hd = t.head ∧ t.head ≠ 0 ∧ SNode 0 w0 t (.int .u8 hd.toNat) (.slice a n cap)
    | none => hd = 0
theorem MapW.heap {w0 w w' : World} {mb : Nat} {m : Sg} (h : MapW w0 w mb m) (e : w'.heap[mb]? = w.heap[mb]?) : MapW w0 w' mb m := by
  obtain ⟨h0, cs, t, h1, r⟩ := h
  exact ⟨h0, cs, t, e.trans h1, r⟩
theorem MapW.lt {w0 w : World} {mb : Nat} {m : Sg} (h : MapW w0 w mb m) : mb < w.heap.size := by
  obtain ⟨_, cs, e, h1, _⟩ := h; exact lt_of_heap h1
theorem MapW.below {w0 w w' : World} {mb : Nat} {m : Sg} (h : MapW w0 w mb m) (hb : Below w.heap.size w w') : MapW w0 w' mb m := h.heap (hb.block _ h.lt)
/-- one place is filled -/
theorem MapW.set {w0 w : World} {mb : Nat} {m : Sg} (h : MapW w0 w mb m) {k : Nat} {c : UInt8} (hk : k < 12) (hc : lts[k]? = some c) {t : Ty} {a : Option Addr} {n cap : Nat} (ht : SNode 0 w0 t (.int .u8 t.head.toNat) (.slice a n cap)) (h0 : t.head ≠ 0) :
    MapW w0 ((w.setCell ⟨mb, k * 2, none⟩ (.int .u8 t.head.toNat)).setCell ⟨mb, k * 2 + 1, none⟩ (.slice a n cap)) mb (upd m c t) := by
  obtain ⟨hf, cs, e, h1, h2, h3⟩ := h
  have hcm : c ∈ lts := List.mem_of_getElem? hc
  refine ⟨fun d hd => ?_, (cs.setIfInBounds (k * 2) (.int .u8 t.head.toNat)).setIfInBounds (k * 2 + 1) (.slice a n cap), e, heap_set (heap_set h1 _ _) _ _, by simp [h2], fun j hj d hd => ?_⟩
  · rw [upd_ne (fun e => hd (by rw [e]; exact hcm))]; exact hf d hd
  · by_cases hjk : j = k
    · subst hjk
      have : d = c := by rw [hc] at hd; exact (Option.some.inj hd).symm
      subst this
      refine ⟨t.head, a, n, cap, ?_, ?_, ?_⟩
      · rw [Array.getElem?_setIfInBounds_ne (by omega), Array.getElem?_setIfInBounds_self_of_lt (by rw [h2]; omega)]
      · rw [Array.getElem?_setIfInBounds_self_of_lt (by simp [h2]; omega)]
      · rw [upd_same]; exact ⟨rfl, h0, ht⟩
    · have hdc : d ≠ c := fun e => hjk (lts_inj (by rw [hd, e]) hc)
      obtain ⟨hd', a', n', cap', q1, q2, q3⟩ := h3 j hj d hd
      refine ⟨hd', a', n', cap', ?_, ?_, ?_⟩
      · rw [Array.getElem?_setIfInBounds_ne (by omega), Array.getElem?_setIfInBounds_ne (by omega)]; exact q1
      · rw [Array.getElem?_setIfInBounds_ne (by omega), Array.getElem?_setIfInBounds_ne (by omega)]; exact q2
      · rw [upd_ne hdc]; exact q3
/-- what lies at a letter's place -/
theorem MapW.at {w0 w : World} {mb : Nat} {m : Sg} (h : MapW w0 w mb m) {k : Nat} {c : UInt8} (hk : k < 12) (hc : lts[k]? = some c) : ∃ (hd : UInt8) (a : Option Addr) (n cap : Nat), w.cell? ⟨mb, k * 2, none⟩ = some (.int .u8 hd.toNat) ∧ w.cell? ⟨mb, k * 2 + 1, none⟩ = some (.slice a n cap) ∧ w.frozen? ⟨mb, k * 2, none⟩ = false ∧ w.frozen? ⟨mb, k * 2 + 1, none⟩ = false ∧
    match m c with
    | some t => hd = t.head ∧ t.head ≠ 0 ∧ SNode 0 w0 t (.int .u8 hd.toNat) (.slice a n cap)
    | none => hd = 0 := by
  obtain ⟨_, cs, e, h1, h2, h3⟩ := h
  obtain ⟨hd, a, n, cap, q1, q2, q3⟩ := h3 k hk c hc
  exact ⟨hd, a, n, cap, (heap_cell h1 _).trans q1, (heap_cell h1 _).trans q2, heap_free h1 _, heap_free h1 _, q3⟩
theorem u8_ne0 {c : UInt8} (h : c ≠ 0) : ((c.toNat : Int) == 0) = false ∧ ((c.toNat : Int) != 0) = true := by
  have : ((c.toNat : Int) == 0) = false := by
    rw [beq_eq_false_iff_ne]; intro e
    exact h (UInt8.toNat_inj.1 (by have : c.toNat = 0 := by omega
                                   rw [this]; rfl))
  exact ⟨this, by rw [bne, this]; rfl⟩
/-- the walk, with its length -/
def WkN (m : Sg) : Nat → Ty → Ty → Prop
  | 0, t, u => m t.head = none ∧ t = u
  | n + 1, t, u => ∃ v, m t.head = some v ∧ WkN m n v u
theorem wkN {m : Sg} {t u : Ty} (h : Wk m t u) : ∃ n, WkN m n t u := by
  induction h with
  | stop e => exact ⟨0, e, rfl⟩
  | step e _ ih => obtain ⟨n, hn⟩ := ih; exact ⟨n + 1, _, e, hn⟩
def WPost (w0 w : World) (u : Ty) (e : Ending) (w' : World) : Prop := ∃ a n c, e = .returned (.agg #[.int .u8 u.head.toNat, .slice a n c]) ∧ SNode 0 w0 u (.int .u8 u.head.toNat) (.slice a n c) ∧ Below w.heap.size w w'
def WL (w0 w : World) (m : Sg) (u : Ty) (q : Nat) (i : Value) (wr : World) : Prop :=
  ∃ (n : Nat) (v : Ty) (av : Option Addr) (nv cv : Nat), n ≤ q ∧ WkN m n v u ∧ i = .int .i64 (ix v.head) ∧ SNode 0 w0 v (.int .u8 v.head.toNat) (.slice av nv cv) ∧ wr.heap[w.heap.size]? = some (.cells #[.int .u8 v.head.toNat, .slice av nv cv] 70 (0, 0)) ∧ (∃ x y, wr.heap[w.heap.size + 1]? = some (.cells #[x, y] 70 (0, 0))) ∧ Below w.heap.size w wr
set_option maxHeartbeats 4000000 in
theorem l2Walk_any (t u : Ty) (a : Option Addr) (nn c : Nat) (w0 w : World) (mb : Nat) (m : Sg) (hw : Wk m t u) (hmap : MapW w0 w mb m) (hnode : SNode 0 w0 t (.int .u8 t.head.toNat) (.slice a nn c)) :
    Calls Try.prog 78 #[.pointer (some ⟨mb, 0, none⟩), .agg #[.int .u8 t.head.toNat, .slice a nn c]] w (WPost w0 w u) := by
  obtain ⟨n0, hn0⟩ := wkN hw
  have HW := hid hn0
  have HMAP := hid hmap
  have HN := hid hnode
  have hmb := hmap.lt
  clear hw hn0 hmap hnode
  go_enter Try.func78, Try.ntmps78
  go_wp2_with (first | (go_at_call 56; refine (l2Index_any t.head _).mono ?_; rintro e w' ⟨rfl, rfl⟩))
  go_loopg [5] n0 (fun q i wr => WL w0 w m u q i wr)
  case atStart => exact ⟨n0, t, a, nn, c, Nat.le_refl _, HW.out, rfl, HN.out, hb_alloc (heap_alloc_new _ _) _, ⟨_, _, heap_alloc2_new _ _ _⟩, ((Below.refl _ _).alloc (Nat.le_refl _) _).alloc (by simp) _⟩
  case round =>
    obtain ⟨n, v, av, nv, cv, hq, hwk, rfl, hn, hbx, ⟨xr, yr, hres⟩, hb⟩ := hrel
    have HB := hid hb
    have HBX := hid hbx
    have HRES := hid hres
    have HNV := hid hn
    have HMr := hid (HMAP.out.below hb)
    have hmr := HMr.out.lt
    have k0 := heap_cell hbx 0
    have k1 := heap_cell hbx 1
    have f0 := heap_free hbx 0
    have f1 := heap_free hbx 1
    have r0 := heap_cell hres 0
    have r1 := heap_cell hres 1
    have g0 := heap_free hres 0
    have g1 := heap_free hres 1
    have hlr := lt_of_heap hres
    have hne : mb ≠ w.heap.size := by omega
    clear hb hbx hres hn
    cases n with
    | zero =>
      obtain ⟨hmn, rfl⟩ := hwk
      rcases ix_cases v.head with ⟨hix, hni⟩ | ⟨k, hk, hix, hkl⟩
      · rw [hix]
        clear hmn
        go_wp2_with fail
        refine bodyPost_ret (results_cell_row rfl _ _ (w.heap.size + 1) 70 #[.int .u8 v.head.toNat, .slice av nv cv] (0, 0) _ rfl (heap_set (heap_set HRES.out 0 _) 1 _) Try.underlying70 rfl (by kernel_rfl)) rfl ?_
        exact ⟨av, nv, cv, rfl, HNV.out, (HB.out.setCell (by show w.heap.size ≤ w.heap.size + 1; omega) _).setCell (by show w.heap.size ≤ w.heap.size + 1; omega) _⟩
      · obtain ⟨hd, am, nm, cm, m0, m1, -, -, q3⟩ := HMr.out.at hk hkl
        rw [hmn] at q3
        obtain rfl : hd = 0 := q3
        have hj2 : (k : Int) < 12 := by omega
        rw [hix]
        clear hmn hix hkl
        go_wp2_with fail
        refine bodyPost_ret (results_cell_row rfl _ _ (w.heap.size + 1) 70 #[.int .u8 v.head.toNat, .slice av nv cv] (0, 0) _ rfl (heap_set (heap_set HRES.out 0 _) 1 _) Try.underlying70 rfl (by kernel_rfl)) rfl ?_
        exact ⟨av, nv, cv, rfl, HNV.out, (HB.out.setCell (by show w.heap.size ≤ w.heap.size + 1; omega) _).setCell (by show w.heap.size ≤ w.heap.size + 1; omega) _⟩
    | succ n =>
      obtain ⟨v', hmv, hwk'⟩ := hwk
      rcases ix_cases v.head with ⟨-, hni⟩ | ⟨k, hk, hix, hkl⟩
      · rw [HMAP.out.1 _ hni] at hmv; simp at hmv
      · obtain ⟨hd, am, nm, cm, m0, m1, -, -, q3⟩ := HMr.out.at hk hkl
        rw [hmv] at q3
        obtain ⟨rfl, h0, hsn⟩ := q3
        have HSN := hid hsn
        have HWK := hid hwk'
        have hz := (u8_ne0 h0).2
        have hj2 : (k : Int) < 12 := by omega
        rw [hix]
        clear hmv hix hkl hsn hwk' h0
        go_wp2_with (first | (go_at_call 56; refine (l2Index_any v'.head _).mono ?_; rintro e w' ⟨rfl, rfl⟩))
        go_roundg (gk - 1)
        case measure => omega
        case rel => exact ⟨n, v', am, nm, cm, by omega, HWK.out, rfl, HSN.out, heap_set (heap_set HBX.out 0 _) 1 _, ⟨xr, yr, hb_set_ne (hb_set_ne HRES.out _ _ (by show w.heap.size + 1 ≠ w.heap.size; omega)) _ _ (by show w.heap.size + 1 ≠ w.heap.size; omega)⟩, (HB.out.setCell (Nat.le_refl _) _).setCell (Nat.le_refl _) _⟩
end UniS
end Go.Proofs.Ytcjalnianamlaaa
