/- The draws of types. Conditions: those typed. -/
import Derived.Test.YtaapdhacnbhohaaGreatDraw
set_option linter.unusedVariables false
set_option linter.unusedSimpArgs false
set_option maxRecDepth 100000
namespace Go.Proofs.YtaapdhacnbhohaaGreat
open Go.RowKit
namespace Draw
theorem bsz (xs : Array UInt8) : (ByteArray.mk xs).size = xs.size := rfl
/-- a text of lo to hi bytes is drawn -/
def SPost (w : World) (a q lo hi : Nat) (e : Ending) (w' : World) : Prop := ∃ s : ByteArray, e = .returned (.string s) ∧ lo ≤ s.size ∧ s.size ≤ hi ∧ RD w' a q ∧ w.grownBy w' (some a)
def okS (lo hi : Nat) (cs : List Value) : Bool := cs.all fun v => match v with | .string s => decide (lo ≤ s.size) && decide (s.size ≤ hi) | _ => false
theorem okS_mem {lo hi : Nat} {cs : List Value} (h : okS lo hi cs = true) {u : Value} (hu : u ∈ cs) : ∃ s : ByteArray, u = .string s ∧ lo ≤ s.size ∧ s.size ≤ hi := by
  have h1 := List.all_eq_true.1 h u hu
  split at h1
  · rename_i s
    simp only [Bool.and_eq_true, decide_eq_true_eq] at h1
    exact ⟨s, rfl, h1⟩
  · simp at h1
theorem of_any (a q g n : Nat) (cs : Array Value) (w : World) (hq : q ≤ 100000) (h0 : 0 < n) (hs : n ≤ 1000) (hn : cs.size = n) (hg : w.heap[g]? = some (.cells cs 9 (0, 0))) (h : RD w a q) :
    Calls Tryz.prog 25 #[.pointer (some ⟨a, 0, none⟩), .slice (some ⟨g, 0, none⟩) n n] w fun e w' => ∃ u, u ∈ cs.toList ∧ e = .returned u ∧ RD w' a (q + 1) ∧ w.grownBy w' (some a) := by
  have HG := hid hg
  have hne : g ≠ a := by
    obtain ⟨v, xs, p, h1, -⟩ := h
    exact heap_ne hg h1 (by decide)
  have HN := hid hn
  clear hg hn
  go_enter Tryz.func25, Tryz.ntmps25
  go_wp2_with fail
  refine (pick_any a q n w h0 (by omega) (by omega) h).mono ?_
  rintro e w1 ⟨i, hi, rfl, hr, hgr⟩
  have hk := grown_keep hgr HG.out (by simp; omega)
  have hc : w1.cell? ⟨g, i, none⟩ = some (cs[i]'(by have := HN.out; omega)) := by rw [heap_cell hk, Array.getElem?_eq_getElem (by have := HN.out; omega)]
  have HM : Hid ((cs[i]'(by have := HN.out; omega)) ∈ cs.toList) := by show _ ∈ _; simp
  generalize cs[i]'_ = u at *
  have HR := hid hr
  have HGR := hid hgr
  clear hk hr hgr
  go_wp2
  go_ret
  exact ⟨u, HM.out, rfl, HR.out, HGR.out⟩
theorem ofS_any (a q g n lo hi : Nat) (cs : Array Value) (w : World) (hq : q ≤ 100000) (h0 : 0 < n) (hs : n ≤ 1000) (hn : cs.size = n) (hg : w.heap[g]? = some (.cells cs 9 (0, 0))) (hok : okS lo hi cs.toList = true) (h : RD w a q) :
    Calls Tryz.prog 25 #[.pointer (some ⟨a, 0, none⟩), .slice (some ⟨g, 0, none⟩) n n] w (SPost w a (q + 1) lo hi) := by
  refine (of_any a q g n cs w hq h0 hs hn hg h).mono ?_
  rintro e w' ⟨u, hu, rfl, hr, hgr⟩
  obtain ⟨s, rfl, h1, h2⟩ := okS_mem hok hu
  exact ⟨s, rfl, h1, h2, hr, hgr⟩
def OPost (w : World) (e : Ending) (w' : World) : Prop := ∃ a, e = .returned (.pointer (some ⟨a, 0, none⟩)) ∧ w.heap.size ≤ a ∧ RD w' a 0 ∧ Below w.heap.size w w'
theorem open_any (v : Value) (xs : List Int) (w : World) (h : SB w v xs) : Calls Tryz.prog 13 #[v] w (OPost w) := by
  rcases h with ⟨rfl, a, cap, rfl⟩ | ⟨b, off, cap, rfl, hlc, hcm, hc⟩
  · go_enter Tryz.func13, Tryz.ntmps13
    go_wp2
    go_ret
    exact ⟨w.heap.size, rfl, Nat.le_refl _, ⟨_, [], 0, heap_alloc_new _ _, by omega, .inl ⟨rfl, _, _, rfl⟩, by simp, fun h => absurd rfl h⟩, (Below.refl _ _).alloc (Nat.le_refl _) _⟩
  · have HC := hid hc
    clear hc
    have hcm2 : cap ≤ 9223372036854775807 := by unfold maxLen at hcm; omega
    by_cases hl : 2000 < xs.length
    · go_enter Tryz.func13, Tryz.ntmps13
      go_wp2
      go_ret
      refine ⟨w.heap.size, rfl, Nat.le_refl _, ⟨_, xs.take 2000, 0, heap_alloc_new _ _, by omega, .inr ⟨b, off, cap, by rw [List.length_take, Nat.min_eq_left (by omega)], by rw [List.length_take]; omega, hcm, fun i x hx => ?_⟩, by rw [List.length_take]; omega, fun hne ad n c he => ?_⟩, (Below.refl _ _).alloc (Nat.le_refl _) _⟩
      rotate_left
      · cases he
        have h1 := (HC.out 0 (xs[0]'(by omega)) (List.getElem?_eq_getElem _)).1
        exact lt_cell h1
      have hx2 : xs[i]? = some x := by
        have hi := (List.getElem?_eq_some_iff.1 hx).1
        rw [List.length_take] at hi
        rwa [List.getElem?_take_of_lt (by omega)] at hx
      have := HC.out i x hx2
      exact ⟨(((Below.refl _ _).alloc (Nat.le_refl _) _).cell (lt_cell this.1)).trans this.1, this.2⟩
    · go_enter Tryz.func13, Tryz.ntmps13
      go_wp2
      go_ret
      refine ⟨w.heap.size, rfl, Nat.le_refl _, ⟨_, xs, 0, heap_alloc_new _ _, by omega, .inr ⟨b, off, cap, rfl, hlc, hcm, fun i x hx => ?_⟩, by omega, fun hne ad n c he => ?_⟩, (Below.refl _ _).alloc (Nat.le_refl _) _⟩
      rotate_left
      · cases he
        obtain ⟨x, r, hx⟩ := List.exists_cons_of_ne_nil hne
        have h1 := (HC.out 0 x (by rw [hx]; rfl)).1
        exact lt_cell h1
      have := HC.out i x hx
      exact ⟨(((Below.refl _ _).alloc (Nat.le_refl _) _).cell (lt_cell this.1)).trans this.1, this.2⟩
/-- the longest text of a depth, and the most picks for it -/
def LB : Nat → Nat
  | 0 => 1
  | d + 1 => 2 * LB d + 4
set_option maxHeartbeats 4000000 in
theorem l1Draw_any (a : Nat) (gr : Bool) : ∀ (d : Nat), d ≤ 3 → ∀ (q : Nat) (w : World), q + 40 * d ≤ 90000 → RD w a q → Calls Tryz.prog 23 #[.pointer (some ⟨a, 0, none⟩), .int .i64 d, .bool gr] w (SPost w a (q + LB d) 1 (LB d))
  | 0, _, q, w, hq, h => by
    have HR := hid h
    clear h
    cases gr with
    | true =>
      go_enter Tryz.func23, Tryz.ntmps23
      go_wp2_with fail
      refine (ofS_any a (q) w.heap.size 4 1 1 _ _ (by omega) (by decide) (by decide) rfl (heap_alloc_new w _) (by decide) (HR.out.below ((Below.refl _ _).alloc (Nat.le_refl _) _))).mono ?_
      rintro e w9 ⟨s, rfl, h1, h2, hr9, hg9⟩
      go_wp2
      go_ret
      exact ⟨s, rfl, h1, h2, hr9, grown_trans (gb0 ((Below.refl _ _).alloc (Nat.le_refl _) _) _) hg9⟩
    | false =>
      go_enter Tryz.func23, Tryz.ntmps23
      go_wp2_with fail
      refine (ofS_any a (q) w.heap.size 7 1 1 _ _ (by omega) (by decide) (by decide) rfl (heap_alloc_new w _) (by decide) (HR.out.below ((Below.refl _ _).alloc (Nat.le_refl _) _))).mono ?_
      rintro e w9 ⟨s, rfl, h1, h2, hr9, hg9⟩
      go_wp2
      go_ret
      exact ⟨s, rfl, h1, h2, hr9, grown_trans (gb0 ((Below.refl _ _).alloc (Nat.le_refl _) _) _) hg9⟩
  | d + 1, hd, q, w, hq, h => by
    have HR := hid h
    have IH := hid (l1Draw_any a gr d (by omega))
    have hb : LB d ≤ 16 := by
      rcases (by omega : d = 0 ∨ d = 1 ∨ d = 2) with rfl | rfl | rfl <;> decide
    have HLB : Hid (LB (d + 1) = 2 * LB d + 4) := rfl
    have hb1 : 1 ≤ LB d := by
      rcases (by omega : d = 0 ∨ d = 1 ∨ d = 2) with rfl | rfl | rfl <;> decide
    obtain ⟨L, hL⟩ : ∃ L, L = LB d := ⟨_, rfl⟩
    rw [← hL] at HLB IH hb hb1
    obtain ⟨M, hM⟩ : ∃ M, M = LB (d + 1) := ⟨_, rfl⟩
    rw [← hM] at HLB ⊢
    obtain ⟨D, hD⟩ : ∃ D, D = d + 1 := ⟨_, rfl⟩
    rw [← hD]
    have hD0 : ((D : Int) == 0) = false := by rw [beq_eq_false_iff_ne]; omega
    have hDs : (D : Int) - 1 = (d : Int) := by omega
    have hD3 : D ≤ 3 := by omega
    have HDs := hid hDs
    clear h hL hM hD hDs
    go_enter Tryz.func23, Tryz.ntmps23
    go_wp2_with fail
    refine (pick_any a q 3 w (by decide) (by decide) (by omega) HR.out).mono ?_
    rintro e w1 ⟨i, hi, rfl, hr, hgr⟩
    have HR1 := hid hr
    have HG1 := hid hgr
    clear hr hgr
    by_cases hi0 : i = 0
    · subst hi0
      cases gr with
      | true =>
        go_wp2_with fail
        refine (ofS_any a (q + 1) w1.heap.size 4 1 1 _ _ (by omega) (by decide) (by decide) rfl (heap_alloc_new w1 _) (by decide) (HR1.out.below ((Below.refl _ _).alloc (Nat.le_refl _) _))).mono ?_
        rintro e w9 ⟨s, rfl, h1, h2, hr9, hg9⟩
        go_wp2
        go_ret
        exact ⟨s, rfl, h1, by have := HLB.out; omega, hr9.mono (by have := HLB.out; omega), grown_trans HG1.out (grown_trans (gb0 ((Below.refl _ _).alloc (Nat.le_refl _) _) _) hg9)⟩
      | false =>
        go_wp2_with fail
        refine (ofS_any a (q + 1) w1.heap.size 7 1 1 _ _ (by omega) (by decide) (by decide) rfl (heap_alloc_new w1 _) (by decide) (HR1.out.below ((Below.refl _ _).alloc (Nat.le_refl _) _))).mono ?_
        rintro e w9 ⟨s, rfl, h1, h2, hr9, hg9⟩
        go_wp2
        go_ret
        exact ⟨s, rfl, h1, by have := HLB.out; omega, hr9.mono (by have := HLB.out; omega), grown_trans HG1.out (grown_trans (gb0 ((Below.refl _ _).alloc (Nat.le_refl _) _) _) hg9)⟩
    · have hi1 : ((i : Int) == 0) = false := by rw [beq_eq_false_iff_ne]; omega
      go_wp2_with fail
      refine (pick_any a (q + 1) 4 w1 (by decide) (by decide) (by omega) HR1.out).mono ?_
      rintro e w2 ⟨j, hj, rfl, hr, hgr⟩
      have HR2 := hid hr
      have HG2 := hid (grown_trans HG1.out hgr)
      clear hr hgr
      by_cases hj0 : j = 0
      · subst hj0
        go_wp2_with fail
        refine (show Calls Tryz.prog _ #[_, .int .i64 ((D : Int) - 1), _] w2 _ from by rw [HDs.out]; exact IH.out (q + 1 + 1) w2 (by omega) HR2.out).mono ?_
        rintro e w3 ⟨s, rfl, h1, h2, hr, hgr⟩
        have HR3 := hid hr
        have HG3 := hid (grown_trans HG2.out hgr)
        clear hr hgr
        go_wp2_with fail
        refine (show Calls Tryz.prog _ #[_, .int .i64 ((D : Int) - 1), _] w3 _ from by rw [HDs.out]; exact IH.out (q + 1 + 1 + L) w3 (by omega) HR3.out).mono ?_
        rintro e w4 ⟨s', rfl, h3, h4, hr, hgr⟩
        have HR4 := hid hr
        have HG4 := hid (grown_trans HG3.out hgr)
        clear hr hgr
        go_wp2
        go_ret
        exact ⟨_, rfl, by (first | omega | (simp [ByteArray.size_append, bsz]; done) | (simp [ByteArray.size_append, bsz]; omega)), by have := HLB.out; simp [ByteArray.size_append, bsz]; omega, HR4.out.mono (by have := HLB.out; omega), HG4.out⟩
      · have hj1 : ((j : Int) == 0) = false := by rw [beq_eq_false_iff_ne]; omega
        by_cases hj2 : j = 1
        · subst hj2
          go_wp2_with fail
          refine (show Calls Tryz.prog _ #[_, .int .i64 ((D : Int) - 1), _] w2 _ from by rw [HDs.out]; exact IH.out (q + 1 + 1) w2 (by omega) HR2.out).mono ?_
          rintro e w3 ⟨s, rfl, h1, h2, hr, hgr⟩
          have HR3 := hid hr
          have HG3 := hid (grown_trans HG2.out hgr)
          clear hr hgr
          go_wp2
          go_ret
          exact ⟨_, rfl, by (first | omega | (simp [ByteArray.size_append, bsz]; done) | (simp [ByteArray.size_append, bsz]; omega)), by have := HLB.out; simp [ByteArray.size_append, bsz]; omega, HR3.out.mono (by have := HLB.out; omega), HG3.out⟩
        · have hj3 : ((j : Int) == 1) = false := by rw [beq_eq_false_iff_ne]; omega
          go_wp2_with fail
          refine (show Calls Tryz.prog _ #[_, .int .i64 ((D : Int) - 1), _] w2 _ from by rw [HDs.out]; exact IH.out (q + 1 + 1) w2 (by omega) HR2.out).mono ?_
          rintro e w3 ⟨s, rfl, h1, h2, hr, hgr⟩
          have HR3 := hid hr
          have HG3 := hid (grown_trans HG2.out hgr)
          clear hr hgr
          go_wp2
          go_ret
          exact ⟨_, rfl, by (first | omega | (simp [ByteArray.size_append, bsz]; done) | (simp [ByteArray.size_append, bsz]; omega)), by have := HLB.out; simp [ByteArray.size_append, bsz]; omega, HR3.out.mono (by have := HLB.out; omega), HG3.out⟩
set_option maxHeartbeats 8000000 in
theorem l1Any_any (a q : Nat) (w : World) (hq : q ≤ 80000) (h : RD w a q) : Calls Tryz.prog 12 #[.pointer (some ⟨a, 0, none⟩)] w (SPost w a (q + 60) 0 40) := by
  have HR := hid h
  clear h
  go_enter Tryz.func12, Tryz.ntmps12
  go_wp2_with fail
  refine (pick_any a q 4 w (by decide) (by decide) (by omega) HR.out).mono ?_
  rintro e w1 ⟨i, hi, rfl, hr, hgr⟩
  have HR1 := hid hr
  have HG1 := hid hgr
  clear hr hgr
  go_wp2_with fail
  refine (pick_any a (q + 1) 2 w1 (by decide) (by decide) (by omega) HR1.out).mono ?_
  rintro e w2 ⟨j, hj, rfl, hr, hgr⟩
  have HR2 := hid hr
  have HG2 := hid (grown_trans HG1.out hgr)
  clear hr hgr
  obtain ⟨gr, hgr⟩ : ∃ b, b = ((j : Int) == 0) := ⟨_, rfl⟩
  go_wp2_with fail
  rw [← hgr]
  refine (l1Draw_any a gr i (by omega) (q + 1 + 1) w2 (by omega) HR2.out).mono ?_
  rintro e w3 ⟨s, rfl, h1, h2, hr, hgr⟩
  have hb : LB i ≤ 36 := by
    rcases (by omega : i = 0 ∨ i = 1 ∨ i = 2 ∨ i = 3) with rfl | rfl | rfl | rfl <;> decide
  have HR3 : Hid (RD w3 a (q + 38)) := hr.mono (by omega)
  have HG3 := hid (grown_trans HG2.out hgr)
  clear hr hgr
  have hs36 : s.size ≤ 36 := by omega
  clear h2 hb
  go_wp2_with fail
  refine (pick_any a (q + 38) 16 w3 (by decide) (by decide) (by omega) HR3.out).mono ?_
  rintro e w4 ⟨k, hk, rfl, hr, hgr⟩
  have HR4 := hid hr
  have HG4 := hid (grown_trans HG3.out hgr)
  clear hr hgr
  by_cases hk0 : 0 < k
  · have hk1 : (k : Int) > 0 := by omega
    go_wp2
    go_ret
    exact ⟨s, rfl, by omega, by omega, HR4.out.mono (by omega), HG4.out⟩
  · have hk1 : ¬ (k : Int) > 0 := by omega
    go_wp2_with fail
    refine (pick_any a (q + 38 + 1) s.size w4 h1 (by omega) (by omega) HR4.out).mono ?_
    rintro e w5 ⟨m, hm, rfl, hr, hgr⟩
    have HR5 := hid hr
    have HG5 := hid (grown_trans HG4.out hgr)
    clear hr hgr
    go_wp2_with fail
    have hw5 : Below w5.heap.size w5 w5.drew := (Below.refl _ _).drew
    have HR6 := hid (HR5.out.below hw5)
    have HG6 := hid (grown_trans HG5.out (gb0 hw5 _))
    clear hw5
    have hms : (m : Int) ≤ s.size := by omega
    refine wp_region_any (by kernel_rfl) ?_
    change wpAny _ _ _ _ _ _ _ (World.drew _)
    have SX : True := trivial
    refine wpAny_of_T (S := fun X => True) (m := 15) _ _ _ _ ?_
    generalize w5.drew = w6 at *
    refine wpAnyT_take (i := 0) (v := .string s) rfl (by kernel_rfl) (by kernel_rfl) (by kernel_rfl) (by kernel_rfl) (fun _ _ _ h => h) (Or.inl ⟨by kernel_rfl, fun X hS => by clear hS; go_simp⟩) trivial ?_
    try go_simp
    refine wpAnyT_take (i := 1) (v := .int .i64 m) rfl (by kernel_rfl) (by kernel_rfl) (by kernel_rfl) (by kernel_rfl) (fun _ _ _ h => h) (Or.inl ⟨by kernel_rfl, fun X hS => by clear hS; go_simp⟩) trivial ?_
    try go_simp
    refine wpAnyT_take (i := 2) (v := .string (s.extract 0 m)) rfl (by kernel_rfl) (by kernel_rfl) (by kernel_rfl) (by kernel_rfl) (fun _ _ _ h => h) (Or.inl ⟨by kernel_rfl, fun X hS => by clear hS; go_simp⟩) trivial ?_
    try go_simp
    refine wpAnyT_take (i := 3) (v := .pointer (some ⟨a, 0, none⟩)) rfl (by kernel_rfl) (by kernel_rfl) (by kernel_rfl) (by kernel_rfl) (fun _ _ _ h => h) (Or.inl ⟨by kernel_rfl, fun X hS => by clear hS; go_simp⟩) trivial ?_
    try go_simp
    refine wpAnyT_take (i := 7) (v := .string s) rfl (by kernel_rfl) (by kernel_rfl) (by kernel_rfl) (by kernel_rfl) (fun _ _ _ h => h) (Or.inl ⟨by kernel_rfl, fun X hS => by clear hS; go_simp⟩) trivial ?_
    try go_simp
    refine wpAnyT_take (i := 8) (v := .int .i64 m) rfl (by kernel_rfl) (by kernel_rfl) (by kernel_rfl) (by kernel_rfl) (fun _ _ _ h => h) (Or.inl ⟨by kernel_rfl, fun X hS => by clear hS; go_simp⟩) trivial ?_
    try go_simp
    refine wpAnyT_take (i := 9) (v := .pointer (some ⟨a, 0, none⟩)) rfl (by kernel_rfl) (by kernel_rfl) (by kernel_rfl) (by kernel_rfl) (fun _ _ _ h => h) (Or.inl ⟨by kernel_rfl, fun X hS => by clear hS; go_simp⟩) trivial ?_
    try go_simp
    refine wpAnyT_one 4 rfl (by kernel_rfl) (fun K hK => ?_)
    go_simp
    refine hK _ _ (fun _ => trivial) ?_
    clear hK K
    refine wpAnyT_one 5 rfl (by kernel_rfl) (fun K hK => ?_)
    go_simp
    refine (ofS_any a (q + 40) w6.heap.size 7 0 1 _ _ (by omega) (by decide) (by decide) rfl (heap_alloc_new w6 _) (by decide) ((HR6.out.below ((Below.refl _ _).alloc (Nat.le_refl _) _)).mono (by omega))).mono ?_
    rintro e w7 ⟨u, rfl, hu1, hu2, hr, hgr⟩
    have HR7 := hid hr
    have HG7 := hid (grown_trans HG6.out (grown_trans (gb0 ((Below.refl _ _).alloc (Nat.le_refl _) _) _) hgr))
    clear hr hgr
    refine hK _ _ (fun _ => trivial) ?_
    clear hK K
    refine wpAnyT_take (i := 6) (v := .string (s.extract 0 m ++ u)) rfl (by kernel_rfl) (by kernel_rfl) (by kernel_rfl) (by kernel_rfl) (fun _ _ _ h => h) (Or.inl ⟨by kernel_rfl, fun X hS => by clear hS; go_simp; omega⟩) trivial ?_
    try go_simp
    refine wpAnyT_one 10 rfl (by kernel_rfl) (fun K hK => ?_)
    go_simp
    refine (pick_any a (q + 40 + 1) 2 w7 (by decide) (by decide) (by omega) HR7.out).mono ?_
    rintro e w8 ⟨o, ho, rfl, hr, hgr⟩
    have HR8 := hid hr
    have HG8 := hid (grown_trans HG7.out hgr)
    clear hr hgr
    have hmo : (m : Int) + o ≤ s.size := by omega
    refine hK _ _ (fun _ => trivial) ?_
    clear hK K
    have hmo2 : m + o ≤ s.size := by omega
    have hmo3 : 0 ≤ (m : Int) + (o : Int) := by omega
    refine wpAnyT_take (i := 11) (v := .int .i64 ((m : Int) + (o : Int))) rfl (by kernel_rfl) (by kernel_rfl) (by kernel_rfl) (by kernel_rfl) (fun _ _ _ h => h) (Or.inl ⟨by kernel_rfl, fun X hS => by clear hS; go_simp; rw [IntKind.wrap_i64]; omega⟩) trivial ?_
    try go_simp
    refine wpAnyT_take (i := 12) (v := .string (s.extract ((m : Int) + (o : Int)).toNat s.size)) rfl (by kernel_rfl) (by kernel_rfl) (by kernel_rfl) (by kernel_rfl) (fun _ _ _ h => h) (Or.inl ⟨by kernel_rfl, fun X hS => by clear hS; go_simp⟩) trivial ?_
    try go_simp
    refine wpAnyT_take (i := 13) (v := .string (s.extract 0 m ++ u ++ s.extract ((m : Int) + (o : Int)).toNat s.size)) rfl (by kernel_rfl) (by kernel_rfl) (by kernel_rfl) (by kernel_rfl) (fun _ _ _ h => h) (Or.inl ⟨by kernel_rfl, fun X hS => by clear hS; go_simp; omega⟩) trivial ?_
    try go_simp
    refine wpAnyT_take (i := 14) (v := .string (s.extract 0 m ++ u ++ s.extract ((m : Int) + (o : Int)).toNat s.size)) rfl (by kernel_rfl) (by kernel_rfl) (by kernel_rfl) (by kernel_rfl) (fun _ _ _ h => h) (Or.inl ⟨by kernel_rfl, fun X hS => by clear hS; go_simp⟩) trivial ?_
    try go_simp
    refine wpAnyT_drop _ 15 _ _ _ (by decide) (by kernel_rfl) ?_
    change wpList _ _ _ [] _ _
    go_wp2
    go_ret
    exact ⟨_, rfl, by omega, by simp [ByteArray.size_append, ByteArray.size_extract]; omega, HR8.out.mono (by omega), HG8.out⟩
end Draw
end Go.Proofs.YtaapdhacnbhohaaGreat
