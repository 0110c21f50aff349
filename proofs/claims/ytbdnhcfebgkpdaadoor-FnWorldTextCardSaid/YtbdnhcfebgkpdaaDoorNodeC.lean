/- The reference's reader of types, types of two parts: what 'node' returns. Conditions: the text is no longer than 2^63 bytes. -/
import Derived.Test.YtbdnhcfebgkpdaaDoorNode
set_option linter.unusedVariables false
set_option linter.unusedSimpArgs false
set_option maxRecDepth 100000
namespace Go.Proofs.YtbdnhcfebgkpdaaDoor
open Go.RowKit Ty
namespace NodeT

set_option maxHeartbeats 4000000 in
theorem twoNoSecond (l : List UInt8) (i j : Nat) (c : UInt8) (t : Ty) (hs : l.length ≤ maxLen) (hi : l[i]? = some c) (ha : ar c = some 2) (hn : l[i + 1]? = some 40) (ih1 : Ok l (i + 1 + 1) t j) (hc : l[j]? = some 44) (ih2 : No l (j + 1)) : No l i := by
  intro w b hr
  have hil : i + 2 ≤ l.length := (List.getElem?_eq_some_iff.1 hn).1
  have ha : Hid (arI c = 2) := by simp [arI, ha, Hid]
  have HN := hid hn
  clear hn
  have HC := hid hc
  clear hc
  have hlt := lt_of_heap hr
  have HR := hid hr
  clear hr
  go_enter Tryd.func81, Tryd.ntmps81
  go_wp2_with fail
  refine (next_byte _ b l i false c hs hi ((keeps_alloc w _ 0).heap (Nat.zero_le _) HR.out)).mono ?_
  rintro e w1 ⟨rfl, hr1, hg1⟩
  have k2 : w1.cell? ⟨b, 2, .none⟩ = some (.bool false) := heap_cell hr1 2
  have f2 : w1.frozen? ⟨b, 2, .none⟩ = false := heap_free hr1 2
  have hlt1 := lt_of_heap hr1
  have hrb := grown_keep hg1 (heap_alloc_new w _) (by simp; omega)
  have hsz1 := hg1.size
  simp only [World.size_alloc] at hsz1
  have HRB := hid hrb
  have HR1 := hid hr1
  have HG1 := hid hg1
  clear hr1 hg1 hrb
  go_wp2_with (first
    | (go_at_call 98; refine (l1Arity_any c _).mono ?_; rintro e w' ⟨rfl, rfl⟩; rw [ha.out]))
  have HROW : Hid ((((w1.setCell ⟨b, 2, .none⟩ (.bool false)).alloc (.cells #[] 86)).alloc (.cells #[.int .u8 c.toNat, .slice (some ⟨w1.heap.size, 0, .none⟩) 0 0] 86)).ownsRow (w.heap.size + 1) 86 2 (.slice (some ⟨w1.heap.size, 0, .none⟩) 0 0) 0 []) := by
    have h1 := World.ownsRow_made (base := w.heap.size + 1) (e := 86) (size := 2) (w1.setCell ⟨b, 2, .none⟩ (.bool false)) #[] 0 (by simp; omega) (by simp [maxLen]) rfl
    have h2 := h1.alloc (.cells #[.int .u8 c.toNat, .slice (some ⟨w1.heap.size, 0, .none⟩) 0 0] 86)
    simpa [Hid] using h2
  refine forget_world (fun W => St w b (w1.heap.size + 1) l (i + 1) false (.int .u8 c.toNat) (.slice (some ⟨w1.heap.size, 0, .none⟩) 0 0) W ∧ W.ownsRow (w.heap.size + 1) 86 2 (.slice (some ⟨w1.heap.size, 0, .none⟩) 0 0) 0 [] ∧ w1.heap.size + 1 < W.heap.size) ⟨⟨hb_alloc (hb_alloc (heap_set HR1.out 2 _) _) _, hb_alloc (hb_alloc (hb_set_ne HRB.out _ _ (by show w.heap.size ≠ b; omega)) _) _, hb_new2 _ _ _ _ (by simp), grown_trans (World.grownBy_alloc w _ _) (grown_trans HG1.out (grown_trans (grown_set _ _ _ _) (grown_trans (World.grownBy_alloc _ _ _) (World.grownBy_alloc _ _ _)))), by omega⟩, HROW.out, by simp⟩ ?_
  clear HROW k2 f2 HRB HR1 HG1 hlt1
  generalize w1.heap.size = g0 at *
  obtain ⟨nb, hnb⟩ : ∃ nb, nb = g0 + 1 := ⟨_, rfl⟩
  rw [← hnb]
  have HNB := hid hnb
  have hnb1 : g0 < nb := by omega
  clear hnb w1
  intro W ⟨⟨s1, s2, s3, s4, s5⟩, s6, s7⟩
  have S6 := hid s6
  clear s6
  have k2 : W.cell? ⟨b, 2, .none⟩ = some (.bool false) := heap_cell s1 2
  have fb2 : W.frozen? ⟨b, 2, .none⟩ = false := heap_free s1 2
  have f0 : W.frozen? ⟨w.heap.size, 0, .none⟩ = false := heap_free s2 0
  have f1 : W.frozen? ⟨w.heap.size, 1, .none⟩ = false := heap_free s2 1
  have kr0 : W.cell? ⟨w.heap.size, 0, .none⟩ = some (.int .u8 0) := heap_cell s2 0
  have kr1 : W.cell? ⟨w.heap.size, 1, .none⟩ = some (.slice .none 0 0) := heap_cell s2 1
  have kn0 : W.cell? ⟨nb, 0, .none⟩ = some (.int .u8 c.toNat) := heap_cell s3 0
  have kn1 : W.cell? ⟨nb, 1, .none⟩ = some (.slice (some ⟨g0, 0, .none⟩) 0 0) := heap_cell s3 1
  have fn1 : W.frozen? ⟨nb, 1, .none⟩ = false := heap_free s3 1
  have S1 := hid s1
  have S2 := hid s2
  have S3 := hid s3
  have S4 := hid s4
  have hszW := s4.size
  clear s1 s2 s3 s4
  refine wp_loop_rounds 3 ?_
  rw [rounds_succ]
  go_wp2
  refine wp_region_any (by kernel_rfl) ?_
  change wpAny _ _ _ _ _ _ _ (World.drew _)
  refine wpAny_take (i := 0) (v := .pointer (some ⟨b, 0, .none⟩)) rfl (by kernel_rfl) (by kernel_rfl) (by kernel_rfl) (fun _ _ _ h => h) (Or.inl ⟨by rfl, fun _ => by go_simp⟩) ?_
  refine wpAny_take (i := 1) (v := .pointer (some ⟨b, 0, .none⟩)) rfl (by kernel_rfl) (by kernel_rfl) (by kernel_rfl) (fun _ _ _ h => h) (Or.inl ⟨by rfl, fun _ => by go_simp⟩) ?_
  refine wpAny_take (i := 3) (v := .int .i64 0) rfl (by kernel_rfl) (by kernel_rfl) (by kernel_rfl) (fun _ _ _ h => h) (Or.inl ⟨by rfl, fun _ => by go_simp⟩) ?_
  refine wpAny_take (i := 4) (v := .int .u8 40) rfl (by kernel_rfl) (by kernel_rfl) (by kernel_rfl) (fun _ _ _ h => h) (Or.inl ⟨by rfl, fun _ => by go_simp; rfl⟩) ?_
  refine wpAny_one 2 rfl (by kernel_rfl) (fun K hK => ?_)
  go_simp
  refine (next_byte W.drew b l (i + 1) false 40 hs HN.out S1.out).mono ?_
  rintro e w2 ⟨rfl, r2, g2⟩
  have k2 : w2.cell? ⟨b, 2, .none⟩ = some (.bool false) := heap_cell r2 2
  have fb2 : w2.frozen? ⟨b, 2, .none⟩ = false := heap_free r2 2
  have R2 := hid r2
  have G2 := hid g2
  have hszw2 := g2.size
  clear r2 g2
  refine hK _ _ ?_
  clear hK K
  refine wpAny_drop _ 5 _ _ _ (by kernel_rfl) ?_
  change wpList _ _ _ (_ :: _) _ _
  go_wp2
  clear k2 fb2 f0 f1 kr0 kr1 kn0 kn1 fn1
  have hszd : W.drew.heap.size = W.heap.size := rfl
  refine forget_world (fun W' => St w b nb l (i + 1 + 1) false (.int .u8 c.toNat) (.slice (some ⟨g0, 0, .none⟩) 0 0) W' ∧ W'.ownsRow (w.heap.size + 1) 86 2 (.slice (some ⟨g0, 0, .none⟩) 0 0) 0 [] ∧ nb < W'.heap.size) ⟨⟨heap_set R2.out 2 _, hb_set_ne (grown_keep (w := W.drew) G2.out S2.out (by simp; omega)) _ _ (by show w.heap.size ≠ b; omega), hb_set_ne (grown_keep (w := W.drew) G2.out S3.out (by simp; omega)) _ _ (by show nb ≠ b; omega), grown_trans S4.out (grown_trans (grown_undrew G2.out) (grown_set _ _ _ _)), s5⟩, (((Keeps.refl _ _).grown (grown_undrew G2.out) (Nat.le_refl _) (by simp; omega)).set (a := ⟨b, 2, .none⟩) _ (.inl (by show b < _; omega))).row S6.out, by simp; omega⟩ ?_
  clear S1 S2 S3 S4 S6 k2 fb2 R2 G2
  intro W ⟨⟨s1, s2, s3, s4, s5⟩, s6, s7⟩
  have S6 := hid s6
  clear s6
  have k2 : W.cell? ⟨b, 2, .none⟩ = some (.bool false) := heap_cell s1 2
  have fb2 : W.frozen? ⟨b, 2, .none⟩ = false := heap_free s1 2
  have f0 : W.frozen? ⟨w.heap.size, 0, .none⟩ = false := heap_free s2 0
  have f1 : W.frozen? ⟨w.heap.size, 1, .none⟩ = false := heap_free s2 1
  have kr0 : W.cell? ⟨w.heap.size, 0, .none⟩ = some (.int .u8 0) := heap_cell s2 0
  have kr1 : W.cell? ⟨w.heap.size, 1, .none⟩ = some (.slice .none 0 0) := heap_cell s2 1
  have kn0 : W.cell? ⟨nb, 0, .none⟩ = some (.int .u8 c.toNat) := heap_cell s3 0
  have kn1 : W.cell? ⟨nb, 1, .none⟩ = some (.slice (some ⟨g0, 0, .none⟩) 0 0) := heap_cell s3 1
  have fn1 : W.frozen? ⟨nb, 1, .none⟩ = false := heap_free s3 1
  have S1 := hid s1
  have S2 := hid s2
  have S3 := hid s3
  have S4 := hid s4
  have hszW := s4.size
  clear s1 s2 s3 s4
  obtain ⟨lo1, hlo1⟩ : ∃ n, n = W.heap.size := ⟨_, rfl⟩
  refine wp_region_any (by kernel_rfl) ?_
  change wpAny _ _ _ _ _ _ _ (World.drew _)
  refine wpAny_take (i := 0) (v := .pointer (some ⟨nb, 1, .none⟩)) rfl (by kernel_rfl) (by kernel_rfl) (by kernel_rfl) (fun _ _ _ h => h) (Or.inl ⟨by rfl, fun _ => by go_simp⟩) ?_
  refine wpAny_take (i := 2) (v := .pointer (some ⟨b, 0, .none⟩)) rfl (by kernel_rfl) (by kernel_rfl) (by kernel_rfl) (fun _ _ _ h => h) (Or.inl ⟨by rfl, fun _ => by go_simp⟩) ?_
  refine wpAny_of_T (S := fun X => X.cell? ⟨nb, 1, .none⟩ = some (.slice (some ⟨g0, 0, .none⟩) 0 0)) (m := 5) _ _ _ _ ?_
  refine wpAnyT_take (i := 1) (v := .slice (some ⟨g0, 0, .none⟩) 0 0) rfl (by kernel_rfl) (by kernel_rfl) (by kernel_rfl) (by kernel_rfl) (fun _ _ _ h => h) (Or.inl ⟨by rfl, fun X hS => by have hS1 : X.cell? ⟨nb, 1, .none⟩ = some (.slice (some ⟨g0, 0, .none⟩) 0 0) := hS; clear hS; go_simp⟩) kn1 ?_
  refine wpAnyT_one 3 rfl (by kernel_rfl) (fun K hK => ?_)
  go_simp
  refine (ih1 W.drew b S1.out).mono ?_
  rintro e w3 ⟨h1, q1, rfl, sn, r3, g3⟩
  obtain ⟨o1, o2⟩ := sn.one
  have SN1 := hid sn
  clear sn
  have hb3 := grown_keep (w := W.drew) g3 S3.out (by simp; omega)
  have hr3 := grown_keep (w := W.drew) g3 S2.out (by simp; omega)
  have kn1 : w3.cell? ⟨nb, 1, .none⟩ = some (.slice (some ⟨g0, 0, .none⟩) 0 0) := heap_cell hb3 1
  have hsz3 : W.heap.size ≤ w3.heap.size := g3.size
  have hnb3 := lt_of_heap hb3
  have hbb3 := lt_of_heap r3
  have R3 := hid r3
  have G3 : Hid (W.grownBy w3 (some b)) := grown_undrew g3
  have B3 := hid hb3
  have BR3 := hid hr3
  clear r3 g3 hb3 hr3
  refine hK _ _ (fun _ => kn1) ?_
  clear hK K
  refine wpAnyT_one 4 rfl (by kernel_rfl) (fun K hK => ?_)
  go_simp
  refine hK _ _ (fun _ => heap_cell (hb_alloc B3.out _) 1) ?_
  clear hK K
  refine wpAnyT_drop _ 5 _ _ _ (Nat.le_refl _) (by kernel_rfl) ?_
  change wpList _ _ _ (_ :: _) _ _
  go_wp2_with (first
    | (at_builtin; refine app_push_at 84 86 (.agg #[.int .u8 0, .slice .none 0 0]) 2 32 Tryd.underlying84 infoSN rfl (by decide) rfl _ _ rfl (w.heap.size + 1) (.slice (some ⟨g0, 0, .none⟩) 0 0) 0 [] rfl (World.ownsRow.alloc (Keeps.row ((Keeps.refl _ _).grown G3.out (Nat.le_refl _) (by simp; omega)) S6.out) _) w3.heap.size 1 [h1, q1] rfl rfl (news_two (heap_cell (heap_alloc_new _ _) 0) (heap_cell (heap_alloc_new _ _) 1)) (by simp [o1, o2]) (by decide) (by decide) (by simp; omega) ?_))
  intro g1 cap1 w4 hown hg hlie
  simp only [World.size_alloc, Value.ownBlock, Option.some.injEq] at hlie
  have hb4 := grown_keep hg (hb_alloc B3.out _) (by simp [Value.ownBlock]; omega)
  have hr4 := grown_keep hg (hb_alloc BR3.out _) (by simp [Value.ownBlock]; omega)
  have hd4 := grown_keep hg (hb_alloc R3.out _) (by simp [Value.ownBlock]; omega)
  have kn1 : w4.cell? ⟨nb, 1, .none⟩ = some (.slice (some ⟨g0, 0, .none⟩) 0 0) := heap_cell hb4 1
  have fn1 : w4.frozen? ⟨nb, 1, .none⟩ = false := heap_free hb4 1
  have hsz4 : w3.heap.size + 1 ≤ w4.heap.size := by have := hg.size; simpa using this
  have HW4 := hid hown
  have HG4 := hid hg
  have B4 := hid hb4
  have BR4 := hid hr4
  have R4 := hid hd4
  clear hown hg hb4 hr4 hd4
  go_wp2
  rw [rounds_succ]
  have SN1 : Hid (SNode lo1 w3 t h1 q1) := by rw [hlo1]; exact SN1.out
  have hlie1 : g0 = g1 ∨ g1 = w3.heap.size + 1 := hlie
  clear hlie
  clear k2 fb2 f0 f1 kr0 kr1 kn0 kn1 fn1
  refine forget_world (fun W' => St w b nb l (j) false (.int .u8 c.toNat) (.slice (some ⟨g1, 0, .none⟩) 1 cap1) W' ∧ W'.ownsRow (w.heap.size + 1) 86 2 (.slice (some ⟨g1, 0, .none⟩) 1 cap1) 1 [h1, q1] ∧ Keeps lo1 w3 W' ∧ w3.heap.size ≤ W'.heap.size ∧ nb < W'.heap.size ∧ g1 < W'.heap.size) ⟨⟨hb_set_ne R4.out _ _ (by show b ≠ nb; omega), hb_set_ne BR4.out _ _ (by show w.heap.size ≠ nb; omega), heap_set B4.out 1 _, grown_new (grown_new (grown_trans S4.out G3.out) (grown_trans (row := some g0) (World.grownBy_alloc _ _ _) HG4.out) (fun i h => .inr (by simp at h; omega))) (grown_set _ _ _ _) (fun i h => .inr (by simp at h; omega)), s5⟩, row_set HW4.out _ (by show g1 ≠ nb; omega), (((Keeps.refl _ _).alloc _ (Nat.le_refl _)).grown HG4.out (by simp) (by simp [Value.ownBlock]; omega)).set (a := ⟨nb, 1, .none⟩) _ (.inl (by show nb < lo1; omega)), by simp; omega, by simp; omega, by simp; exact lt_of_heap (row_block HW4.out).2.choose_spec⟩ ?_
  clear S1 S2 S3 S4 S6 R3 G3 B3 BR3 HW4 HG4 B4 BR4 R4
  intro W ⟨⟨s1, s2, s3, s4, s5⟩, s6, s7, s8, s9, s10⟩
  have S6 := hid s6
  clear s6
  have KW1 := hid s7
  clear s7
  have k2 : W.cell? ⟨b, 2, .none⟩ = some (.bool false) := heap_cell s1 2
  have fb2 : W.frozen? ⟨b, 2, .none⟩ = false := heap_free s1 2
  have f0 : W.frozen? ⟨w.heap.size, 0, .none⟩ = false := heap_free s2 0
  have f1 : W.frozen? ⟨w.heap.size, 1, .none⟩ = false := heap_free s2 1
  have kr0 : W.cell? ⟨w.heap.size, 0, .none⟩ = some (.int .u8 0) := heap_cell s2 0
  have kr1 : W.cell? ⟨w.heap.size, 1, .none⟩ = some (.slice .none 0 0) := heap_cell s2 1
  have kn0 : W.cell? ⟨nb, 0, .none⟩ = some (.int .u8 c.toNat) := heap_cell s3 0
  have kn1 : W.cell? ⟨nb, 1, .none⟩ = some (.slice (some ⟨g1, 0, .none⟩) 1 cap1) := heap_cell s3 1
  have fn1 : W.frozen? ⟨nb, 1, .none⟩ = false := heap_free s3 1
  have S1 := hid s1
  have S2 := hid s2
  have S3 := hid s3
  have S4 := hid s4
  have hszW := s4.size
  clear s1 s2 s3 s4
  go_wp2
  refine wp_region_any (by kernel_rfl) ?_
  change wpAny _ _ _ _ _ _ _ (World.drew _)
  refine wpAny_take (i := 0) (v := .pointer (some ⟨b, 0, .none⟩)) rfl (by kernel_rfl) (by kernel_rfl) (by kernel_rfl) (fun _ _ _ h => h) (Or.inl ⟨by rfl, fun _ => by go_simp⟩) ?_
  refine wpAny_take (i := 1) (v := .pointer (some ⟨b, 0, .none⟩)) rfl (by kernel_rfl) (by kernel_rfl) (by kernel_rfl) (fun _ _ _ h => h) (Or.inl ⟨by rfl, fun _ => by go_simp⟩) ?_
  refine wpAny_take (i := 3) (v := .int .i64 1) rfl (by kernel_rfl) (by kernel_rfl) (by kernel_rfl) (fun _ _ _ h => h) (Or.inl ⟨by rfl, fun _ => by go_simp⟩) ?_
  refine wpAny_take (i := 4) (v := .int .u8 44) rfl (by kernel_rfl) (by kernel_rfl) (by kernel_rfl) (fun _ _ _ h => h) (Or.inl ⟨by rfl, fun _ => by go_simp; rfl⟩) ?_
  refine wpAny_one 2 rfl (by kernel_rfl) (fun K hK => ?_)
  go_simp
  refine (next_byte W.drew b l j false 44 hs HC.out S1.out).mono ?_
  rintro e w2 ⟨rfl, r2, g2⟩
  have k2 : w2.cell? ⟨b, 2, .none⟩ = some (.bool false) := heap_cell r2 2
  have fb2 : w2.frozen? ⟨b, 2, .none⟩ = false := heap_free r2 2
  have R2 := hid r2
  have G2 := hid g2
  have hszw2 := g2.size
  clear r2 g2
  refine hK _ _ ?_
  clear hK K
  refine wpAny_drop _ 5 _ _ _ (by kernel_rfl) ?_
  change wpList _ _ _ (_ :: _) _ _
  go_wp2
  clear k2 fb2 f0 f1 kr0 kr1 kn0 kn1 fn1
  have hszd : W.drew.heap.size = W.heap.size := rfl
  refine forget_world (fun W' => St w b nb l (j + 1) false (.int .u8 c.toNat) (.slice (some ⟨g1, 0, .none⟩) 1 cap1) W' ∧ W'.ownsRow (w.heap.size + 1) 86 2 (.slice (some ⟨g1, 0, .none⟩) 1 cap1) 1 [h1, q1] ∧ Keeps lo1 w3 W' ∧ w3.heap.size ≤ W'.heap.size ∧ nb < W'.heap.size ∧ g1 < W'.heap.size) ⟨⟨heap_set R2.out 2 _, hb_set_ne (grown_keep (w := W.drew) G2.out S2.out (by simp; omega)) _ _ (by show w.heap.size ≠ b; omega), hb_set_ne (grown_keep (w := W.drew) G2.out S3.out (by simp; omega)) _ _ (by show nb ≠ b; omega), grown_trans S4.out (grown_trans (grown_undrew G2.out) (grown_set _ _ _ _)), s5⟩, (((Keeps.refl _ _).grown (grown_undrew G2.out) (Nat.le_refl _) (by simp; omega)).set (a := ⟨b, 2, .none⟩) _ (.inl (by show b < _; omega))).row S6.out, (KW1.out.grown (grown_undrew G2.out) s8 (by simp; omega)).set (a := ⟨b, 2, .none⟩) _ (.inl (by show b < _; omega)), by simp; omega, by simp; omega, by simp; omega⟩ ?_
  clear S1 S2 S3 S4 S6 KW1 k2 fb2 R2 G2
  intro W ⟨⟨s1, s2, s3, s4, s5⟩, s6, s7, s8, s9, s10⟩
  have S6 := hid s6
  clear s6
  have KW1 := hid s7
  clear s7
  have k2 : W.cell? ⟨b, 2, .none⟩ = some (.bool false) := heap_cell s1 2
  have fb2 : W.frozen? ⟨b, 2, .none⟩ = false := heap_free s1 2
  have f0 : W.frozen? ⟨w.heap.size, 0, .none⟩ = false := heap_free s2 0
  have f1 : W.frozen? ⟨w.heap.size, 1, .none⟩ = false := heap_free s2 1
  have kr0 : W.cell? ⟨w.heap.size, 0, .none⟩ = some (.int .u8 0) := heap_cell s2 0
  have kr1 : W.cell? ⟨w.heap.size, 1, .none⟩ = some (.slice .none 0 0) := heap_cell s2 1
  have kn0 : W.cell? ⟨nb, 0, .none⟩ = some (.int .u8 c.toNat) := heap_cell s3 0
  have kn1 : W.cell? ⟨nb, 1, .none⟩ = some (.slice (some ⟨g1, 0, .none⟩) 1 cap1) := heap_cell s3 1
  have fn1 : W.frozen? ⟨nb, 1, .none⟩ = false := heap_free s3 1
  have S1 := hid s1
  have S2 := hid s2
  have S3 := hid s3
  have S4 := hid s4
  have hszW := s4.size
  clear s1 s2 s3 s4
  refine wp_region_any (by kernel_rfl) ?_
  change wpAny _ _ _ _ _ _ _ (World.drew _)
  refine wpAny_take (i := 0) (v := .pointer (some ⟨nb, 1, .none⟩)) rfl (by kernel_rfl) (by kernel_rfl) (by kernel_rfl) (fun _ _ _ h => h) (Or.inl ⟨by rfl, fun _ => by go_simp⟩) ?_
  refine wpAny_take (i := 2) (v := .pointer (some ⟨b, 0, .none⟩)) rfl (by kernel_rfl) (by kernel_rfl) (by kernel_rfl) (fun _ _ _ h => h) (Or.inl ⟨by rfl, fun _ => by go_simp⟩) ?_
  refine wpAny_of_T (S := fun X => X.cell? ⟨nb, 1, .none⟩ = some (.slice (some ⟨g1, 0, .none⟩) 1 cap1)) (m := 5) _ _ _ _ ?_
  refine wpAnyT_take (i := 1) (v := .slice (some ⟨g1, 0, .none⟩) 1 cap1) rfl (by kernel_rfl) (by kernel_rfl) (by kernel_rfl) (by kernel_rfl) (fun _ _ _ h => h) (Or.inl ⟨by rfl, fun X hS => by have hS1 : X.cell? ⟨nb, 1, .none⟩ = some (.slice (some ⟨g1, 0, .none⟩) 1 cap1) := hS; clear hS; go_simp⟩) kn1 ?_
  refine wpAnyT_one 3 rfl (by kernel_rfl) (fun K hK => ?_)
  go_simp
  refine (ih2 W.drew b S1.out).mono ?_
  rintro e w3 ⟨h2, q2, i3, rfl, o1, o2, hi3, r3, g3⟩
  replace o1 : h2.oneCell' = true := by obtain ⟨c, rfl⟩ := o1; rfl
  replace o2 : q2.oneCell' = true := by obtain ⟨a, n, cap, rfl⟩ := o2; rfl
  have hb3 := grown_keep (w := W.drew) g3 S3.out (by simp; omega)
  have hr3 := grown_keep (w := W.drew) g3 S2.out (by simp; omega)
  have kn1 : w3.cell? ⟨nb, 1, .none⟩ = some (.slice (some ⟨g1, 0, .none⟩) 1 cap1) := heap_cell hb3 1
  have hsz3 : W.heap.size ≤ w3.heap.size := g3.size
  have hnb3 := lt_of_heap hb3
  have hbb3 := lt_of_heap r3
  have R3 := hid r3
  have G3 : Hid (W.grownBy w3 (some b)) := grown_undrew g3
  have B3 := hid hb3
  have BR3 := hid hr3
  clear r3 g3 hb3 hr3
  refine hK _ _ (fun _ => kn1) ?_
  clear hK K
  refine wpAnyT_one 4 rfl (by kernel_rfl) (fun K hK => ?_)
  go_simp
  refine hK _ _ (fun _ => heap_cell (hb_alloc B3.out _) 1) ?_
  clear hK K
  refine wpAnyT_drop _ 5 _ _ _ (Nat.le_refl _) (by kernel_rfl) ?_
  change wpList _ _ _ (_ :: _) _ _
  go_wp2_with (first
    | (at_builtin; refine app_push_at 84 86 (.agg #[.int .u8 0, .slice .none 0 0]) 2 32 Tryd.underlying84 infoSN rfl (by decide) rfl _ _ rfl (w.heap.size + 1) (.slice (some ⟨g1, 0, .none⟩) 1 cap1) 1 [h1, q1] rfl (World.ownsRow.alloc (Keeps.row ((Keeps.refl _ _).grown G3.out (Nat.le_refl _) (by simp; omega)) S6.out) _) w3.heap.size 1 [h2, q2] rfl rfl (news_two (heap_cell (heap_alloc_new _ _) 0) (heap_cell (heap_alloc_new _ _) 1)) (by simp [o1, o2]) (by decide) (by decide) (by simp; omega) ?_))
  intro g2 cap2 w4 hown hg hlie
  simp only [World.size_alloc, Value.ownBlock, Option.some.injEq] at hlie
  have hb4 := grown_keep hg (hb_alloc B3.out _) (by simp [Value.ownBlock]; omega)
  have hr4 := grown_keep hg (hb_alloc BR3.out _) (by simp [Value.ownBlock]; omega)
  have hd4 := grown_keep hg (hb_alloc R3.out _) (by simp [Value.ownBlock]; omega)
  have kn1 : w4.cell? ⟨nb, 1, .none⟩ = some (.slice (some ⟨g1, 0, .none⟩) 1 cap1) := heap_cell hb4 1
  have fn1 : w4.frozen? ⟨nb, 1, .none⟩ = false := heap_free hb4 1
  have hsz4 : w3.heap.size + 1 ≤ w4.heap.size := by have := hg.size; simpa using this
  have HW4 := hid hown
  have HG4 := hid hg
  have B4 := hid hb4
  have BR4 := hid hr4
  have R4 := hid hd4
  clear hown hg hb4 hr4 hd4
  go_wp2
  rw [rounds_succ]
  clear k2 fb2 f0 f1 kr0 kr1 kn0 kn1 fn1
  refine forget_world (fun W' => St w b nb l (i3) true (.int .u8 c.toNat) (.slice (some ⟨g2, 0, .none⟩) 2 cap2) W' ∧ W'.ownsRow (w.heap.size + 1) 86 2 (.slice (some ⟨g2, 0, .none⟩) 2 cap2) 2 [h1, q1, h2, q2]) ⟨⟨hb_set_ne R4.out _ _ (by show b ≠ nb; omega), hb_set_ne BR4.out _ _ (by show w.heap.size ≠ nb; omega), heap_set B4.out 1 _, grown_new (grown_new (grown_trans S4.out G3.out) (grown_trans (row := some g1) (World.grownBy_alloc _ _ _) HG4.out) (fun i h => .inr (by simp at h; omega))) (grown_set _ _ _ _) (fun i h => .inr (by simp at h; omega)), s5⟩, row_set HW4.out _ (by show g2 ≠ nb; omega)⟩ ?_
  clear S1 S2 S3 S4 S6 R3 G3 B3 BR3 HW4 HG4 B4 BR4 R4 KW1
  intro W ⟨⟨s1, s2, s3, s4, s5⟩, s6⟩
  have S6 := hid s6
  clear s6
  have k2 : W.cell? ⟨b, 2, .none⟩ = some (.bool true) := heap_cell s1 2
  have fb2 : W.frozen? ⟨b, 2, .none⟩ = false := heap_free s1 2
  have f0 : W.frozen? ⟨w.heap.size, 0, .none⟩ = false := heap_free s2 0
  have f1 : W.frozen? ⟨w.heap.size, 1, .none⟩ = false := heap_free s2 1
  have kr0 : W.cell? ⟨w.heap.size, 0, .none⟩ = some (.int .u8 0) := heap_cell s2 0
  have kr1 : W.cell? ⟨w.heap.size, 1, .none⟩ = some (.slice .none 0 0) := heap_cell s2 1
  have kn0 : W.cell? ⟨nb, 0, .none⟩ = some (.int .u8 c.toNat) := heap_cell s3 0
  have kn1 : W.cell? ⟨nb, 1, .none⟩ = some (.slice (some ⟨g2, 0, .none⟩) 2 cap2) := heap_cell s3 1
  have fn1 : W.frozen? ⟨nb, 1, .none⟩ = false := heap_free s3 1
  have S1 := hid s1
  have S2 := hid s2
  have S3 := hid s3
  have S4 := hid s4
  have hszW := s4.size
  clear s1 s2 s3 s4
  go_wp2
  refine bodyPost_ret (results_cell_row rfl _ _ w.heap.size 86 #[.int .u8 c.toNat, .slice (some ⟨g2, 0, .none⟩) 2 cap2] (0, 0) _ rfl (heap_set (heap_set S2.out 0 _) 1 _) Tryd.underlying86 rfl (by kernel_rfl)) rfl ?_
  exact ⟨_, _, i3, rfl, ⟨_, rfl⟩, ⟨_, _, _, rfl⟩, hi3, hb_set_ne (hb_set_ne S1.out _ _ (by show b ≠ w.heap.size; omega)) _ _ (by show b ≠ w.heap.size; omega), grown_new S4.out (grown_trans (grown_set _ _ _ _) (grown_set _ _ _ _)) (fun i h => .inr (by simp at h; omega))⟩

set_option maxHeartbeats 4000000 in
theorem twoNoClose (l : List UInt8) (i j m : Nat) (c : UInt8) (t u : Ty) (hs : l.length ≤ maxLen) (hi : l[i]? = some c) (ha : ar c = some 2) (hn : l[i + 1]? = some 40) (ih1 : Ok l (i + 1 + 1) t j) (hc : l[j]? = some 44) (ih2 : Ok l (j + 1) u m) (hc2 : l[m]? ≠ some 41) (hm : m ≤ l.length) : No l i := by
  intro w b hr
  have hil : i + 2 ≤ l.length := (List.getElem?_eq_some_iff.1 hn).1
  have ha : Hid (arI c = 2) := by simp [arI, ha, Hid]
  have HN := hid hn
  clear hn
  have HC := hid hc
  clear hc
  have HD2 := hid hc2
  clear hc2
  have hlt := lt_of_heap hr
  have HR := hid hr
  clear hr
  go_enter Tryd.func81, Tryd.ntmps81
  go_wp2_with fail
  refine (next_byte _ b l i false c hs hi ((keeps_alloc w _ 0).heap (Nat.zero_le _) HR.out)).mono ?_
  rintro e w1 ⟨rfl, hr1, hg1⟩
  have k2 : w1.cell? ⟨b, 2, .none⟩ = some (.bool false) := heap_cell hr1 2
  have f2 : w1.frozen? ⟨b, 2, .none⟩ = false := heap_free hr1 2
  have hlt1 := lt_of_heap hr1
  have hrb := grown_keep hg1 (heap_alloc_new w _) (by simp; omega)
  have hsz1 := hg1.size
  simp only [World.size_alloc] at hsz1
  have HRB := hid hrb
  have HR1 := hid hr1
  have HG1 := hid hg1
  clear hr1 hg1 hrb
  go_wp2_with (first
    | (go_at_call 98; refine (l1Arity_any c _).mono ?_; rintro e w' ⟨rfl, rfl⟩; rw [ha.out]))
  have HROW : Hid ((((w1.setCell ⟨b, 2, .none⟩ (.bool false)).alloc (.cells #[] 86)).alloc (.cells #[.int .u8 c.toNat, .slice (some ⟨w1.heap.size, 0, .none⟩) 0 0] 86)).ownsRow (w.heap.size + 1) 86 2 (.slice (some ⟨w1.heap.size, 0, .none⟩) 0 0) 0 []) := by
    have h1 := World.ownsRow_made (base := w.heap.size + 1) (e := 86) (size := 2) (w1.setCell ⟨b, 2, .none⟩ (.bool false)) #[] 0 (by simp; omega) (by simp [maxLen]) rfl
    have h2 := h1.alloc (.cells #[.int .u8 c.toNat, .slice (some ⟨w1.heap.size, 0, .none⟩) 0 0] 86)
    simpa [Hid] using h2
  refine forget_world (fun W => St w b (w1.heap.size + 1) l (i + 1) false (.int .u8 c.toNat) (.slice (some ⟨w1.heap.size, 0, .none⟩) 0 0) W ∧ W.ownsRow (w.heap.size + 1) 86 2 (.slice (some ⟨w1.heap.size, 0, .none⟩) 0 0) 0 [] ∧ w1.heap.size + 1 < W.heap.size) ⟨⟨hb_alloc (hb_alloc (heap_set HR1.out 2 _) _) _, hb_alloc (hb_alloc (hb_set_ne HRB.out _ _ (by show w.heap.size ≠ b; omega)) _) _, hb_new2 _ _ _ _ (by simp), grown_trans (World.grownBy_alloc w _ _) (grown_trans HG1.out (grown_trans (grown_set _ _ _ _) (grown_trans (World.grownBy_alloc _ _ _) (World.grownBy_alloc _ _ _)))), by omega⟩, HROW.out, by simp⟩ ?_
  clear HROW k2 f2 HRB HR1 HG1 hlt1
  generalize w1.heap.size = g0 at *
  obtain ⟨nb, hnb⟩ : ∃ nb, nb = g0 + 1 := ⟨_, rfl⟩
  rw [← hnb]
  have HNB := hid hnb
  have hnb1 : g0 < nb := by omega
  clear hnb w1
  intro W ⟨⟨s1, s2, s3, s4, s5⟩, s6, s7⟩
  have S6 := hid s6
  clear s6
  have k2 : W.cell? ⟨b, 2, .none⟩ = some (.bool false) := heap_cell s1 2
  have fb2 : W.frozen? ⟨b, 2, .none⟩ = false := heap_free s1 2
  have f0 : W.frozen? ⟨w.heap.size, 0, .none⟩ = false := heap_free s2 0
  have f1 : W.frozen? ⟨w.heap.size, 1, .none⟩ = false := heap_free s2 1
  have kr0 : W.cell? ⟨w.heap.size, 0, .none⟩ = some (.int .u8 0) := heap_cell s2 0
  have kr1 : W.cell? ⟨w.heap.size, 1, .none⟩ = some (.slice .none 0 0) := heap_cell s2 1
  have kn0 : W.cell? ⟨nb, 0, .none⟩ = some (.int .u8 c.toNat) := heap_cell s3 0
  have kn1 : W.cell? ⟨nb, 1, .none⟩ = some (.slice (some ⟨g0, 0, .none⟩) 0 0) := heap_cell s3 1
  have fn1 : W.frozen? ⟨nb, 1, .none⟩ = false := heap_free s3 1
  have S1 := hid s1
  have S2 := hid s2
  have S3 := hid s3
  have S4 := hid s4
  have hszW := s4.size
  clear s1 s2 s3 s4
  refine wp_loop_rounds 3 ?_
  rw [rounds_succ]
  go_wp2
  refine wp_region_any (by kernel_rfl) ?_
  change wpAny _ _ _ _ _ _ _ (World.drew _)
  refine wpAny_take (i := 0) (v := .pointer (some ⟨b, 0, .none⟩)) rfl (by kernel_rfl) (by kernel_rfl) (by kernel_rfl) (fun _ _ _ h => h) (Or.inl ⟨by rfl, fun _ => by go_simp⟩) ?_
  refine wpAny_take (i := 1) (v := .pointer (some ⟨b, 0, .none⟩)) rfl (by kernel_rfl) (by kernel_rfl) (by kernel_rfl) (fun _ _ _ h => h) (Or.inl ⟨by rfl, fun _ => by go_simp⟩) ?_
  refine wpAny_take (i := 3) (v := .int .i64 0) rfl (by kernel_rfl) (by kernel_rfl) (by kernel_rfl) (fun _ _ _ h => h) (Or.inl ⟨by rfl, fun _ => by go_simp⟩) ?_
  refine wpAny_take (i := 4) (v := .int .u8 40) rfl (by kernel_rfl) (by kernel_rfl) (by kernel_rfl) (fun _ _ _ h => h) (Or.inl ⟨by rfl, fun _ => by go_simp; rfl⟩) ?_
  refine wpAny_one 2 rfl (by kernel_rfl) (fun K hK => ?_)
  go_simp
  refine (next_byte W.drew b l (i + 1) false 40 hs HN.out S1.out).mono ?_
  rintro e w2 ⟨rfl, r2, g2⟩
  have k2 : w2.cell? ⟨b, 2, .none⟩ = some (.bool false) := heap_cell r2 2
  have fb2 : w2.frozen? ⟨b, 2, .none⟩ = false := heap_free r2 2
  have R2 := hid r2
  have G2 := hid g2
  have hszw2 := g2.size
  clear r2 g2
  refine hK _ _ ?_
  clear hK K
  refine wpAny_drop _ 5 _ _ _ (by kernel_rfl) ?_
  change wpList _ _ _ (_ :: _) _ _
  go_wp2
  clear k2 fb2 f0 f1 kr0 kr1 kn0 kn1 fn1
  have hszd : W.drew.heap.size = W.heap.size := rfl
  refine forget_world (fun W' => St w b nb l (i + 1 + 1) false (.int .u8 c.toNat) (.slice (some ⟨g0, 0, .none⟩) 0 0) W' ∧ W'.ownsRow (w.heap.size + 1) 86 2 (.slice (some ⟨g0, 0, .none⟩) 0 0) 0 [] ∧ nb < W'.heap.size) ⟨⟨heap_set R2.out 2 _, hb_set_ne (grown_keep (w := W.drew) G2.out S2.out (by simp; omega)) _ _ (by show w.heap.size ≠ b; omega), hb_set_ne (grown_keep (w := W.drew) G2.out S3.out (by simp; omega)) _ _ (by show nb ≠ b; omega), grown_trans S4.out (grown_trans (grown_undrew G2.out) (grown_set _ _ _ _)), s5⟩, (((Keeps.refl _ _).grown (grown_undrew G2.out) (Nat.le_refl _) (by simp; omega)).set (a := ⟨b, 2, .none⟩) _ (.inl (by show b < _; omega))).row S6.out, by simp; omega⟩ ?_
  clear S1 S2 S3 S4 S6 k2 fb2 R2 G2
  intro W ⟨⟨s1, s2, s3, s4, s5⟩, s6, s7⟩
  have S6 := hid s6
  clear s6
  have k2 : W.cell? ⟨b, 2, .none⟩ = some (.bool false) := heap_cell s1 2
  have fb2 : W.frozen? ⟨b, 2, .none⟩ = false := heap_free s1 2
  have f0 : W.frozen? ⟨w.heap.size, 0, .none⟩ = false := heap_free s2 0
  have f1 : W.frozen? ⟨w.heap.size, 1, .none⟩ = false := heap_free s2 1
  have kr0 : W.cell? ⟨w.heap.size, 0, .none⟩ = some (.int .u8 0) := heap_cell s2 0
  have kr1 : W.cell? ⟨w.heap.size, 1, .none⟩ = some (.slice .none 0 0) := heap_cell s2 1
  have kn0 : W.cell? ⟨nb, 0, .none⟩ = some (.int .u8 c.toNat) := heap_cell s3 0
  have kn1 : W.cell? ⟨nb, 1, .none⟩ = some (.slice (some ⟨g0, 0, .none⟩) 0 0) := heap_cell s3 1
  have fn1 : W.frozen? ⟨nb, 1, .none⟩ = false := heap_free s3 1
  have S1 := hid s1
  have S2 := hid s2
  have S3 := hid s3
  have S4 := hid s4
  have hszW := s4.size
  clear s1 s2 s3 s4
  obtain ⟨lo1, hlo1⟩ : ∃ n, n = W.heap.size := ⟨_, rfl⟩
  refine wp_region_any (by kernel_rfl) ?_
  change wpAny _ _ _ _ _ _ _ (World.drew _)
  refine wpAny_take (i := 0) (v := .pointer (some ⟨nb, 1, .none⟩)) rfl (by kernel_rfl) (by kernel_rfl) (by kernel_rfl) (fun _ _ _ h => h) (Or.inl ⟨by rfl, fun _ => by go_simp⟩) ?_
  refine wpAny_take (i := 2) (v := .pointer (some ⟨b, 0, .none⟩)) rfl (by kernel_rfl) (by kernel_rfl) (by kernel_rfl) (fun _ _ _ h => h) (Or.inl ⟨by rfl, fun _ => by go_simp⟩) ?_
  refine wpAny_of_T (S := fun X => X.cell? ⟨nb, 1, .none⟩ = some (.slice (some ⟨g0, 0, .none⟩) 0 0)) (m := 5) _ _ _ _ ?_
  refine wpAnyT_take (i := 1) (v := .slice (some ⟨g0, 0, .none⟩) 0 0) rfl (by kernel_rfl) (by kernel_rfl) (by kernel_rfl) (by kernel_rfl) (fun _ _ _ h => h) (Or.inl ⟨by rfl, fun X hS => by have hS1 : X.cell? ⟨nb, 1, .none⟩ = some (.slice (some ⟨g0, 0, .none⟩) 0 0) := hS; clear hS; go_simp⟩) kn1 ?_
  refine wpAnyT_one 3 rfl (by kernel_rfl) (fun K hK => ?_)
  go_simp
  refine (ih1 W.drew b S1.out).mono ?_
  rintro e w3 ⟨h1, q1, rfl, sn, r3, g3⟩
  obtain ⟨o1, o2⟩ := sn.one
  have SN1 := hid sn
  clear sn
  have hb3 := grown_keep (w := W.drew) g3 S3.out (by simp; omega)
  have hr3 := grown_keep (w := W.drew) g3 S2.out (by simp; omega)
  have kn1 : w3.cell? ⟨nb, 1, .none⟩ = some (.slice (some ⟨g0, 0, .none⟩) 0 0) := heap_cell hb3 1
  have hsz3 : W.heap.size ≤ w3.heap.size := g3.size
  have hnb3 := lt_of_heap hb3
  have hbb3 := lt_of_heap r3
  have R3 := hid r3
  have G3 : Hid (W.grownBy w3 (some b)) := grown_undrew g3
  have B3 := hid hb3
  have BR3 := hid hr3
  clear r3 g3 hb3 hr3
  refine hK _ _ (fun _ => kn1) ?_
  clear hK K
  refine wpAnyT_one 4 rfl (by kernel_rfl) (fun K hK => ?_)
  go_simp
  refine hK _ _ (fun _ => heap_cell (hb_alloc B3.out _) 1) ?_
  clear hK K
  refine wpAnyT_drop _ 5 _ _ _ (Nat.le_refl _) (by kernel_rfl) ?_
  change wpList _ _ _ (_ :: _) _ _
  go_wp2_with (first
    | (at_builtin; refine app_push_at 84 86 (.agg #[.int .u8 0, .slice .none 0 0]) 2 32 Tryd.underlying84 infoSN rfl (by decide) rfl _ _ rfl (w.heap.size + 1) (.slice (some ⟨g0, 0, .none⟩) 0 0) 0 [] rfl (World.ownsRow.alloc (Keeps.row ((Keeps.refl _ _).grown G3.out (Nat.le_refl _) (by simp; omega)) S6.out) _) w3.heap.size 1 [h1, q1] rfl rfl (news_two (heap_cell (heap_alloc_new _ _) 0) (heap_cell (heap_alloc_new _ _) 1)) (by simp [o1, o2]) (by decide) (by decide) (by simp; omega) ?_))
  intro g1 cap1 w4 hown hg hlie
  simp only [World.size_alloc, Value.ownBlock, Option.some.injEq] at hlie
  have hb4 := grown_keep hg (hb_alloc B3.out _) (by simp [Value.ownBlock]; omega)
  have hr4 := grown_keep hg (hb_alloc BR3.out _) (by simp [Value.ownBlock]; omega)
  have hd4 := grown_keep hg (hb_alloc R3.out _) (by simp [Value.ownBlock]; omega)
  have kn1 : w4.cell? ⟨nb, 1, .none⟩ = some (.slice (some ⟨g0, 0, .none⟩) 0 0) := heap_cell hb4 1
  have fn1 : w4.frozen? ⟨nb, 1, .none⟩ = false := heap_free hb4 1
  have hsz4 : w3.heap.size + 1 ≤ w4.heap.size := by have := hg.size; simpa using this
  have HW4 := hid hown
  have HG4 := hid hg
  have B4 := hid hb4
  have BR4 := hid hr4
  have R4 := hid hd4
  clear hown hg hb4 hr4 hd4
  go_wp2
  rw [rounds_succ]
  have SN1 : Hid (SNode lo1 w3 t h1 q1) := by rw [hlo1]; exact SN1.out
  have hlie1 : g0 = g1 ∨ g1 = w3.heap.size + 1 := hlie
  clear hlie
  clear k2 fb2 f0 f1 kr0 kr1 kn0 kn1 fn1
  refine forget_world (fun W' => St w b nb l (j) false (.int .u8 c.toNat) (.slice (some ⟨g1, 0, .none⟩) 1 cap1) W' ∧ W'.ownsRow (w.heap.size + 1) 86 2 (.slice (some ⟨g1, 0, .none⟩) 1 cap1) 1 [h1, q1] ∧ Keeps lo1 w3 W' ∧ w3.heap.size ≤ W'.heap.size ∧ nb < W'.heap.size ∧ g1 < W'.heap.size) ⟨⟨hb_set_ne R4.out _ _ (by show b ≠ nb; omega), hb_set_ne BR4.out _ _ (by show w.heap.size ≠ nb; omega), heap_set B4.out 1 _, grown_new (grown_new (grown_trans S4.out G3.out) (grown_trans (row := some g0) (World.grownBy_alloc _ _ _) HG4.out) (fun i h => .inr (by simp at h; omega))) (grown_set _ _ _ _) (fun i h => .inr (by simp at h; omega)), s5⟩, row_set HW4.out _ (by show g1 ≠ nb; omega), (((Keeps.refl _ _).alloc _ (Nat.le_refl _)).grown HG4.out (by simp) (by simp [Value.ownBlock]; omega)).set (a := ⟨nb, 1, .none⟩) _ (.inl (by show nb < lo1; omega)), by simp; omega, by simp; omega, by simp; exact lt_of_heap (row_block HW4.out).2.choose_spec⟩ ?_
  clear S1 S2 S3 S4 S6 R3 G3 B3 BR3 HW4 HG4 B4 BR4 R4
  generalize w3 = w3a at *
  intro W ⟨⟨s1, s2, s3, s4, s5⟩, s6, s7, s8, s9, s10⟩
  have S6 := hid s6
  clear s6
  have KW1 := hid s7
  clear s7
  have k2 : W.cell? ⟨b, 2, .none⟩ = some (.bool false) := heap_cell s1 2
  have fb2 : W.frozen? ⟨b, 2, .none⟩ = false := heap_free s1 2
  have f0 : W.frozen? ⟨w.heap.size, 0, .none⟩ = false := heap_free s2 0
  have f1 : W.frozen? ⟨w.heap.size, 1, .none⟩ = false := heap_free s2 1
  have kr0 : W.cell? ⟨w.heap.size, 0, .none⟩ = some (.int .u8 0) := heap_cell s2 0
  have kr1 : W.cell? ⟨w.heap.size, 1, .none⟩ = some (.slice .none 0 0) := heap_cell s2 1
  have kn0 : W.cell? ⟨nb, 0, .none⟩ = some (.int .u8 c.toNat) := heap_cell s3 0
  have kn1 : W.cell? ⟨nb, 1, .none⟩ = some (.slice (some ⟨g1, 0, .none⟩) 1 cap1) := heap_cell s3 1
  have fn1 : W.frozen? ⟨nb, 1, .none⟩ = false := heap_free s3 1
  have S1 := hid s1
  have S2 := hid s2
  have S3 := hid s3
  have S4 := hid s4
  have hszW := s4.size
  clear s1 s2 s3 s4
  go_wp2
  refine wp_region_any (by kernel_rfl) ?_
  change wpAny _ _ _ _ _ _ _ (World.drew _)
  refine wpAny_take (i := 0) (v := .pointer (some ⟨b, 0, .none⟩)) rfl (by kernel_rfl) (by kernel_rfl) (by kernel_rfl) (fun _ _ _ h => h) (Or.inl ⟨by rfl, fun _ => by go_simp⟩) ?_
  refine wpAny_take (i := 1) (v := .pointer (some ⟨b, 0, .none⟩)) rfl (by kernel_rfl) (by kernel_rfl) (by kernel_rfl) (fun _ _ _ h => h) (Or.inl ⟨by rfl, fun _ => by go_simp⟩) ?_
  refine wpAny_take (i := 3) (v := .int .i64 1) rfl (by kernel_rfl) (by kernel_rfl) (by kernel_rfl) (fun _ _ _ h => h) (Or.inl ⟨by rfl, fun _ => by go_simp⟩) ?_
  refine wpAny_take (i := 4) (v := .int .u8 44) rfl (by kernel_rfl) (by kernel_rfl) (by kernel_rfl) (fun _ _ _ h => h) (Or.inl ⟨by rfl, fun _ => by go_simp; rfl⟩) ?_
  refine wpAny_one 2 rfl (by kernel_rfl) (fun K hK => ?_)
  go_simp
  refine (next_byte W.drew b l j false 44 hs HC.out S1.out).mono ?_
  rintro e w2 ⟨rfl, r2, g2⟩
  have k2 : w2.cell? ⟨b, 2, .none⟩ = some (.bool false) := heap_cell r2 2
  have fb2 : w2.frozen? ⟨b, 2, .none⟩ = false := heap_free r2 2
  have R2 := hid r2
  have G2 := hid g2
  have hszw2 := g2.size
  clear r2 g2
  refine hK _ _ ?_
  clear hK K
  refine wpAny_drop _ 5 _ _ _ (by kernel_rfl) ?_
  change wpList _ _ _ (_ :: _) _ _
  go_wp2
  clear k2 fb2 f0 f1 kr0 kr1 kn0 kn1 fn1
  have hszd : W.drew.heap.size = W.heap.size := rfl
  refine forget_world (fun W' => St w b nb l (j + 1) false (.int .u8 c.toNat) (.slice (some ⟨g1, 0, .none⟩) 1 cap1) W' ∧ W'.ownsRow (w.heap.size + 1) 86 2 (.slice (some ⟨g1, 0, .none⟩) 1 cap1) 1 [h1, q1] ∧ Keeps lo1 w3a W' ∧ w3a.heap.size ≤ W'.heap.size ∧ nb < W'.heap.size ∧ g1 < W'.heap.size) ⟨⟨heap_set R2.out 2 _, hb_set_ne (grown_keep (w := W.drew) G2.out S2.out (by simp; omega)) _ _ (by show w.heap.size ≠ b; omega), hb_set_ne (grown_keep (w := W.drew) G2.out S3.out (by simp; omega)) _ _ (by show nb ≠ b; omega), grown_trans S4.out (grown_trans (grown_undrew G2.out) (grown_set _ _ _ _)), s5⟩, (((Keeps.refl _ _).grown (grown_undrew G2.out) (Nat.le_refl _) (by simp; omega)).set (a := ⟨b, 2, .none⟩) _ (.inl (by show b < _; omega))).row S6.out, (KW1.out.grown (grown_undrew G2.out) s8 (by simp; omega)).set (a := ⟨b, 2, .none⟩) _ (.inl (by show b < _; omega)), by simp; omega, by simp; omega, by simp; omega⟩ ?_
  clear S1 S2 S3 S4 S6 KW1 k2 fb2 R2 G2
  intro W ⟨⟨s1, s2, s3, s4, s5⟩, s6, s7, s8, s9, s10⟩
  have S6 := hid s6
  clear s6
  have KW1 := hid s7
  clear s7
  have k2 : W.cell? ⟨b, 2, .none⟩ = some (.bool false) := heap_cell s1 2
  have fb2 : W.frozen? ⟨b, 2, .none⟩ = false := heap_free s1 2
  have f0 : W.frozen? ⟨w.heap.size, 0, .none⟩ = false := heap_free s2 0
  have f1 : W.frozen? ⟨w.heap.size, 1, .none⟩ = false := heap_free s2 1
  have kr0 : W.cell? ⟨w.heap.size, 0, .none⟩ = some (.int .u8 0) := heap_cell s2 0
  have kr1 : W.cell? ⟨w.heap.size, 1, .none⟩ = some (.slice .none 0 0) := heap_cell s2 1
  have kn0 : W.cell? ⟨nb, 0, .none⟩ = some (.int .u8 c.toNat) := heap_cell s3 0
  have kn1 : W.cell? ⟨nb, 1, .none⟩ = some (.slice (some ⟨g1, 0, .none⟩) 1 cap1) := heap_cell s3 1
  have fn1 : W.frozen? ⟨nb, 1, .none⟩ = false := heap_free s3 1
  have S1 := hid s1
  have S2 := hid s2
  have S3 := hid s3
  have S4 := hid s4
  have hszW := s4.size
  clear s1 s2 s3 s4
  obtain ⟨lo2, hlo2⟩ : ∃ n, n = W.heap.size := ⟨_, rfl⟩
  refine wp_region_any (by kernel_rfl) ?_
  change wpAny _ _ _ _ _ _ _ (World.drew _)
  refine wpAny_take (i := 0) (v := .pointer (some ⟨nb, 1, .none⟩)) rfl (by kernel_rfl) (by kernel_rfl) (by kernel_rfl) (fun _ _ _ h => h) (Or.inl ⟨by rfl, fun _ => by go_simp⟩) ?_
  refine wpAny_take (i := 2) (v := .pointer (some ⟨b, 0, .none⟩)) rfl (by kernel_rfl) (by kernel_rfl) (by kernel_rfl) (fun _ _ _ h => h) (Or.inl ⟨by rfl, fun _ => by go_simp⟩) ?_
  refine wpAny_of_T (S := fun X => X.cell? ⟨nb, 1, .none⟩ = some (.slice (some ⟨g1, 0, .none⟩) 1 cap1)) (m := 5) _ _ _ _ ?_
  refine wpAnyT_take (i := 1) (v := .slice (some ⟨g1, 0, .none⟩) 1 cap1) rfl (by kernel_rfl) (by kernel_rfl) (by kernel_rfl) (by kernel_rfl) (fun _ _ _ h => h) (Or.inl ⟨by rfl, fun X hS => by have hS1 : X.cell? ⟨nb, 1, .none⟩ = some (.slice (some ⟨g1, 0, .none⟩) 1 cap1) := hS; clear hS; go_simp⟩) kn1 ?_
  refine wpAnyT_one 3 rfl (by kernel_rfl) (fun K hK => ?_)
  go_simp
  refine (ih2 W.drew b S1.out).mono ?_
  rintro e w3 ⟨h2, q2, rfl, sn, r3, g3⟩
  obtain ⟨o1, o2⟩ := sn.one
  have SN2 := hid sn
  clear sn
  have hb3 := grown_keep (w := W.drew) g3 S3.out (by simp; omega)
  have hr3 := grown_keep (w := W.drew) g3 S2.out (by simp; omega)
  have kn1 : w3.cell? ⟨nb, 1, .none⟩ = some (.slice (some ⟨g1, 0, .none⟩) 1 cap1) := heap_cell hb3 1
  have hsz3 : W.heap.size ≤ w3.heap.size := g3.size
  have hnb3 := lt_of_heap hb3
  have hbb3 := lt_of_heap r3
  have R3 := hid r3
  have G3 : Hid (W.grownBy w3 (some b)) := grown_undrew g3
  have B3 := hid hb3
  have BR3 := hid hr3
  clear r3 g3 hb3 hr3
  refine hK _ _ (fun _ => kn1) ?_
  clear hK K
  refine wpAnyT_one 4 rfl (by kernel_rfl) (fun K hK => ?_)
  go_simp
  refine hK _ _ (fun _ => heap_cell (hb_alloc B3.out _) 1) ?_
  clear hK K
  refine wpAnyT_drop _ 5 _ _ _ (Nat.le_refl _) (by kernel_rfl) ?_
  change wpList _ _ _ (_ :: _) _ _
  go_wp2_with (first
    | (at_builtin; refine app_push_at 84 86 (.agg #[.int .u8 0, .slice .none 0 0]) 2 32 Tryd.underlying84 infoSN rfl (by decide) rfl _ _ rfl (w.heap.size + 1) (.slice (some ⟨g1, 0, .none⟩) 1 cap1) 1 [h1, q1] rfl (World.ownsRow.alloc (Keeps.row ((Keeps.refl _ _).grown G3.out (Nat.le_refl _) (by simp; omega)) S6.out) _) w3.heap.size 1 [h2, q2] rfl rfl (news_two (heap_cell (heap_alloc_new _ _) 0) (heap_cell (heap_alloc_new _ _) 1)) (by simp [o1, o2]) (by decide) (by decide) (by simp; omega) ?_))
  intro g2 cap2 w4 hown hg hlie
  simp only [World.size_alloc, Value.ownBlock, Option.some.injEq] at hlie
  have hb4 := grown_keep hg (hb_alloc B3.out _) (by simp [Value.ownBlock]; omega)
  have hr4 := grown_keep hg (hb_alloc BR3.out _) (by simp [Value.ownBlock]; omega)
  have hd4 := grown_keep hg (hb_alloc R3.out _) (by simp [Value.ownBlock]; omega)
  have kn1 : w4.cell? ⟨nb, 1, .none⟩ = some (.slice (some ⟨g1, 0, .none⟩) 1 cap1) := heap_cell hb4 1
  have fn1 : w4.frozen? ⟨nb, 1, .none⟩ = false := heap_free hb4 1
  have hsz4 : w3.heap.size + 1 ≤ w4.heap.size := by have := hg.size; simpa using this
  have HW4 := hid hown
  have HG4 := hid hg
  have B4 := hid hb4
  have BR4 := hid hr4
  have R4 := hid hd4
  clear hown hg hb4 hr4 hd4
  go_wp2
  rw [rounds_succ]
  have SN2 : Hid (SNode lo2 w3 u h2 q2) := by rw [hlo2]; exact SN2.out
  clear k2 fb2 f0 f1 kr0 kr1 kn0 kn1 fn1
  refine forget_world (fun W' => St w b nb l (m) false (.int .u8 c.toNat) (.slice (some ⟨g2, 0, .none⟩) 2 cap2) W' ∧ W'.ownsRow (w.heap.size + 1) 86 2 (.slice (some ⟨g2, 0, .none⟩) 2 cap2) 2 [h1, q1, h2, q2] ∧ Keeps lo1 w3a W' ∧ w3a.heap.size ≤ W'.heap.size ∧ Keeps lo2 w3 W' ∧ w3.heap.size ≤ W'.heap.size) ⟨⟨hb_set_ne R4.out _ _ (by show b ≠ nb; omega), hb_set_ne BR4.out _ _ (by show w.heap.size ≠ nb; omega), heap_set B4.out 1 _, grown_new (grown_new (grown_trans S4.out G3.out) (grown_trans (row := some g1) (World.grownBy_alloc _ _ _) HG4.out) (fun i h => .inr (by simp at h; omega))) (grown_set _ _ _ _) (fun i h => .inr (by simp at h; omega)), s5⟩, row_set HW4.out _ (by show g2 ≠ nb; omega), ((((KW1.out.grown G3.out s8 (by simp; omega)).alloc _ (by omega)).grown HG4.out (by simp; omega) (by simp [Value.ownBlock]; omega)).set (a := ⟨nb, 1, .none⟩) _ (.inl (by show nb < lo1; omega))), by simp; omega, (((Keeps.refl _ _).alloc _ (Nat.le_refl _)).grown HG4.out (by simp) (by simp [Value.ownBlock]; omega)).set (a := ⟨nb, 1, .none⟩) _ (.inl (by show nb < lo2; omega)), by simp; omega⟩ ?_
  clear S1 S2 S3 S4 S6 R3 G3 B3 BR3 HW4 HG4 B4 BR4 R4 KW1
  intro W ⟨⟨s1, s2, s3, s4, s5⟩, s6, t7, t8, t9, t10⟩
  have S6 := hid s6
  clear s6
  have KW1 := hid t7
  have KW2 := hid t9
  clear t7 t9
  have k2 : W.cell? ⟨b, 2, .none⟩ = some (.bool false) := heap_cell s1 2
  have fb2 : W.frozen? ⟨b, 2, .none⟩ = false := heap_free s1 2
  have f0 : W.frozen? ⟨w.heap.size, 0, .none⟩ = false := heap_free s2 0
  have f1 : W.frozen? ⟨w.heap.size, 1, .none⟩ = false := heap_free s2 1
  have kr0 : W.cell? ⟨w.heap.size, 0, .none⟩ = some (.int .u8 0) := heap_cell s2 0
  have kr1 : W.cell? ⟨w.heap.size, 1, .none⟩ = some (.slice .none 0 0) := heap_cell s2 1
  have kn0 : W.cell? ⟨nb, 0, .none⟩ = some (.int .u8 c.toNat) := heap_cell s3 0
  have kn1 : W.cell? ⟨nb, 1, .none⟩ = some (.slice (some ⟨g2, 0, .none⟩) 2 cap2) := heap_cell s3 1
  have fn1 : W.frozen? ⟨nb, 1, .none⟩ = false := heap_free s3 1
  have S1 := hid s1
  have S2 := hid s2
  have S3 := hid s3
  have S4 := hid s4
  have hszW := s4.size
  clear s1 s2 s3 s4
  go_wp2_with fail
  refine (next_bad W b l m false 41 hs (by decide) hm HD2.out S1.out).mono ?_
  rintro e w6 ⟨v, i6, bad6, rfl, hv, hi6, r6, g6⟩
  have hv1 : (v == 41) = false := hv
  have hv2 : ¬ v = 41 := by simpa using hv1
  have hv3 : (v != 41) = true := by rw [bne, hv1]; rfl
  clear hv
  have k2 : w6.cell? ⟨b, 2, .none⟩ = some (.bool bad6) := heap_cell r6 2
  have fb2 : w6.frozen? ⟨b, 2, .none⟩ = false := heap_free r6 2
  have hb6 := grown_keep g6 S3.out (by simp; omega)
  have hr6 := grown_keep g6 S2.out (by simp; omega)
  have f0 : w6.frozen? ⟨w.heap.size, 0, .none⟩ = false := heap_free hr6 0
  have f1 : w6.frozen? ⟨w.heap.size, 1, .none⟩ = false := heap_free hr6 1
  have kr0 : w6.cell? ⟨w.heap.size, 0, .none⟩ = some (.int .u8 0) := heap_cell hr6 0
  have kr1 : w6.cell? ⟨w.heap.size, 1, .none⟩ = some (.slice .none 0 0) := heap_cell hr6 1
  have kn0 : w6.cell? ⟨nb, 0, .none⟩ = some (.int .u8 c.toNat) := heap_cell hb6 0
  have kn1 : w6.cell? ⟨nb, 1, .none⟩ = some (.slice (some ⟨g2, 0, .none⟩) 2 cap2) := heap_cell hb6 1
  have hne1 : ¬ b = w.heap.size := by omega
  have hne2 : ¬ b = nb := by omega
  have hne3 : ¬ w.heap.size = b := by omega
  have hne4 : ¬ nb = b := by omega
  have R6 := hid r6
  have G6 := hid g6
  have BR6 := hid hr6
  have B6 := hid hb6
  have hsz6 := g6.size
  clear r6 g6 hr6 hb6
  go_wp2
  refine bodyPost_ret (results_cell_row rfl _ _ w.heap.size 86 #[.int .u8 c.toNat, .slice (some ⟨g2, 0, .none⟩) 2 cap2] (0, 0) _ rfl (heap_set (heap_set (hb_set_ne BR6.out _ _ (by show w.heap.size ≠ b; omega)) 0 _) 1 _) Tryd.underlying86 rfl (by kernel_rfl)) rfl ?_
  exact ⟨_, _, i6, rfl, ⟨_, rfl⟩, ⟨_, _, _, rfl⟩, hi6, hb_set_ne (hb_set_ne (heap_set R6.out 2 _) _ _ (by show b ≠ w.heap.size; omega)) _ _ (by show b ≠ w.heap.size; omega), grown_new (grown_trans S4.out (grown_trans G6.out (grown_set _ _ _ _))) (grown_trans (grown_set _ _ _ _) (grown_set _ _ _ _)) (fun i h => .inr (by simp at h; omega))⟩

set_option maxHeartbeats 4000000 in
theorem two (l : List UInt8) (i j m : Nat) (c : UInt8) (t u : Ty) (hs : l.length ≤ maxLen) (hi : l[i]? = some c) (ha : ar c = some 2) (hn : l[i + 1]? = some 40) (ih1 : Ok l (i + 1 + 1) t j) (hc : l[j]? = some 44) (ih2 : Ok l (j + 1) u m) (hc2 : l[m]? = some 41) : Ok l i (.two c t u) (m + 1) := by
  intro w b hr
  have hil : i + 2 ≤ l.length := (List.getElem?_eq_some_iff.1 hn).1
  have ha : Hid (arI c = 2) := by simp [arI, ha, Hid]
  have HN := hid hn
  clear hn
  have HC := hid hc
  clear hc
  have HD2 := hid hc2
  clear hc2
  have hlt := lt_of_heap hr
  have HR := hid hr
  clear hr
  go_enter Tryd.func81, Tryd.ntmps81
  go_wp2_with fail
  refine (next_byte _ b l i false c hs hi ((keeps_alloc w _ 0).heap (Nat.zero_le _) HR.out)).mono ?_
  rintro e w1 ⟨rfl, hr1, hg1⟩
  have k2 : w1.cell? ⟨b, 2, .none⟩ = some (.bool false) := heap_cell hr1 2
  have f2 : w1.frozen? ⟨b, 2, .none⟩ = false := heap_free hr1 2
  have hlt1 := lt_of_heap hr1
  have hrb := grown_keep hg1 (heap_alloc_new w _) (by simp; omega)
  have hsz1 := hg1.size
  simp only [World.size_alloc] at hsz1
  have HRB := hid hrb
  have HR1 := hid hr1
  have HG1 := hid hg1
  clear hr1 hg1 hrb
  go_wp2_with (first
    | (go_at_call 98; refine (l1Arity_any c _).mono ?_; rintro e w' ⟨rfl, rfl⟩; rw [ha.out]))
  have HROW : Hid ((((w1.setCell ⟨b, 2, .none⟩ (.bool false)).alloc (.cells #[] 86)).alloc (.cells #[.int .u8 c.toNat, .slice (some ⟨w1.heap.size, 0, .none⟩) 0 0] 86)).ownsRow (w.heap.size + 1) 86 2 (.slice (some ⟨w1.heap.size, 0, .none⟩) 0 0) 0 []) := by
    have h1 := World.ownsRow_made (base := w.heap.size + 1) (e := 86) (size := 2) (w1.setCell ⟨b, 2, .none⟩ (.bool false)) #[] 0 (by simp; omega) (by simp [maxLen]) rfl
    have h2 := h1.alloc (.cells #[.int .u8 c.toNat, .slice (some ⟨w1.heap.size, 0, .none⟩) 0 0] 86)
    simpa [Hid] using h2
  refine forget_world (fun W => St w b (w1.heap.size + 1) l (i + 1) false (.int .u8 c.toNat) (.slice (some ⟨w1.heap.size, 0, .none⟩) 0 0) W ∧ W.ownsRow (w.heap.size + 1) 86 2 (.slice (some ⟨w1.heap.size, 0, .none⟩) 0 0) 0 [] ∧ w1.heap.size + 1 < W.heap.size) ⟨⟨hb_alloc (hb_alloc (heap_set HR1.out 2 _) _) _, hb_alloc (hb_alloc (hb_set_ne HRB.out _ _ (by show w.heap.size ≠ b; omega)) _) _, hb_new2 _ _ _ _ (by simp), grown_trans (World.grownBy_alloc w _ _) (grown_trans HG1.out (grown_trans (grown_set _ _ _ _) (grown_trans (World.grownBy_alloc _ _ _) (World.grownBy_alloc _ _ _)))), by omega⟩, HROW.out, by simp⟩ ?_
  clear HROW k2 f2 HRB HR1 HG1 hlt1
  generalize w1.heap.size = g0 at *
  obtain ⟨nb, hnb⟩ : ∃ nb, nb = g0 + 1 := ⟨_, rfl⟩
  rw [← hnb]
  have HNB := hid hnb
  have hnb1 : g0 < nb := by omega
  clear hnb w1
  intro W ⟨⟨s1, s2, s3, s4, s5⟩, s6, s7⟩
  have S6 := hid s6
  clear s6
  have k2 : W.cell? ⟨b, 2, .none⟩ = some (.bool false) := heap_cell s1 2
  have fb2 : W.frozen? ⟨b, 2, .none⟩ = false := heap_free s1 2
  have f0 : W.frozen? ⟨w.heap.size, 0, .none⟩ = false := heap_free s2 0
  have f1 : W.frozen? ⟨w.heap.size, 1, .none⟩ = false := heap_free s2 1
  have kr0 : W.cell? ⟨w.heap.size, 0, .none⟩ = some (.int .u8 0) := heap_cell s2 0
  have kr1 : W.cell? ⟨w.heap.size, 1, .none⟩ = some (.slice .none 0 0) := heap_cell s2 1
  have kn0 : W.cell? ⟨nb, 0, .none⟩ = some (.int .u8 c.toNat) := heap_cell s3 0
  have kn1 : W.cell? ⟨nb, 1, .none⟩ = some (.slice (some ⟨g0, 0, .none⟩) 0 0) := heap_cell s3 1
  have fn1 : W.frozen? ⟨nb, 1, .none⟩ = false := heap_free s3 1
  have S1 := hid s1
  have S2 := hid s2
  have S3 := hid s3
  have S4 := hid s4
  have hszW := s4.size
  clear s1 s2 s3 s4
  refine wp_loop_rounds 3 ?_
  rw [rounds_succ]
  go_wp2
  refine wp_region_any (by kernel_rfl) ?_
  change wpAny _ _ _ _ _ _ _ (World.drew _)
  refine wpAny_take (i := 0) (v := .pointer (some ⟨b, 0, .none⟩)) rfl (by kernel_rfl) (by kernel_rfl) (by kernel_rfl) (fun _ _ _ h => h) (Or.inl ⟨by rfl, fun _ => by go_simp⟩) ?_
  refine wpAny_take (i := 1) (v := .pointer (some ⟨b, 0, .none⟩)) rfl (by kernel_rfl) (by kernel_rfl) (by kernel_rfl) (fun _ _ _ h => h) (Or.inl ⟨by rfl, fun _ => by go_simp⟩) ?_
  refine wpAny_take (i := 3) (v := .int .i64 0) rfl (by kernel_rfl) (by kernel_rfl) (by kernel_rfl) (fun _ _ _ h => h) (Or.inl ⟨by rfl, fun _ => by go_simp⟩) ?_
  refine wpAny_take (i := 4) (v := .int .u8 40) rfl (by kernel_rfl) (by kernel_rfl) (by kernel_rfl) (fun _ _ _ h => h) (Or.inl ⟨by rfl, fun _ => by go_simp; rfl⟩) ?_
  refine wpAny_one 2 rfl (by kernel_rfl) (fun K hK => ?_)
  go_simp
  refine (next_byte W.drew b l (i + 1) false 40 hs HN.out S1.out).mono ?_
  rintro e w2 ⟨rfl, r2, g2⟩
  have k2 : w2.cell? ⟨b, 2, .none⟩ = some (.bool false) := heap_cell r2 2
  have fb2 : w2.frozen? ⟨b, 2, .none⟩ = false := heap_free r2 2
  have R2 := hid r2
  have G2 := hid g2
  have hszw2 := g2.size
  clear r2 g2
  refine hK _ _ ?_
  clear hK K
  refine wpAny_drop _ 5 _ _ _ (by kernel_rfl) ?_
  change wpList _ _ _ (_ :: _) _ _
  go_wp2
  clear k2 fb2 f0 f1 kr0 kr1 kn0 kn1 fn1
  have hszd : W.drew.heap.size = W.heap.size := rfl
  refine forget_world (fun W' => St w b nb l (i + 1 + 1) false (.int .u8 c.toNat) (.slice (some ⟨g0, 0, .none⟩) 0 0) W' ∧ W'.ownsRow (w.heap.size + 1) 86 2 (.slice (some ⟨g0, 0, .none⟩) 0 0) 0 [] ∧ nb < W'.heap.size) ⟨⟨heap_set R2.out 2 _, hb_set_ne (grown_keep (w := W.drew) G2.out S2.out (by simp; omega)) _ _ (by show w.heap.size ≠ b; omega), hb_set_ne (grown_keep (w := W.drew) G2.out S3.out (by simp; omega)) _ _ (by show nb ≠ b; omega), grown_trans S4.out (grown_trans (grown_undrew G2.out) (grown_set _ _ _ _)), s5⟩, (((Keeps.refl _ _).grown (grown_undrew G2.out) (Nat.le_refl _) (by simp; omega)).set (a := ⟨b, 2, .none⟩) _ (.inl (by show b < _; omega))).row S6.out, by simp; omega⟩ ?_
  clear S1 S2 S3 S4 S6 k2 fb2 R2 G2
  intro W ⟨⟨s1, s2, s3, s4, s5⟩, s6, s7⟩
  have S6 := hid s6
  clear s6
  have k2 : W.cell? ⟨b, 2, .none⟩ = some (.bool false) := heap_cell s1 2
  have fb2 : W.frozen? ⟨b, 2, .none⟩ = false := heap_free s1 2
  have f0 : W.frozen? ⟨w.heap.size, 0, .none⟩ = false := heap_free s2 0
  have f1 : W.frozen? ⟨w.heap.size, 1, .none⟩ = false := heap_free s2 1
  have kr0 : W.cell? ⟨w.heap.size, 0, .none⟩ = some (.int .u8 0) := heap_cell s2 0
  have kr1 : W.cell? ⟨w.heap.size, 1, .none⟩ = some (.slice .none 0 0) := heap_cell s2 1
  have kn0 : W.cell? ⟨nb, 0, .none⟩ = some (.int .u8 c.toNat) := heap_cell s3 0
  have kn1 : W.cell? ⟨nb, 1, .none⟩ = some (.slice (some ⟨g0, 0, .none⟩) 0 0) := heap_cell s3 1
  have fn1 : W.frozen? ⟨nb, 1, .none⟩ = false := heap_free s3 1
  have S1 := hid s1
  have S2 := hid s2
  have S3 := hid s3
  have S4 := hid s4
  have hszW := s4.size
  clear s1 s2 s3 s4
  obtain ⟨lo1, hlo1⟩ : ∃ n, n = W.heap.size := ⟨_, rfl⟩
  refine wp_region_any (by kernel_rfl) ?_
  change wpAny _ _ _ _ _ _ _ (World.drew _)
  refine wpAny_take (i := 0) (v := .pointer (some ⟨nb, 1, .none⟩)) rfl (by kernel_rfl) (by kernel_rfl) (by kernel_rfl) (fun _ _ _ h => h) (Or.inl ⟨by rfl, fun _ => by go_simp⟩) ?_
  refine wpAny_take (i := 2) (v := .pointer (some ⟨b, 0, .none⟩)) rfl (by kernel_rfl) (by kernel_rfl) (by kernel_rfl) (fun _ _ _ h => h) (Or.inl ⟨by rfl, fun _ => by go_simp⟩) ?_
  refine wpAny_of_T (S := fun X => X.cell? ⟨nb, 1, .none⟩ = some (.slice (some ⟨g0, 0, .none⟩) 0 0)) (m := 5) _ _ _ _ ?_
  refine wpAnyT_take (i := 1) (v := .slice (some ⟨g0, 0, .none⟩) 0 0) rfl (by kernel_rfl) (by kernel_rfl) (by kernel_rfl) (by kernel_rfl) (fun _ _ _ h => h) (Or.inl ⟨by rfl, fun X hS => by have hS1 : X.cell? ⟨nb, 1, .none⟩ = some (.slice (some ⟨g0, 0, .none⟩) 0 0) := hS; clear hS; go_simp⟩) kn1 ?_
  refine wpAnyT_one 3 rfl (by kernel_rfl) (fun K hK => ?_)
  go_simp
  refine (ih1 W.drew b S1.out).mono ?_
  rintro e w3 ⟨h1, q1, rfl, sn, r3, g3⟩
  obtain ⟨o1, o2⟩ := sn.one
  have SN1 := hid sn
  clear sn
  have hb3 := grown_keep (w := W.drew) g3 S3.out (by simp; omega)
  have hr3 := grown_keep (w := W.drew) g3 S2.out (by simp; omega)
  have kn1 : w3.cell? ⟨nb, 1, .none⟩ = some (.slice (some ⟨g0, 0, .none⟩) 0 0) := heap_cell hb3 1
  have hsz3 : W.heap.size ≤ w3.heap.size := g3.size
  have hnb3 := lt_of_heap hb3
  have hbb3 := lt_of_heap r3
  have R3 := hid r3
  have G3 : Hid (W.grownBy w3 (some b)) := grown_undrew g3
  have B3 := hid hb3
  have BR3 := hid hr3
  clear r3 g3 hb3 hr3
  refine hK _ _ (fun _ => kn1) ?_
  clear hK K
  refine wpAnyT_one 4 rfl (by kernel_rfl) (fun K hK => ?_)
  go_simp
  refine hK _ _ (fun _ => heap_cell (hb_alloc B3.out _) 1) ?_
  clear hK K
  refine wpAnyT_drop _ 5 _ _ _ (Nat.le_refl _) (by kernel_rfl) ?_
  change wpList _ _ _ (_ :: _) _ _
  go_wp2_with (first
    | (at_builtin; refine app_push_at 84 86 (.agg #[.int .u8 0, .slice .none 0 0]) 2 32 Tryd.underlying84 infoSN rfl (by decide) rfl _ _ rfl (w.heap.size + 1) (.slice (some ⟨g0, 0, .none⟩) 0 0) 0 [] rfl (World.ownsRow.alloc (Keeps.row ((Keeps.refl _ _).grown G3.out (Nat.le_refl _) (by simp; omega)) S6.out) _) w3.heap.size 1 [h1, q1] rfl rfl (news_two (heap_cell (heap_alloc_new _ _) 0) (heap_cell (heap_alloc_new _ _) 1)) (by simp [o1, o2]) (by decide) (by decide) (by simp; omega) ?_))
  intro g1 cap1 w4 hown hg hlie
  simp only [World.size_alloc, Value.ownBlock, Option.some.injEq] at hlie
  have hb4 := grown_keep hg (hb_alloc B3.out _) (by simp [Value.ownBlock]; omega)
  have hr4 := grown_keep hg (hb_alloc BR3.out _) (by simp [Value.ownBlock]; omega)
  have hd4 := grown_keep hg (hb_alloc R3.out _) (by simp [Value.ownBlock]; omega)
  have kn1 : w4.cell? ⟨nb, 1, .none⟩ = some (.slice (some ⟨g0, 0, .none⟩) 0 0) := heap_cell hb4 1
  have fn1 : w4.frozen? ⟨nb, 1, .none⟩ = false := heap_free hb4 1
  have hsz4 : w3.heap.size + 1 ≤ w4.heap.size := by have := hg.size; simpa using this
  have HW4 := hid hown
  have HG4 := hid hg
  have B4 := hid hb4
  have BR4 := hid hr4
  have R4 := hid hd4
  clear hown hg hb4 hr4 hd4
  go_wp2
  rw [rounds_succ]
  have SN1 : Hid (SNode lo1 w3 t h1 q1) := by rw [hlo1]; exact SN1.out
  have hlie1 : g0 = g1 ∨ g1 = w3.heap.size + 1 := hlie
  clear hlie
  clear k2 fb2 f0 f1 kr0 kr1 kn0 kn1 fn1
  refine forget_world (fun W' => St w b nb l (j) false (.int .u8 c.toNat) (.slice (some ⟨g1, 0, .none⟩) 1 cap1) W' ∧ W'.ownsRow (w.heap.size + 1) 86 2 (.slice (some ⟨g1, 0, .none⟩) 1 cap1) 1 [h1, q1] ∧ Keeps lo1 w3 W' ∧ w3.heap.size ≤ W'.heap.size ∧ nb < W'.heap.size ∧ g1 < W'.heap.size) ⟨⟨hb_set_ne R4.out _ _ (by show b ≠ nb; omega), hb_set_ne BR4.out _ _ (by show w.heap.size ≠ nb; omega), heap_set B4.out 1 _, grown_new (grown_new (grown_trans S4.out G3.out) (grown_trans (row := some g0) (World.grownBy_alloc _ _ _) HG4.out) (fun i h => .inr (by simp at h; omega))) (grown_set _ _ _ _) (fun i h => .inr (by simp at h; omega)), s5⟩, row_set HW4.out _ (by show g1 ≠ nb; omega), (((Keeps.refl _ _).alloc _ (Nat.le_refl _)).grown HG4.out (by simp) (by simp [Value.ownBlock]; omega)).set (a := ⟨nb, 1, .none⟩) _ (.inl (by show nb < lo1; omega)), by simp; omega, by simp; omega, by simp; exact lt_of_heap (row_block HW4.out).2.choose_spec⟩ ?_
  clear S1 S2 S3 S4 S6 R3 G3 B3 BR3 HW4 HG4 B4 BR4 R4
  generalize w3 = w3a at *
  intro W ⟨⟨s1, s2, s3, s4, s5⟩, s6, s7, s8, s9, s10⟩
  have S6 := hid s6
  clear s6
  have KW1 := hid s7
  clear s7
  have k2 : W.cell? ⟨b, 2, .none⟩ = some (.bool false) := heap_cell s1 2
  have fb2 : W.frozen? ⟨b, 2, .none⟩ = false := heap_free s1 2
  have f0 : W.frozen? ⟨w.heap.size, 0, .none⟩ = false := heap_free s2 0
  have f1 : W.frozen? ⟨w.heap.size, 1, .none⟩ = false := heap_free s2 1
  have kr0 : W.cell? ⟨w.heap.size, 0, .none⟩ = some (.int .u8 0) := heap_cell s2 0
  have kr1 : W.cell? ⟨w.heap.size, 1, .none⟩ = some (.slice .none 0 0) := heap_cell s2 1
  have kn0 : W.cell? ⟨nb, 0, .none⟩ = some (.int .u8 c.toNat) := heap_cell s3 0
  have kn1 : W.cell? ⟨nb, 1, .none⟩ = some (.slice (some ⟨g1, 0, .none⟩) 1 cap1) := heap_cell s3 1
  have fn1 : W.frozen? ⟨nb, 1, .none⟩ = false := heap_free s3 1
  have S1 := hid s1
  have S2 := hid s2
  have S3 := hid s3
  have S4 := hid s4
  have hszW := s4.size
  clear s1 s2 s3 s4
  go_wp2
  refine wp_region_any (by kernel_rfl) ?_
  change wpAny _ _ _ _ _ _ _ (World.drew _)
  refine wpAny_take (i := 0) (v := .pointer (some ⟨b, 0, .none⟩)) rfl (by kernel_rfl) (by kernel_rfl) (by kernel_rfl) (fun _ _ _ h => h) (Or.inl ⟨by rfl, fun _ => by go_simp⟩) ?_
  refine wpAny_take (i := 1) (v := .pointer (some ⟨b, 0, .none⟩)) rfl (by kernel_rfl) (by kernel_rfl) (by kernel_rfl) (fun _ _ _ h => h) (Or.inl ⟨by rfl, fun _ => by go_simp⟩) ?_
  refine wpAny_take (i := 3) (v := .int .i64 1) rfl (by kernel_rfl) (by kernel_rfl) (by kernel_rfl) (fun _ _ _ h => h) (Or.inl ⟨by rfl, fun _ => by go_simp⟩) ?_
  refine wpAny_take (i := 4) (v := .int .u8 44) rfl (by kernel_rfl) (by kernel_rfl) (by kernel_rfl) (fun _ _ _ h => h) (Or.inl ⟨by rfl, fun _ => by go_simp; rfl⟩) ?_
  refine wpAny_one 2 rfl (by kernel_rfl) (fun K hK => ?_)
  go_simp
  refine (next_byte W.drew b l j false 44 hs HC.out S1.out).mono ?_
  rintro e w2 ⟨rfl, r2, g2⟩
  have k2 : w2.cell? ⟨b, 2, .none⟩ = some (.bool false) := heap_cell r2 2
  have fb2 : w2.frozen? ⟨b, 2, .none⟩ = false := heap_free r2 2
  have R2 := hid r2
  have G2 := hid g2
  have hszw2 := g2.size
  clear r2 g2
  refine hK _ _ ?_
  clear hK K
  refine wpAny_drop _ 5 _ _ _ (by kernel_rfl) ?_
  change wpList _ _ _ (_ :: _) _ _
  go_wp2
  clear k2 fb2 f0 f1 kr0 kr1 kn0 kn1 fn1
  have hszd : W.drew.heap.size = W.heap.size := rfl
  refine forget_world (fun W' => St w b nb l (j + 1) false (.int .u8 c.toNat) (.slice (some ⟨g1, 0, .none⟩) 1 cap1) W' ∧ W'.ownsRow (w.heap.size + 1) 86 2 (.slice (some ⟨g1, 0, .none⟩) 1 cap1) 1 [h1, q1] ∧ Keeps lo1 w3a W' ∧ w3a.heap.size ≤ W'.heap.size ∧ nb < W'.heap.size ∧ g1 < W'.heap.size) ⟨⟨heap_set R2.out 2 _, hb_set_ne (grown_keep (w := W.drew) G2.out S2.out (by simp; omega)) _ _ (by show w.heap.size ≠ b; omega), hb_set_ne (grown_keep (w := W.drew) G2.out S3.out (by simp; omega)) _ _ (by show nb ≠ b; omega), grown_trans S4.out (grown_trans (grown_undrew G2.out) (grown_set _ _ _ _)), s5⟩, (((Keeps.refl _ _).grown (grown_undrew G2.out) (Nat.le_refl _) (by simp; omega)).set (a := ⟨b, 2, .none⟩) _ (.inl (by show b < _; omega))).row S6.out, (KW1.out.grown (grown_undrew G2.out) s8 (by simp; omega)).set (a := ⟨b, 2, .none⟩) _ (.inl (by show b < _; omega)), by simp; omega, by simp; omega, by simp; omega⟩ ?_
  clear S1 S2 S3 S4 S6 KW1 k2 fb2 R2 G2
  intro W ⟨⟨s1, s2, s3, s4, s5⟩, s6, s7, s8, s9, s10⟩
  have S6 := hid s6
  clear s6
  have KW1 := hid s7
  clear s7
  have k2 : W.cell? ⟨b, 2, .none⟩ = some (.bool false) := heap_cell s1 2
  have fb2 : W.frozen? ⟨b, 2, .none⟩ = false := heap_free s1 2
  have f0 : W.frozen? ⟨w.heap.size, 0, .none⟩ = false := heap_free s2 0
  have f1 : W.frozen? ⟨w.heap.size, 1, .none⟩ = false := heap_free s2 1
  have kr0 : W.cell? ⟨w.heap.size, 0, .none⟩ = some (.int .u8 0) := heap_cell s2 0
  have kr1 : W.cell? ⟨w.heap.size, 1, .none⟩ = some (.slice .none 0 0) := heap_cell s2 1
  have kn0 : W.cell? ⟨nb, 0, .none⟩ = some (.int .u8 c.toNat) := heap_cell s3 0
  have kn1 : W.cell? ⟨nb, 1, .none⟩ = some (.slice (some ⟨g1, 0, .none⟩) 1 cap1) := heap_cell s3 1
  have fn1 : W.frozen? ⟨nb, 1, .none⟩ = false := heap_free s3 1
  have S1 := hid s1
  have S2 := hid s2
  have S3 := hid s3
  have S4 := hid s4
  have hszW := s4.size
  clear s1 s2 s3 s4
  obtain ⟨lo2, hlo2⟩ : ∃ n, n = W.heap.size := ⟨_, rfl⟩
  refine wp_region_any (by kernel_rfl) ?_
  change wpAny _ _ _ _ _ _ _ (World.drew _)
  refine wpAny_take (i := 0) (v := .pointer (some ⟨nb, 1, .none⟩)) rfl (by kernel_rfl) (by kernel_rfl) (by kernel_rfl) (fun _ _ _ h => h) (Or.inl ⟨by rfl, fun _ => by go_simp⟩) ?_
  refine wpAny_take (i := 2) (v := .pointer (some ⟨b, 0, .none⟩)) rfl (by kernel_rfl) (by kernel_rfl) (by kernel_rfl) (fun _ _ _ h => h) (Or.inl ⟨by rfl, fun _ => by go_simp⟩) ?_
  refine wpAny_of_T (S := fun X => X.cell? ⟨nb, 1, .none⟩ = some (.slice (some ⟨g1, 0, .none⟩) 1 cap1)) (m := 5) _ _ _ _ ?_
  refine wpAnyT_take (i := 1) (v := .slice (some ⟨g1, 0, .none⟩) 1 cap1) rfl (by kernel_rfl) (by kernel_rfl) (by kernel_rfl) (by kernel_rfl) (fun _ _ _ h => h) (Or.inl ⟨by rfl, fun X hS => by have hS1 : X.cell? ⟨nb, 1, .none⟩ = some (.slice (some ⟨g1, 0, .none⟩) 1 cap1) := hS; clear hS; go_simp⟩) kn1 ?_
  refine wpAnyT_one 3 rfl (by kernel_rfl) (fun K hK => ?_)
  go_simp
  refine (ih2 W.drew b S1.out).mono ?_
  rintro e w3 ⟨h2, q2, rfl, sn, r3, g3⟩
  obtain ⟨o1, o2⟩ := sn.one
  have SN2 := hid sn
  clear sn
  have hb3 := grown_keep (w := W.drew) g3 S3.out (by simp; omega)
  have hr3 := grown_keep (w := W.drew) g3 S2.out (by simp; omega)
  have kn1 : w3.cell? ⟨nb, 1, .none⟩ = some (.slice (some ⟨g1, 0, .none⟩) 1 cap1) := heap_cell hb3 1
  have hsz3 : W.heap.size ≤ w3.heap.size := g3.size
  have hnb3 := lt_of_heap hb3
  have hbb3 := lt_of_heap r3
  have R3 := hid r3
  have G3 : Hid (W.grownBy w3 (some b)) := grown_undrew g3
  have B3 := hid hb3
  have BR3 := hid hr3
  clear r3 g3 hb3 hr3
  refine hK _ _ (fun _ => kn1) ?_
  clear hK K
  refine wpAnyT_one 4 rfl (by kernel_rfl) (fun K hK => ?_)
  go_simp
  refine hK _ _ (fun _ => heap_cell (hb_alloc B3.out _) 1) ?_
  clear hK K
  refine wpAnyT_drop _ 5 _ _ _ (Nat.le_refl _) (by kernel_rfl) ?_
  change wpList _ _ _ (_ :: _) _ _
  go_wp2_with (first
    | (at_builtin; refine app_push_at 84 86 (.agg #[.int .u8 0, .slice .none 0 0]) 2 32 Tryd.underlying84 infoSN rfl (by decide) rfl _ _ rfl (w.heap.size + 1) (.slice (some ⟨g1, 0, .none⟩) 1 cap1) 1 [h1, q1] rfl (World.ownsRow.alloc (Keeps.row ((Keeps.refl _ _).grown G3.out (Nat.le_refl _) (by simp; omega)) S6.out) _) w3.heap.size 1 [h2, q2] rfl rfl (news_two (heap_cell (heap_alloc_new _ _) 0) (heap_cell (heap_alloc_new _ _) 1)) (by simp [o1, o2]) (by decide) (by decide) (by simp; omega) ?_))
  intro g2 cap2 w4 hown hg hlie
  simp only [World.size_alloc, Value.ownBlock, Option.some.injEq] at hlie
  have hb4 := grown_keep hg (hb_alloc B3.out _) (by simp [Value.ownBlock]; omega)
  have hr4 := grown_keep hg (hb_alloc BR3.out _) (by simp [Value.ownBlock]; omega)
  have hd4 := grown_keep hg (hb_alloc R3.out _) (by simp [Value.ownBlock]; omega)
  have kn1 : w4.cell? ⟨nb, 1, .none⟩ = some (.slice (some ⟨g1, 0, .none⟩) 1 cap1) := heap_cell hb4 1
  have fn1 : w4.frozen? ⟨nb, 1, .none⟩ = false := heap_free hb4 1
  have hsz4 : w3.heap.size + 1 ≤ w4.heap.size := by have := hg.size; simpa using this
  have HW4 := hid hown
  have HG4 := hid hg
  have B4 := hid hb4
  have BR4 := hid hr4
  have R4 := hid hd4
  clear hown hg hb4 hr4 hd4
  go_wp2
  rw [rounds_succ]
  have SN2 : Hid (SNode lo2 w3 u h2 q2) := by rw [hlo2]; exact SN2.out
  clear k2 fb2 f0 f1 kr0 kr1 kn0 kn1 fn1
  refine forget_world (fun W' => St w b nb l (m) false (.int .u8 c.toNat) (.slice (some ⟨g2, 0, .none⟩) 2 cap2) W' ∧ W'.ownsRow (w.heap.size + 1) 86 2 (.slice (some ⟨g2, 0, .none⟩) 2 cap2) 2 [h1, q1, h2, q2] ∧ Keeps lo1 w3a W' ∧ w3a.heap.size ≤ W'.heap.size ∧ Keeps lo2 w3 W' ∧ w3.heap.size ≤ W'.heap.size) ⟨⟨hb_set_ne R4.out _ _ (by show b ≠ nb; omega), hb_set_ne BR4.out _ _ (by show w.heap.size ≠ nb; omega), heap_set B4.out 1 _, grown_new (grown_new (grown_trans S4.out G3.out) (grown_trans (row := some g1) (World.grownBy_alloc _ _ _) HG4.out) (fun i h => .inr (by simp at h; omega))) (grown_set _ _ _ _) (fun i h => .inr (by simp at h; omega)), s5⟩, row_set HW4.out _ (by show g2 ≠ nb; omega), ((((KW1.out.grown G3.out s8 (by simp; omega)).alloc _ (by omega)).grown HG4.out (by simp; omega) (by simp [Value.ownBlock]; omega)).set (a := ⟨nb, 1, .none⟩) _ (.inl (by show nb < lo1; omega))), by simp; omega, (((Keeps.refl _ _).alloc _ (Nat.le_refl _)).grown HG4.out (by simp) (by simp [Value.ownBlock]; omega)).set (a := ⟨nb, 1, .none⟩) _ (.inl (by show nb < lo2; omega)), by simp; omega⟩ ?_
  clear S1 S2 S3 S4 S6 R3 G3 B3 BR3 HW4 HG4 B4 BR4 R4 KW1
  intro W ⟨⟨s1, s2, s3, s4, s5⟩, s6, t7, t8, t9, t10⟩
  have S6 := hid s6
  clear s6
  have KW1 := hid t7
  have KW2 := hid t9
  clear t7 t9
  have k2 : W.cell? ⟨b, 2, .none⟩ = some (.bool false) := heap_cell s1 2
  have fb2 : W.frozen? ⟨b, 2, .none⟩ = false := heap_free s1 2
  have f0 : W.frozen? ⟨w.heap.size, 0, .none⟩ = false := heap_free s2 0
  have f1 : W.frozen? ⟨w.heap.size, 1, .none⟩ = false := heap_free s2 1
  have kr0 : W.cell? ⟨w.heap.size, 0, .none⟩ = some (.int .u8 0) := heap_cell s2 0
  have kr1 : W.cell? ⟨w.heap.size, 1, .none⟩ = some (.slice .none 0 0) := heap_cell s2 1
  have kn0 : W.cell? ⟨nb, 0, .none⟩ = some (.int .u8 c.toNat) := heap_cell s3 0
  have kn1 : W.cell? ⟨nb, 1, .none⟩ = some (.slice (some ⟨g2, 0, .none⟩) 2 cap2) := heap_cell s3 1
  have fn1 : W.frozen? ⟨nb, 1, .none⟩ = false := heap_free s3 1
  have S1 := hid s1
  have S2 := hid s2
  have S3 := hid s3
  have S4 := hid s4
  have hszW := s4.size
  clear s1 s2 s3 s4
  go_wp2_with fail
  refine (next_byte W b l m false 41 hs HD2.out S1.out).mono ?_
  rintro e w6 ⟨rfl, r6, g6⟩
  have k2 : w6.cell? ⟨b, 2, .none⟩ = some (.bool false) := heap_cell r6 2
  have fb2 : w6.frozen? ⟨b, 2, .none⟩ = false := heap_free r6 2
  have hb6 := grown_keep g6 S3.out (by simp; omega)
  have hr6 := grown_keep g6 S2.out (by simp; omega)
  have f0 : w6.frozen? ⟨w.heap.size, 0, .none⟩ = false := heap_free hr6 0
  have f1 : w6.frozen? ⟨w.heap.size, 1, .none⟩ = false := heap_free hr6 1
  have kr0 : w6.cell? ⟨w.heap.size, 0, .none⟩ = some (.int .u8 0) := heap_cell hr6 0
  have kr1 : w6.cell? ⟨w.heap.size, 1, .none⟩ = some (.slice .none 0 0) := heap_cell hr6 1
  have kn0 : w6.cell? ⟨nb, 0, .none⟩ = some (.int .u8 c.toNat) := heap_cell hb6 0
  have kn1 : w6.cell? ⟨nb, 1, .none⟩ = some (.slice (some ⟨g2, 0, .none⟩) 2 cap2) := heap_cell hb6 1
  have hne1 : ¬ b = w.heap.size := by omega
  have hne2 : ¬ b = nb := by omega
  have hne3 : ¬ w.heap.size = b := by omega
  have hne4 : ¬ nb = b := by omega
  have R6 := hid r6
  have G6 := hid g6
  have BR6 := hid hr6
  have B6 := hid hb6
  have hsz6 := g6.size
  clear r6 g6 hr6 hb6
  go_wp2
  refine bodyPost_ret (results_cell_row rfl _ _ w.heap.size 86 #[.int .u8 c.toNat, .slice (some ⟨g2, 0, .none⟩) 2 cap2] (0, 0) _ rfl (heap_set (heap_set (hb_set_ne BR6.out _ _ (by show w.heap.size ≠ b; omega)) 0 _) 1 _) Tryd.underlying86 rfl (by kernel_rfl)) rfl ?_
  have KK : Keeps (w.heap.size + 1) (w6.setCell ⟨b, 2, .none⟩ (.bool false)) (((w6.setCell ⟨b, 2, .none⟩ (.bool false)).setCell ⟨w.heap.size, 0, .none⟩ (.int .u8 c.toNat)).setCell ⟨w.heap.size, 1, .none⟩ (.slice (some ⟨g2, 0, .none⟩) 2 cap2)) := ((Keeps.refl _ _).set (a := ⟨w.heap.size, 0, .none⟩) _ (.inl (Nat.lt_succ_self _))).set (a := ⟨w.heap.size, 1, .none⟩) _ (.inl (Nat.lt_succ_self _))
  exact ⟨_, _, rfl, SNode.mono (Nat.le_succ _) (KK.snode (t := .two c t u) ⟨rfl, h1, q1, h2, q2, (((Keeps.refl _ _).grown G6.out (Nat.le_refl _) (by simp; omega)).set (a := ⟨b, 2, .none⟩) _ (.inl (by show b < _; omega))).row S6.out, SNode.mono (by omega) (((KW1.out.grown G6.out t8 (by simp; omega)).set (a := ⟨b, 2, .none⟩) _ (.inl (by show b < _; omega))).snode SN1.out), SNode.mono (by omega) (((KW2.out.grown G6.out t10 (by simp; omega)).set (a := ⟨b, 2, .none⟩) _ (.inl (by show b < _; omega))).snode SN2.out)⟩), hb_set_ne (hb_set_ne (heap_set R6.out 2 _) _ _ (by show b ≠ w.heap.size; omega)) _ _ (by show b ≠ w.heap.size; omega), grown_new (grown_trans S4.out (grown_trans G6.out (grown_set _ _ _ _))) (grown_trans (grown_set _ _ _ _) (grown_set _ _ _ _)) (fun i h => .inr (by simp at h; omega))⟩

end NodeT
end Go.Proofs.YtbdnhcfebgkpdaaDoor
