/- The reference's AreApart. Conditions: texts of at most 2^30 bytes. -/
import Derived.Test.YtcjalnianamlaaaUniF
import Derived.Test.YtcjalnianamlaaaOth
set_option linter.unusedVariables false
set_option linter.unusedSimpArgs false
set_option maxRecDepth 100000
namespace Go.Proofs.Ytcjalnianamlaaa
open Go.RowKit Ty ListS Parts MkType
namespace AptS
open UniP UniS AptP
open Classical in
/-- what AreApart returns -/
noncomputable def apB (l0 l1 : List UInt8) : Bool := match ty l0, ty l1 with | some p, some q => decide (¬ Uni p q) | _, _ => false
open Classical in
theorem apB_some {l0 l1 : List UInt8} {p q : Ty} (h0 : ty l0 = some p) (h1 : ty l1 = some q) {r : Bool} (hr : r = true ↔ Uni p q) : apB l0 l1 = !r := by
  unfold apB
  rw [h0, h1]
  show decide (¬ Uni p q) = !r
  cases r with
  | true => have := hr.1 rfl; simp [this]
  | false => have : ¬ Uni p q := fun h => by have := hr.2 h; simp at this
             simp [this]
theorem apB_n0 {l0 l1 : List UInt8} (h : ty l0 = none) : apB l0 l1 = false := by unfold apB; rw [h]
theorem apB_n1 {l0 l1 : List UInt8} (h : ty l1 = none) : apB l0 l1 = false := by unfold apB; rw [h]; cases ty l0 <;> rfl
set_option maxHeartbeats 8000000 in
theorem AreApart_spec (lp lt : List UInt8) (w : World) (hp : lp.length ≤ 1073741824) (ht : lt.length ≤ 1073741824) : Calls Try.prog 18 #[.string ⟨lp.toArray⟩, .string ⟨lt.toArray⟩] w fun e w' => e = .returned (.bool (apB lp lt)) ∧ Below w.heap.size w w' := by
  cases h1 : ty lp with
  | none =>
    have HR : Hid (apB lp lt = false) := apB_n0 h1
    have HT1 := hid (fun W => l1Read_none lp W (by unfold maxLen; omega) h1)
    clear h1
    cases h2 : ty lt with
    | none =>
      have HT2 := hid (fun W => l1Read_none lt W (by unfold maxLen; omega) h2)
      clear h2
      go_enter Try.func18, Try.ntmps18
      go_wp2_with fail
      refine (HT1.out w).mono ?_
      rintro e w1 ⟨rfl, hb⟩
      have HB1 := hid hb
      clear hb
      go_wp2_with fail
      refine (HT2.out (w1.alloc (.cells #[.int .u8 0, .slice none 0 0] 70))).mono ?_
      rintro e w2 ⟨rfl, hb⟩
      have HB2 : Hid (Below w.heap.size w w2) := (HB1.out.alloc HB1.out.size _).trans (hb.mono (by have := HB1.out.size; simp; omega))
      clear hb
      go_wp2_with fail
      go_ret
      exact ⟨by rw [HR.out]; rfl, HB2.out.alloc HB2.out.size _⟩
    | some t =>
      have HT2 := hid (fun W => l1Read_some lt t W h2)
      clear h2
      go_enter Try.func18, Try.ntmps18
      go_wp2_with fail
      refine (HT1.out w).mono ?_
      rintro e w1 ⟨rfl, hb⟩
      have HB1 := hid hb
      clear hb
      go_wp2_with fail
      refine (HT2.out (w1.alloc (.cells #[.int .u8 0, .slice none 0 0] 70))).mono ?_
      rintro e w2 ⟨h2, s2, rfl, hn, hb⟩
      obtain ⟨rfl, a2, n2, c2, rfl⟩ := hn.form
      have HN2 := hid hn
      clear hn
      have HB2 : Hid (Below w.heap.size w w2) := (HB1.out.alloc HB1.out.size _).trans (hb.mono (by have := HB1.out.size; simp; omega))
      clear hb
      go_wp2_with fail
      go_ret
      exact ⟨by rw [HR.out]; rfl, HB2.out.alloc HB2.out.size _⟩
  | some p =>
    have HT1 := hid (fun W => l1Read_some lp p W h1)
    cases h2 : ty lt with
    | none =>
      have HR : Hid (apB lp lt = false) := apB_n1 h2
      have HT2 := hid (fun W => l1Read_none lt W (by unfold maxLen; omega) h2)
      clear h1 h2
      go_enter Try.func18, Try.ntmps18
      go_wp2_with fail
      refine (HT1.out w).mono ?_
      rintro e w1 ⟨h1, s1, rfl, hn, hb⟩
      obtain ⟨rfl, a1, n1, c1, rfl⟩ := hn.form
      have HN1 := hid hn
      clear hn
      have HB1 := hid hb
      clear hb
      go_wp2_with fail
      refine (HT2.out (w1.alloc (.cells #[.int .u8 p.head.toNat, .slice a1 n1 c1] 70))).mono ?_
      rintro e w2 ⟨rfl, hb⟩
      have HB2 : Hid (Below w.heap.size w w2) := (HB1.out.alloc HB1.out.size _).trans (hb.mono (by have := HB1.out.size; simp; omega))
      clear hb
      go_wp2_with fail
      go_ret
      exact ⟨by rw [HR.out]; rfl, HB2.out.alloc HB2.out.size _⟩
    | some t =>
      have HT2 := hid (fun W => l1Read_some lt t W h2)
      have hwp := (ty_some h1).2.1
      have hwt := (ty_some h2).2.1
      obtain ⟨r, hun, hri, hinv⟩ := spec_iff hwp hwt
      have HR : Hid (apB lp lt = !r.isSome) := apB_some h1 h2 hri
      have HWP := hid hwp
      have HWT := hid hwt
      have HUN := hid hun
      have HINV := hid hinv
      clear h1 h2 hwp hwt hri hun hinv
      go_enter Try.func18, Try.ntmps18
      go_wp2_with fail
      refine (HT1.out w).mono ?_
      rintro e w1 ⟨h1, s1, rfl, hn, hb⟩
      obtain ⟨rfl, a1, n1, c1, rfl⟩ := hn.form
      have HN1 := hid hn
      clear hn
      have HB1 := hid hb
      clear hb
      go_wp2_with fail
      refine (HT2.out (w1.alloc (.cells #[.int .u8 p.head.toNat, .slice a1 n1 c1] 70))).mono ?_
      rintro e w2 ⟨h2, s2, rfl, hn, hb⟩
      obtain ⟨rfl, a2, n2, c2, rfl⟩ := hn.form
      have HN2 := hid hn
      clear hn
      have HB2 : Hid (Below w.heap.size w w2) := (HB1.out.alloc HB1.out.size _).trans (hb.mono (by have := HB1.out.size; simp; omega))
      have hb0 : Below w1.heap.size w1 w2 := ((Below.refl _ _).alloc (Nat.le_refl _) _).trans (hb.mono (by simp))
      have hz2 := hb.size
      simp only [World.size_alloc] at hz2
      have HBX := hid (below_heap hb (by simp) (heap_alloc_new w1 (.cells #[.int .u8 p.head.toNat, .slice a1 n1 c1] 70)))
      have HP3 : Hid (SNode 0 (w2.alloc (.cells #[.int .u8 t.head.toNat, .slice a2 n2 c2] 70)) p (.int .u8 p.head.toNat) (.slice a1 n1 c1)) := Keeps.snode (w := w1) (fun k h1 hk1 => (Below.heap_alloc _ _ _ (by omega)).trans (hb0.block k hk1)) (HN1.out.mono (Nat.zero_le _))
      have HT3 : Hid (SNode 0 (w2.alloc (.cells #[.int .u8 t.head.toNat, .slice a2 n2 c2] 70)) t (.int .u8 t.head.toNat) (.slice a2 n2 c2)) := Keeps.snode (w := w2) (fun k h1 hk1 => Below.heap_alloc _ _ _ hk1) (HN2.out.mono (Nat.zero_le _))
      have HY0 : Hid ((w2.alloc (.cells #[.int .u8 t.head.toNat, .slice a2 n2 c2] 70)).heap[w1.heap.size]? = some (.cells #[.int .u8 p.head.toNat, .slice a1 n1 c1] 70 (0, 0))) := hb_alloc HBX.out _
      have HY1 : Hid ((w2.alloc (.cells #[.int .u8 t.head.toNat, .slice a2 n2 c2] 70)).heap[w2.heap.size]? = some (.cells #[.int .u8 t.head.toNat, .slice a2 n2 c2] 70 (0, 0))) := heap_alloc_new _ _
      have HBW3 : Hid (Below w.heap.size w (w2.alloc (.cells #[.int .u8 t.head.toNat, .slice a2 n2 c2] 70))) := HB2.out.alloc HB2.out.size _
      have hzw3 : (w2.alloc (.cells #[.int .u8 t.head.toNat, .slice a2 n2 c2] 70)).heap.size = w2.heap.size + 1 := by simp
      clear hb hb0 HBX HN1 HN2
      go_wp2_with fail
      have k0 := heap_cell HY0.out 0
      have k1 := heap_cell HY0.out 1
      have k2 := heap_cell HY1.out 0
      have k3 := heap_cell HY1.out 1
      generalize (w2.alloc (.cells #[.int .u8 t.head.toNat, .slice a2 n2 c2] 70)) = W3 at *
      have HT3d : Hid (SNode 0 W3.drew t (.int .u8 t.head.toNat) (.slice a2 n2 c2)) := Keeps.snode (w := W3) (w' := W3.drew) (fun _ _ _ => rfl) HT3.out
      have hl0 : w1.heap.size < W3.heap.size := by omega
      have hl1 : w2.heap.size < W3.heap.size := by omega
      have hbz3 := HBW3.out.size
      refine wp_region_any (by kernel_rfl) ?_
      change wpAny _ _ _ _ _ _ _ (World.drew _)
      have SX : W3.drew.cell? ⟨w1.heap.size, 0, none⟩ = some (.int .u8 p.head.toNat) ∧ W3.drew.cell? ⟨w1.heap.size, 1, none⟩ = some (.slice a1 n1 c1) ∧ W3.drew.cell? ⟨w2.heap.size, 0, none⟩ = some (.int .u8 t.head.toNat) ∧ W3.drew.cell? ⟨w2.heap.size, 1, none⟩ = some (.slice a2 n2 c2) := ⟨k0, k1, k2, k3⟩
      refine wpAny_of_T (S := fun X => X.cell? ⟨w1.heap.size, 0, none⟩ = some (.int .u8 p.head.toNat) ∧ X.cell? ⟨w1.heap.size, 1, none⟩ = some (.slice a1 n1 c1) ∧ X.cell? ⟨w2.heap.size, 0, none⟩ = some (.int .u8 t.head.toNat) ∧ X.cell? ⟨w2.heap.size, 1, none⟩ = some (.slice a2 n2 c2)) (m := 9) _ _ _ _ ?_
      clear k0 k1 k2 k3
      refine wpAnyT_take (i := 0) (v := .agg #[.int .u8 p.head.toNat, .slice a1 n1 c1]) rfl (by kernel_rfl) (by kernel_rfl) (by kernel_rfl) (by kernel_rfl) (fun _ _ _ h => h) (Or.inl ⟨by kernel_rfl, fun X hS => by obtain ⟨e0, e1, e2, e3⟩ := hS; go_simp⟩) SX ?_
      try go_simp
      refine wpAnyT_take (i := 1) (v := .agg #[.int .u8 t.head.toNat, .slice a2 n2 c2]) rfl (by kernel_rfl) (by kernel_rfl) (by kernel_rfl) (by kernel_rfl) (fun _ _ _ h => h) (Or.inl ⟨by kernel_rfl, fun X hS => by obtain ⟨e0, e1, e2, e3⟩ := hS; go_simp⟩) SX ?_
      try go_simp
      refine wpAnyT_one 2 rfl (by kernel_rfl) (fun K hK => ?_)
      go_simp
      refine (Oth.l2Others_any (t.size + 1) t _ _ W3.drew (by omega) HWT.out HT3d.out).mono ?_
      rintro e w4 ⟨h4, s4, rfl, sr4, hb⟩
      obtain ⟨rfl, a4, n4, c4, rfl⟩ := sr4.here.form
      have HB4 : Hid (Below W3.heap.size W3 w4) := ⟨hb.os, hb.tape, hb.output, hb.size, hb.block⟩
      have hz4 := HB4.out.size
      have HO4 := hid sr4.here
      have HP4 : Hid (SNode 0 w4 p (.int .u8 p.head.toNat) (.slice a1 n1 c1)) := Keeps.snode (w := W3) (fun k _ hk => HB4.out.block k hk) HP3.out
      clear hb sr4
      have SX4 : w4.cell? ⟨w1.heap.size, 0, none⟩ = some (.int .u8 p.head.toNat) ∧ w4.cell? ⟨w1.heap.size, 1, none⟩ = some (.slice a1 n1 c1) ∧ w4.cell? ⟨w2.heap.size, 0, none⟩ = some (.int .u8 t.head.toNat) ∧ w4.cell? ⟨w2.heap.size, 1, none⟩ = some (.slice a2 n2 c2) := ⟨((HB4.out).cell (p := ⟨w1.heap.size, 0, none⟩) hl0).trans SX.1, ((HB4.out).cell (p := ⟨w1.heap.size, 1, none⟩) hl0).trans SX.2.1, ((HB4.out).cell (p := ⟨w2.heap.size, 0, none⟩) hl1).trans SX.2.2.1, ((HB4.out).cell (p := ⟨w2.heap.size, 1, none⟩) hl1).trans SX.2.2.2⟩
      refine hK _ _ (fun _ => SX4) ?_
      clear hK K
      refine wpAnyT_one 3 rfl (by kernel_rfl) (fun K hK => ?_)
      go_simp
      refine (l2Solve_any p (oth t) r a1 n1 c1 a4 n4 c4 w4 HUN.out (tw_wf HWP.out).1 (tw_wf HWT.out).2 HINV.out HP4.out HO4.out).mono ?_
      rintro e w5 ⟨q5, rfl, hb⟩
      have HB5 : Hid (Below W3.heap.size W3 w5) := HB4.out.trans (hb.mono hz4)
      clear hb
      have SX5 : w5.cell? ⟨w1.heap.size, 0, none⟩ = some (.int .u8 p.head.toNat) ∧ w5.cell? ⟨w1.heap.size, 1, none⟩ = some (.slice a1 n1 c1) ∧ w5.cell? ⟨w2.heap.size, 0, none⟩ = some (.int .u8 t.head.toNat) ∧ w5.cell? ⟨w2.heap.size, 1, none⟩ = some (.slice a2 n2 c2) := ⟨((HB5.out).cell (p := ⟨w1.heap.size, 0, none⟩) hl0).trans SX.1, ((HB5.out).cell (p := ⟨w1.heap.size, 1, none⟩) hl0).trans SX.2.1, ((HB5.out).cell (p := ⟨w2.heap.size, 0, none⟩) hl1).trans SX.2.2.1, ((HB5.out).cell (p := ⟨w2.heap.size, 1, none⟩) hl1).trans SX.2.2.2⟩
      refine hK _ _ (fun _ => SX5) ?_
      clear hK K
      clear SX SX4
      refine wpAnyT_take (i := 4) (v := .tuple #[.pointer q5, .bool r.isSome]) rfl (by kernel_rfl) (by kernel_rfl) (by kernel_rfl) (by kernel_rfl) (fun _ _ _ h => h) (Or.inl ⟨by kernel_rfl, fun X hS => by clear hS; go_simp⟩) SX5 ?_
      try go_simp
      refine wpAnyT_take (i := 5) (v := .pointer q5) rfl (by kernel_rfl) (by kernel_rfl) (by kernel_rfl) (by kernel_rfl) (fun _ _ _ h => h) (Or.inl ⟨by kernel_rfl, fun X hS => by clear hS; go_simp⟩) SX5 ?_
      try go_simp
      refine wpAnyT_take (i := 6) (v := .bool r.isSome) rfl (by kernel_rfl) (by kernel_rfl) (by kernel_rfl) (by kernel_rfl) (fun _ _ _ h => h) (Or.inl ⟨by kernel_rfl, fun X hS => by clear hS; go_simp⟩) SX5 ?_
      try go_simp
      refine wpAnyT_one 7 rfl (by kernel_rfl) (fun K hK => ?_)
      go_simp
      refine hK _ _ (fun _ => SX5) ?_
      clear hK K
      refine wpAnyT_one 8 rfl (by kernel_rfl) (fun K hK => ?_)
      go_simp
      refine hK _ _ (fun _ => SX5) ?_
      clear hK K
      refine wpAnyT_drop _ 9 _ _ _ (by decide) (by kernel_rfl) ?_
      change wpList _ _ _ [] _ _
      clear SX5
      go_wp2
      go_ret
      exact ⟨by rw [HR.out]; cases r <;> rfl, HBW3.out.trans (HB5.out.mono hbz3)⟩
end AptS
end Go.Proofs.Ytcjalnianamlaaa
