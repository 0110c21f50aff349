/- The laws' size, copy and comparison of slices of Binding. Conditions: those typed. -/
import Derived.Test.YtlhildfiddphcaaPairs
import Derived.Test.YtlhildfiddphcaaReg
import Derived.Test.YtlhildfiddphcaaStr
set_option linter.unusedVariables false
set_option linter.unusedSimpArgs false
set_option maxRecDepth 100000
namespace Go.Proofs.Ytlhildfiddphcaa
open Go.RowKit

theorem eqBinding_same (a b : ByteArray) (w : World) :
    Calls Try.prog 18 #[.agg #[.string a, .string b], .agg #[.string a, .string b]] w fun e w' => e = .returned (.bool true) ∧ Below w.heap.size w w' := by
  go_enter Try.func18, Try.ntmps18
  go_wp2
  go_ret
  exact ⟨rfl, ((Below.refl _ _).alloc (Nat.le_refl _) _).alloc (by simp) _⟩

theorem toBindingS_info : (Try.prog.info? 45).map (fun i => (i.zero, i.size, i.bytes)) = some (some (.agg #[.string ⟨#[]⟩, .string ⟨#[]⟩]), 2, 32) := by kernel_rfl
theorem toBindingS_make (n : Nat) (h : n ≤ 1048576) (w : World) : (Instr.makeSlice 22 (.int .i64 (n : Int)) (.int .i64 (n : Int))).run Try.prog w = .ok (.slice (some ⟨w.heap.size, 0, none⟩) n n) (w.alloc (.cells (flat (List.replicate n (⟨#[]⟩, ⟨#[]⟩))).toArray 45)) := by
  obtain ⟨i, hi, hz⟩ := Option.map_eq_some_iff.1 toBindingS_info
  simp only [Prod.mk.injEq] at hz
  have hr := run_make (P := Try.prog) w 22 45 i _ Try.underlying22 hi hz.1 .i64 .i64 n n (by omega) (Int.le_refl _) (by rw [hz.2.2]; omega) (by omega)
  rw [hr, ← made_rep]
  simp [hz.2.1, Value.cells]

theorem eqBindingS_same (v v' : Value) (xs : List BB) (w : World) (hs : SP w v xs) (hs' : SP w v' xs) :
    Calls Try.prog 7 #[v, v'] w fun e w' => e = .returned (.bool true) ∧ Below w.heap.size w w' := by
  obtain ⟨g, cap, rfl⟩ : ∃ g cap, v = .slice g xs.length cap := by
    rcases hs with ⟨rfl, a, cap, rfl⟩ | ⟨b, off, cap, rfl, hn, hc⟩ <;> exact ⟨_, _, rfl⟩
  obtain ⟨g', cap', rfl⟩ : ∃ g cap, v' = .slice g xs.length cap := by
    rcases hs' with ⟨rfl, a, cap, rfl⟩ | ⟨b, off, cap, rfl, hn, hc⟩ <;> exact ⟨_, _, rfl⟩
  have hn := hs.sizes.1
  unfold maxLen at hn
  go_enter Try.func7, Try.ntmps7
  go_wp2
  go_loopw [5] (fun i wr => ∃ k : Nat, k ≤ xs.length ∧ i = .int .i64 k ∧ Below w.heap.size w wr) (fun i _ => xs.length - (intOf i).toNat)
  case atStart => exact ⟨0, Nat.zero_le _, rfl, Below.refl _ _⟩
  case round =>
    obtain ⟨k, hk, rfl, hb⟩ := hrel
    by_cases hlt : k < xs.length
    · rcases hs with ⟨rfl, _⟩ | ⟨b, off, cap1, he, -, hc⟩
      · simp at hlt
      rcases hs' with ⟨rfl, _⟩ | ⟨b', off', cap2, he', -, hc'⟩
      · simp at hlt
      simp only [Value.slice.injEq] at he he'
      obtain ⟨rfl, -, rfl⟩ := he
      obtain ⟨rfl, -, rfl⟩ := he'
      obtain ⟨c0, c1, -, -⟩ := hc k xs[k] (List.getElem?_eq_getElem hlt)
      obtain ⟨d0, d1, -, -⟩ := hc' k xs[k] (List.getElem?_eq_getElem hlt)
      have k0 := (hb.cell (lt_of_cell c0)).trans c0
      have k1 := (hb.cell (lt_of_cell c1)).trans c1
      have l0 := (hb.cell (lt_of_cell d0)).trans d0
      have l1 := (hb.cell (lt_of_cell d1)).trans d1
      generalize xs[k] = p at *
      obtain ⟨x, y⟩ := p
      have HB := hid hb
      have HC := hid hc
      have HC' := hid hc'
      clear hb c0 c1 d0 d1 hc hc'
      go_wp2
      refine wp_region_any (by kernel_rfl) ?_
      change wpAny _ _ _ _ _ _ _ (World.drew _)
      refine wpAny_take (i := 0) (v := .slice (some ⟨b, off, none⟩) xs.length cap) rfl (by kernel_rfl) (by kernel_rfl) (by kernel_rfl) (fun _ _ _ h => h) (Or.inl ⟨by rfl, fun _ => by go_simp⟩) ?_
      refine wpAny_take (i := 1) (v := .int .i64 k) rfl (by kernel_rfl) (by kernel_rfl) (by kernel_rfl) (fun _ _ _ h => h) (Or.inl ⟨by rfl, fun _ => by go_simp⟩) ?_
      refine wpAny_take (i := 2) (v := .pointer (some ⟨b, off + k * 2, none⟩)) rfl (by kernel_rfl) (by kernel_rfl) (by kernel_rfl) (fun _ _ _ h => h) (Or.inl ⟨by rfl, fun _ => by go_simp⟩) ?_
      refine wpAny_take (i := 4) (v := .slice (some ⟨b', off', none⟩) xs.length cap') rfl (by kernel_rfl) (by kernel_rfl) (by kernel_rfl) (fun _ _ _ h => h) (Or.inl ⟨by rfl, fun _ => by go_simp⟩) ?_
      refine wpAny_take (i := 5) (v := .int .i64 k) rfl (by kernel_rfl) (by kernel_rfl) (by kernel_rfl) (fun _ _ _ h => h) (Or.inl ⟨by rfl, fun _ => by go_simp⟩) ?_
      refine wpAny_take (i := 6) (v := .pointer (some ⟨b', off' + k * 2, none⟩)) rfl (by kernel_rfl) (by kernel_rfl) (by kernel_rfl) (fun _ _ _ h => h) (Or.inl ⟨by rfl, fun _ => by go_simp⟩) ?_
      refine wpAny_of_T (S := fun X => X.cell? ⟨b, off + k * 2, none⟩ = some (.string x) ∧ X.cell? ⟨b, off + k * 2 + 1, none⟩ = some (.string y) ∧ X.cell? ⟨b', off' + k * 2, none⟩ = some (.string x) ∧ X.cell? ⟨b', off' + k * 2 + 1, none⟩ = some (.string y)) (m := 10) _ _ _ _ ?_
      refine wpAnyT_take (i := 3) (v := .agg #[.string x, .string y]) rfl (by kernel_rfl) (by kernel_rfl) (by kernel_rfl) (by kernel_rfl) (fun _ _ _ h => h) (Or.inl ⟨by rfl, fun X hS => by obtain ⟨e0, e1, e2, e3⟩ := hS; clear k0 k1 l0 l1; go_simp⟩) ⟨k0, k1, l0, l1⟩ ?_
      refine wpAnyT_take (i := 7) (v := .agg #[.string x, .string y]) rfl (by kernel_rfl) (by kernel_rfl) (by kernel_rfl) (by kernel_rfl) (fun _ _ _ h => h) (Or.inl ⟨by rfl, fun X hS => by obtain ⟨e0, e1, e2, e3⟩ := hS; clear k0 k1 l0 l1; go_simp⟩) ⟨k0, k1, l0, l1⟩ ?_
      refine wpAnyT_one 8 rfl (by kernel_rfl) (fun K hK => ?_)
      go_simp
      refine (eqBinding_same x y _).mono ?_
      rintro e w2 ⟨rfl, hb⟩
      have S2 : w2.cell? ⟨b, off + k * 2, none⟩ = some (.string x) ∧ w2.cell? ⟨b, off + k * 2 + 1, none⟩ = some (.string y) ∧ w2.cell? ⟨b', off' + k * 2, none⟩ = some (.string x) ∧ w2.cell? ⟨b', off' + k * 2 + 1, none⟩ = some (.string y) := ⟨(hb.cell (lt_of_cell k0)).trans k0, (hb.cell (lt_of_cell k1)).trans k1, (hb.cell (lt_of_cell l0)).trans l0, (hb.cell (lt_of_cell l1)).trans l1⟩
      refine hK _ _ (fun _ => S2) ?_
      clear hK K
      refine wpAnyT_one 9 rfl (by kernel_rfl) (fun K hK => ?_)
      go_simp
      refine hK _ _ (fun _ => S2) ?_
      clear hK K
      refine wpAnyT_drop _ 10 _ _ _ (by decide) (by kernel_rfl) ?_
      change wpList _ _ _ [] _ _
      have HB2 : Hid (Below w.heap.size w w2) := hid (HB.out.drew.trans (hb.mono HB.out.size))
      clear hb k0 k1 l0 l1 S2
      go_wp2
      exact ⟨⟨k + 1, by omega, by go_num, HB2.out⟩, by simp [intOf]; omega⟩
    · go_wp2
      go_ret
      exact ⟨rfl, hb⟩

end Go.Proofs.Ytlhildfiddphcaa
