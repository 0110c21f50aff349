/- BindingsValid of both sides. Conditions: those typed.  -/
import Derived.Test.YtaapdhacnbhohaaBindS
import Derived.Test.YtaapdhacnbhohaaVar
import Derived.Test.YtaapdhacnbhohaaImplT
import Derived.Test.YtaapdhacnbhohaaL1Read
import Derived.Test.YtaapdhacnbhohaaStrOrd
import Derived.Deep.QuietTactic
import Derived.BigQuiet
set_option linter.unusedVariables false
set_option linter.unusedSimpArgs false
set_option maxRecDepth 100000
namespace Go.Proofs.Ytaapdhacnbhohaa
open Go.RowKit Ty

/-- the binding with number i is as it must be -/
def good (xs : List BB) (i : Nat) : Prop := ∃ (c : UInt8) (y : ByteArray), xs[i]? = some (⟨#[c]⟩, y) ∧ isV c = true ∧ (ty y.data.toList).isSome = true ∧ ∀ j, i = j + 1 → ∃ (d : UInt8) (z : ByteArray), xs[j]? = some (⟨#[d]⟩, z) ∧ d.toNat < c.toNat
open Classical in
/-- what BindingsValid returns -/
noncomputable def bvB (xs : List BB) : Bool := decide (∀ i, i < xs.length → good xs i)
open Classical in
theorem bvB_no {xs : List BB} {i : Nat} (h : i < xs.length) (hg : ¬ good xs i) : bvB xs = false := by
  unfold bvB; exact decide_eq_false fun h2 => hg (h2 i h)
open Classical in
theorem bvB_yes {xs : List BB} (h : ∀ i, i < xs.length → good xs i) : bvB xs = true := by
  unfold bvB; exact decide_eq_true h

set_option maxHeartbeats 16000000 in
theorem BindingsValid_impl (v : Value) (xs : List BB) (w : World) (h0 : tot xs + xs.length ≤ 1048576) (hs : SP w v xs) :
    Calls Try.prog 35 #[v] w fun e w' => e = .returned (.bool (bvB xs)) ∧ Below w.heap.size w w' := by
  have hbd : ∀ (i : Nat) (p : BB), xs[i]? = some p → p.1.size ≤ 1048576 ∧ p.2.size ≤ 1048576 := fun i p hp => by
    have h1 := tot_take xs i p hp
    have h2 := tot_le xs (i + 1)
    omega
  obtain ⟨g, c, rfl⟩ : ∃ g c, v = .slice g xs.length c := by
    rcases hs with ⟨rfl, a, cap, rfl⟩ | ⟨b, off, cap, rfl, hn, hc⟩ <;> exact ⟨_, _, rfl⟩
  go_enter Try.func35, Try.ntmps35
  go_wp2
  go_loopw [7] (fun i wr => ∃ k : Nat, k ≤ xs.length ∧ i = .int .i64 k ∧ Hid (∀ j, j < k → good xs j) ∧ Below w.heap.size w wr) (fun i _ => xs.length - (intOf i).toNat)
  case atStart => exact ⟨0, Nat.zero_le _, rfl, (fun j h => by omega), Below.refl _ _⟩
  case round =>
    obtain ⟨k, hk, rfl, hgood, hb⟩ := hrel
    by_cases hlt : k < xs.length
    · rcases hs with ⟨rfl, _⟩ | ⟨bk, off, cap, he, hn, hc⟩
      · simp at hlt
      simp only [Value.slice.injEq] at he
      obtain ⟨rfl, -, rfl⟩ := he
      have hget := List.getElem?_eq_getElem hlt
      obtain ⟨c0, c1, -, -⟩ := hc k xs[k] hget
      have k0 := (hb.cell (lt_of_cell c0)).trans c0
      have k1 := (hb.cell (lt_of_cell c1)).trans c1
      have hsz := hbd k xs[k] hget
      have HB := hid hb
      have HC := hid hc
      have HG := hid hget
      have HBD := hid hbd
      generalize xs[k] = p at *
      obtain ⟨x, y⟩ := p
      obtain ⟨l, rfl, hxl⟩ : ∃ l : List UInt8, x = ⟨l.toArray⟩ ∧ x.size = l.length := ⟨x.data.toList, rfl, by simp⟩
      obtain ⟨t, rfl, hyl⟩ : ∃ l : List UInt8, y = ⟨l.toArray⟩ ∧ y.size = l.length := ⟨y.data.toList, rfl, by simp⟩
      simp only at hsz
      have hl1 : l.length ≤ 1048576 := by omega
      have hl2 : t.length ≤ 1048576 := by omega
      clear hb hc c0 c1 hget hsz hxl hyl hbd
      cases hv : isVarL l with
      | false =>
        have HV := hid hv
        have HR : Hid (bvB xs = false) := bvB_no hlt fun ⟨c, y, h1, h2, _⟩ => by
          rw [HG.out] at h1
          simp only [Option.some.injEq, Prod.mk.injEq, ByteArray.mk.injEq] at h1
          have : l = [c] := by simpa using h1.1
          subst this
          simp [isVarL, h2] at hv
        clear hv
        go_wp2
        refine wp_region_any (by kernel_rfl) ?_
        change wpAny _ _ _ _ _ _ _ (World.drew _)
        have SX : (wr.alloc (.cells #[.string ⟨l.toArray⟩, .string ⟨t.toArray⟩] 46)).drew.cell? ⟨wr.heap.size, 0, none⟩ = some (.string ⟨l.toArray⟩) ∧ (wr.alloc (.cells #[.string ⟨l.toArray⟩, .string ⟨t.toArray⟩] 46)).drew.cell? ⟨wr.heap.size, 1, none⟩ = some (.string ⟨t.toArray⟩) := ⟨heap_cell (heap_alloc_new wr _) 0, heap_cell (heap_alloc_new wr _) 1⟩
        refine wpAny_of_T (S := fun X => X.cell? ⟨wr.heap.size, 0, none⟩ = some (.string ⟨l.toArray⟩) ∧ X.cell? ⟨wr.heap.size, 1, none⟩ = some (.string ⟨t.toArray⟩)) (m := 25) _ _ _ _ ?_
        refine wpAnyT_take (i := 0) (v := .pointer (some ⟨wr.heap.size, 0, none⟩)) rfl (by kernel_rfl) (by kernel_rfl) (by kernel_rfl) (by kernel_rfl) (fun _ _ _ h => h) (Or.inl ⟨by kernel_rfl, fun X hS => by obtain ⟨e0, e1⟩ := hS; go_simp⟩) SX ?_
        try go_simp
        refine wpAnyT_take (i := 1) (v := .string ⟨l.toArray⟩) rfl (by kernel_rfl) (by kernel_rfl) (by kernel_rfl) (by kernel_rfl) (fun _ _ _ h => h) (Or.inl ⟨by kernel_rfl, fun X hS => by obtain ⟨e0, e1⟩ := hS; go_simp⟩) SX ?_
        try go_simp
        refine wpAnyT_one 2 rfl (by kernel_rfl) (fun K hK => ?_)
        go_simp
        refine (isVar_impl l _ (by omega)).mono ?_
        rintro e w' ⟨rfl, rfl⟩
        rw [HV.out]
        refine hK _ _ (fun _ => SX) ?_
        clear hK K
        refine wpAnyT_take (i := 3) (v := .bool true) rfl (by kernel_rfl) (by kernel_rfl) (by kernel_rfl) (by kernel_rfl) (fun _ _ _ h => h) (Or.inl ⟨by kernel_rfl, fun X hS => by obtain ⟨e0, e1⟩ := hS; go_simp⟩) SX ?_
        try go_simp
        refine wpAnyT_take (i := 4) (v := .bool true) rfl (by kernel_rfl) (by kernel_rfl) (by kernel_rfl) (by kernel_rfl) (fun _ _ _ h => h) (Or.inl ⟨by kernel_rfl, fun X hS => by obtain ⟨e0, e1⟩ := hS; go_simp⟩) SX ?_
        try go_simp
        refine wpAnyT_take (i := 5) (v := undef) rfl (by kernel_rfl) (by kernel_rfl) (by kernel_rfl) (by kernel_rfl) (fun _ _ _ h => h) (Or.inr ⟨by kernel_rfl, rfl⟩) SX ?_
        try go_simp
        refine wpAnyT_take (i := 6) (v := undef) rfl (by kernel_rfl) (by kernel_rfl) (by kernel_rfl) (by kernel_rfl) (fun _ _ _ h => h) (Or.inr ⟨by kernel_rfl, rfl⟩) SX ?_
        try go_simp
        refine wpAnyT_take (i := 7) (v := undef) rfl (by kernel_rfl) (by kernel_rfl) (by kernel_rfl) (by kernel_rfl) (fun _ _ _ h => h) (Or.inr ⟨by kernel_rfl, rfl⟩) SX ?_
        try go_simp
        refine wpAnyT_take (i := 8) (v := undef) rfl (by kernel_rfl) (by kernel_rfl) (by kernel_rfl) (by kernel_rfl) (fun _ _ _ h => h) (Or.inr ⟨by kernel_rfl, rfl⟩) SX ?_
        try go_simp
        refine wpAnyT_take (i := 9) (v := .bool true) rfl (by kernel_rfl) (by kernel_rfl) (by kernel_rfl) (by kernel_rfl) (fun _ _ _ h => h) (Or.inl ⟨by kernel_rfl, fun X hS => by obtain ⟨e0, e1⟩ := hS; go_simp⟩) SX ?_
        try go_simp
        refine wpAnyT_take (i := 10) (v := .bool true) rfl (by kernel_rfl) (by kernel_rfl) (by kernel_rfl) (by kernel_rfl) (fun _ _ _ h => h) (Or.inl ⟨by kernel_rfl, fun X hS => by obtain ⟨e0, e1⟩ := hS; go_simp⟩) SX ?_
        try go_simp
        refine wpAnyT_take (i := 11) (v := undef) rfl (by kernel_rfl) (by kernel_rfl) (by kernel_rfl) (by kernel_rfl) (fun _ _ _ h => h) (Or.inr ⟨by kernel_rfl, rfl⟩) SX ?_
        try go_simp
        refine wpAnyT_take (i := 12) (v := undef) rfl (by kernel_rfl) (by kernel_rfl) (by kernel_rfl) (by kernel_rfl) (fun _ _ _ h => h) (Or.inr ⟨by kernel_rfl, rfl⟩) SX ?_
        try go_simp
        refine wpAnyT_take (i := 13) (v := undef) rfl (by kernel_rfl) (by kernel_rfl) (by kernel_rfl) (by kernel_rfl) (fun _ _ _ h => h) (Or.inr ⟨by kernel_rfl, rfl⟩) SX ?_
        try go_simp
        refine wpAnyT_take (i := 14) (v := undef) rfl (by kernel_rfl) (by kernel_rfl) (by kernel_rfl) (by kernel_rfl) (fun _ _ _ h => h) (Or.inr ⟨by kernel_rfl, rfl⟩) SX ?_
        try go_simp
        refine wpAnyT_take (i := 15) (v := undef) rfl (by kernel_rfl) (by kernel_rfl) (by kernel_rfl) (by kernel_rfl) (fun _ _ _ h => h) (Or.inr ⟨by kernel_rfl, rfl⟩) SX ?_
        try go_simp
        refine wpAnyT_take (i := 16) (v := undef) rfl (by kernel_rfl) (by kernel_rfl) (by kernel_rfl) (by kernel_rfl) (fun _ _ _ h => h) (Or.inr ⟨by kernel_rfl, rfl⟩) SX ?_
        try go_simp
        refine wpAnyT_take (i := 17) (v := undef) rfl (by kernel_rfl) (by kernel_rfl) (by kernel_rfl) (by kernel_rfl) (fun _ _ _ h => h) (Or.inr ⟨by kernel_rfl, rfl⟩) SX ?_
        try go_simp
        refine wpAnyT_take (i := 18) (v := undef) rfl (by kernel_rfl) (by kernel_rfl) (by kernel_rfl) (by kernel_rfl) (fun _ _ _ h => h) (Or.inr ⟨by kernel_rfl, rfl⟩) SX ?_
        try go_simp
        refine wpAnyT_take (i := 19) (v := undef) rfl (by kernel_rfl) (by kernel_rfl) (by kernel_rfl) (by kernel_rfl) (fun _ _ _ h => h) (Or.inr ⟨by kernel_rfl, rfl⟩) SX ?_
        try go_simp
        refine wpAnyT_take (i := 20) (v := undef) rfl (by kernel_rfl) (by kernel_rfl) (by kernel_rfl) (by kernel_rfl) (fun _ _ _ h => h) (Or.inr ⟨by kernel_rfl, rfl⟩) SX ?_
        try go_simp
        refine wpAnyT_take (i := 21) (v := undef) rfl (by kernel_rfl) (by kernel_rfl) (by kernel_rfl) (by kernel_rfl) (fun _ _ _ h => h) (Or.inr ⟨by kernel_rfl, rfl⟩) SX ?_
        try go_simp
        refine wpAnyT_take (i := 22) (v := undef) rfl (by kernel_rfl) (by kernel_rfl) (by kernel_rfl) (by kernel_rfl) (fun _ _ _ h => h) (Or.inr ⟨by kernel_rfl, rfl⟩) SX ?_
        try go_simp
        refine wpAnyT_take (i := 23) (v := undef) rfl (by kernel_rfl) (by kernel_rfl) (by kernel_rfl) (by kernel_rfl) (fun _ _ _ h => h) (Or.inr ⟨by kernel_rfl, rfl⟩) SX ?_
        try go_simp
        refine wpAnyT_take (i := 24) (v := .bool true) rfl (by kernel_rfl) (by kernel_rfl) (by kernel_rfl) (by kernel_rfl) (fun _ _ _ h => h) (Or.inl ⟨by kernel_rfl, fun X hS => by obtain ⟨e0, e1⟩ := hS; go_simp⟩) SX ?_
        try go_simp
        refine wpAnyT_drop _ 25 _ _ _ (by decide) (by kernel_rfl) ?_
        change wpList _ _ _ [] _ _
        go_wp2
        go_ret
        exact ⟨ret_bool HR.out.symm, (HB.out.alloc HB.out.size _).drew⟩
      | true =>
        cases ht : (ty t).isSome with
        | false =>
          have HV := hid hv
          have HT := hid ht
          have HR : Hid (bvB xs = false) := bvB_no hlt fun ⟨c, y, h1, _, h2, _⟩ => by
            rw [HG.out] at h1
            simp only [Option.some.injEq, Prod.mk.injEq] at h1
            rw [← h1.2] at h2
            exact absurd (ht.symm.trans h2) (by simp)
          clear hv ht
          go_wp2
          refine wp_region_any (by kernel_rfl) ?_
          change wpAny _ _ _ _ _ _ _ (World.drew _)
          have SX : (wr.alloc (.cells #[.string ⟨l.toArray⟩, .string ⟨t.toArray⟩] 46)).drew.cell? ⟨wr.heap.size, 0, none⟩ = some (.string ⟨l.toArray⟩) ∧ (wr.alloc (.cells #[.string ⟨l.toArray⟩, .string ⟨t.toArray⟩] 46)).drew.cell? ⟨wr.heap.size, 1, none⟩ = some (.string ⟨t.toArray⟩) := ⟨heap_cell (heap_alloc_new wr _) 0, heap_cell (heap_alloc_new wr _) 1⟩
          refine wpAny_of_T (S := fun X => X.cell? ⟨wr.heap.size, 0, none⟩ = some (.string ⟨l.toArray⟩) ∧ X.cell? ⟨wr.heap.size, 1, none⟩ = some (.string ⟨t.toArray⟩)) (m := 25) _ _ _ _ ?_
          refine wpAnyT_take (i := 0) (v := .pointer (some ⟨wr.heap.size, 0, none⟩)) rfl (by kernel_rfl) (by kernel_rfl) (by kernel_rfl) (by kernel_rfl) (fun _ _ _ h => h) (Or.inl ⟨by kernel_rfl, fun X hS => by obtain ⟨e0, e1⟩ := hS; go_simp⟩) SX ?_
          try go_simp
          refine wpAnyT_take (i := 1) (v := .string ⟨l.toArray⟩) rfl (by kernel_rfl) (by kernel_rfl) (by kernel_rfl) (by kernel_rfl) (fun _ _ _ h => h) (Or.inl ⟨by kernel_rfl, fun X hS => by obtain ⟨e0, e1⟩ := hS; go_simp⟩) SX ?_
          try go_simp
          refine wpAnyT_one 2 rfl (by kernel_rfl) (fun K hK => ?_)
          go_simp
          refine (isVar_impl l _ (by omega)).mono ?_
          rintro e w' ⟨rfl, rfl⟩
          rw [HV.out]
          refine hK _ _ (fun _ => SX) ?_
          clear hK K
          refine wpAnyT_take (i := 3) (v := .bool false) rfl (by kernel_rfl) (by kernel_rfl) (by kernel_rfl) (by kernel_rfl) (fun _ _ _ h => h) (Or.inl ⟨by kernel_rfl, fun X hS => by obtain ⟨e0, e1⟩ := hS; go_simp⟩) SX ?_
          try go_simp
          refine wpAnyT_take (i := 4) (v := .bool false) rfl (by kernel_rfl) (by kernel_rfl) (by kernel_rfl) (by kernel_rfl) (fun _ _ _ h => h) (Or.inl ⟨by kernel_rfl, fun X hS => by obtain ⟨e0, e1⟩ := hS; go_simp⟩) SX ?_
          try go_simp
          refine wpAnyT_take (i := 5) (v := .pointer (some ⟨wr.heap.size, 1, none⟩)) rfl (by kernel_rfl) (by kernel_rfl) (by kernel_rfl) (by kernel_rfl) (fun _ _ _ h => h) (Or.inl ⟨by kernel_rfl, fun X hS => by obtain ⟨e0, e1⟩ := hS; go_simp⟩) SX ?_
          try go_simp
          refine wpAnyT_take (i := 6) (v := .string ⟨t.toArray⟩) rfl (by kernel_rfl) (by kernel_rfl) (by kernel_rfl) (by kernel_rfl) (fun _ _ _ h => h) (Or.inl ⟨by kernel_rfl, fun X hS => by obtain ⟨e0, e1⟩ := hS; go_simp⟩) SX ?_
          try go_simp
          refine wpAnyT_one 7 rfl (by kernel_rfl) (fun K hK => ?_)
          go_simp
          refine (TypeValid_impl t _ (by unfold maxLen; omega)).mono ?_
          rintro e w1 ⟨rfl, hb⟩
          have B1 : Hid (Below w.heap.size w w1) := (((HB.out.alloc HB.out.size (.cells #[.string ⟨l.toArray⟩, .string ⟨t.toArray⟩] 46)).drew).trans (hb.mono (by show w.heap.size ≤ (wr.alloc (.cells #[.string ⟨l.toArray⟩, .string ⟨t.toArray⟩] 46)).heap.size; have := HB.out.size; simp; omega)))
          have SY : w1.cell? ⟨wr.heap.size, 0, none⟩ = some (.string ⟨l.toArray⟩) ∧ w1.cell? ⟨wr.heap.size, 1, none⟩ = some (.string ⟨t.toArray⟩) := ⟨(hb.cell (lt_of_cell SX.1)).trans SX.1, (hb.cell (lt_of_cell SX.2)).trans SX.2⟩
          clear hb
          rw [HT.out]
          refine hK _ _ (fun _ => SY) ?_
          clear hK K
          refine wpAnyT_take (i := 8) (v := .bool true) rfl (by kernel_rfl) (by kernel_rfl) (by kernel_rfl) (by kernel_rfl) (fun _ _ _ h => h) (Or.inl ⟨by kernel_rfl, fun X hS => by obtain ⟨e0, e1⟩ := hS; go_simp⟩) SY ?_
          try go_simp
          refine wpAnyT_take (i := 9) (v := .bool true) rfl (by kernel_rfl) (by kernel_rfl) (by kernel_rfl) (by kernel_rfl) (fun _ _ _ h => h) (Or.inl ⟨by kernel_rfl, fun X hS => by obtain ⟨e0, e1⟩ := hS; go_simp⟩) SY ?_
          try go_simp
          refine wpAnyT_take (i := 10) (v := .bool true) rfl (by kernel_rfl) (by kernel_rfl) (by kernel_rfl) (by kernel_rfl) (fun _ _ _ h => h) (Or.inl ⟨by kernel_rfl, fun X hS => by obtain ⟨e0, e1⟩ := hS; go_simp⟩) SY ?_
          try go_simp
          refine wpAnyT_take (i := 11) (v := undef) rfl (by kernel_rfl) (by kernel_rfl) (by kernel_rfl) (by kernel_rfl) (fun _ _ _ h => h) (Or.inr ⟨by kernel_rfl, rfl⟩) SY ?_
          try go_simp
          refine wpAnyT_take (i := 12) (v := undef) rfl (by kernel_rfl) (by kernel_rfl) (by kernel_rfl) (by kernel_rfl) (fun _ _ _ h => h) (Or.inr ⟨by kernel_rfl, rfl⟩) SY ?_
          try go_simp
          refine wpAnyT_take (i := 13) (v := undef) rfl (by kernel_rfl) (by kernel_rfl) (by kernel_rfl) (by kernel_rfl) (fun _ _ _ h => h) (Or.inr ⟨by kernel_rfl, rfl⟩) SY ?_
          try go_simp
          refine wpAnyT_take (i := 14) (v := undef) rfl (by kernel_rfl) (by kernel_rfl) (by kernel_rfl) (by kernel_rfl) (fun _ _ _ h => h) (Or.inr ⟨by kernel_rfl, rfl⟩) SY ?_
          try go_simp
          refine wpAnyT_take (i := 15) (v := undef) rfl (by kernel_rfl) (by kernel_rfl) (by kernel_rfl) (by kernel_rfl) (fun _ _ _ h => h) (Or.inr ⟨by kernel_rfl, rfl⟩) SY ?_
          try go_simp
          refine wpAnyT_take (i := 16) (v := undef) rfl (by kernel_rfl) (by kernel_rfl) (by kernel_rfl) (by kernel_rfl) (fun _ _ _ h => h) (Or.inr ⟨by kernel_rfl, rfl⟩) SY ?_
          try go_simp
          refine wpAnyT_take (i := 17) (v := undef) rfl (by kernel_rfl) (by kernel_rfl) (by kernel_rfl) (by kernel_rfl) (fun _ _ _ h => h) (Or.inr ⟨by kernel_rfl, rfl⟩) SY ?_
          try go_simp
          refine wpAnyT_take (i := 18) (v := undef) rfl (by kernel_rfl) (by kernel_rfl) (by kernel_rfl) (by kernel_rfl) (fun _ _ _ h => h) (Or.inr ⟨by kernel_rfl, rfl⟩) SY ?_
          try go_simp
          refine wpAnyT_take (i := 19) (v := undef) rfl (by kernel_rfl) (by kernel_rfl) (by kernel_rfl) (by kernel_rfl) (fun _ _ _ h => h) (Or.inr ⟨by kernel_rfl, rfl⟩) SY ?_
          try go_simp
          refine wpAnyT_take (i := 20) (v := undef) rfl (by kernel_rfl) (by kernel_rfl) (by kernel_rfl) (by kernel_rfl) (fun _ _ _ h => h) (Or.inr ⟨by kernel_rfl, rfl⟩) SY ?_
          try go_simp
          refine wpAnyT_take (i := 21) (v := undef) rfl (by kernel_rfl) (by kernel_rfl) (by kernel_rfl) (by kernel_rfl) (fun _ _ _ h => h) (Or.inr ⟨by kernel_rfl, rfl⟩) SY ?_
          try go_simp
          refine wpAnyT_take (i := 22) (v := undef) rfl (by kernel_rfl) (by kernel_rfl) (by kernel_rfl) (by kernel_rfl) (fun _ _ _ h => h) (Or.inr ⟨by kernel_rfl, rfl⟩) SY ?_
          try go_simp
          refine wpAnyT_take (i := 23) (v := undef) rfl (by kernel_rfl) (by kernel_rfl) (by kernel_rfl) (by kernel_rfl) (fun _ _ _ h => h) (Or.inr ⟨by kernel_rfl, rfl⟩) SY ?_
          try go_simp
          refine wpAnyT_take (i := 24) (v := .bool true) rfl (by kernel_rfl) (by kernel_rfl) (by kernel_rfl) (by kernel_rfl) (fun _ _ _ h => h) (Or.inl ⟨by kernel_rfl, fun X hS => by obtain ⟨e0, e1⟩ := hS; go_simp⟩) SY ?_
          try go_simp
          refine wpAnyT_drop _ 25 _ _ _ (by decide) (by kernel_rfl) ?_
          change wpList _ _ _ [] _ _
          go_wp2
          go_ret
          exact ⟨ret_bool HR.out.symm, B1.out⟩
        | true =>
          obtain ⟨cc, rfl⟩ : ∃ c, l = [c] := by
            match l, hv with
            | [c], _ => exact ⟨c, rfl⟩
          have HV := hid hv
          have HT := hid ht
          have hv2 : Hid (isV cc = true) := hv
          clear hv ht
          match k, hk, hlt, hgood, k0, k1, HG with
          | 0, hk, hlt, hgood, k0, k1, HG =>
            have HN : Hid (∀ j, j < 0 + 1 → good xs j) := fun j hj => by
              obtain rfl : j = 0 := by omega
              exact ⟨cc, _, HG.out, hv2.out, HT.out, fun j h => by omega⟩
            clear hgood
            simp only [Nat.zero_mul, Nat.add_zero] at k0 k1
            go_wp2
            refine wp_region_any (by kernel_rfl) ?_
            change wpAny _ _ _ _ _ _ _ (World.drew _)
            have SX : (wr.alloc (.cells #[.string ⟨#[cc]⟩, .string ⟨t.toArray⟩] 46)).drew.cell? ⟨wr.heap.size, 0, none⟩ = some (.string ⟨#[cc]⟩) ∧ (wr.alloc (.cells #[.string ⟨#[cc]⟩, .string ⟨t.toArray⟩] 46)).drew.cell? ⟨wr.heap.size, 1, none⟩ = some (.string ⟨t.toArray⟩) := ⟨heap_cell (heap_alloc_new wr _) 0, heap_cell (heap_alloc_new wr _) 1⟩
            refine wpAny_of_T (S := fun X => X.cell? ⟨wr.heap.size, 0, none⟩ = some (.string ⟨#[cc]⟩) ∧ X.cell? ⟨wr.heap.size, 1, none⟩ = some (.string ⟨t.toArray⟩)) (m := 25) _ _ _ _ ?_
            refine wpAnyT_take (i := 0) (v := .pointer (some ⟨wr.heap.size, 0, none⟩)) rfl (by kernel_rfl) (by kernel_rfl) (by kernel_rfl) (by kernel_rfl) (fun _ _ _ h => h) (Or.inl ⟨by kernel_rfl, fun X hS => by obtain ⟨e0, e1⟩ := hS; go_simp⟩) SX ?_
            try go_simp
            refine wpAnyT_take (i := 1) (v := .string ⟨#[cc]⟩) rfl (by kernel_rfl) (by kernel_rfl) (by kernel_rfl) (by kernel_rfl) (fun _ _ _ h => h) (Or.inl ⟨by kernel_rfl, fun X hS => by obtain ⟨e0, e1⟩ := hS; go_simp⟩) SX ?_
            try go_simp
            refine wpAnyT_one 2 rfl (by kernel_rfl) (fun K hK => ?_)
            go_simp
            refine (isVar_impl [cc] _ (by simp)).mono ?_
            rintro e w' ⟨rfl, rfl⟩
            rw [HV.out]
            refine hK _ _ (fun _ => SX) ?_
            clear hK K
            refine wpAnyT_take (i := 3) (v := .bool false) rfl (by kernel_rfl) (by kernel_rfl) (by kernel_rfl) (by kernel_rfl) (fun _ _ _ h => h) (Or.inl ⟨by kernel_rfl, fun X hS => by obtain ⟨e0, e1⟩ := hS; go_simp⟩) SX ?_
            try go_simp
            refine wpAnyT_take (i := 4) (v := .bool false) rfl (by kernel_rfl) (by kernel_rfl) (by kernel_rfl) (by kernel_rfl) (fun _ _ _ h => h) (Or.inl ⟨by kernel_rfl, fun X hS => by obtain ⟨e0, e1⟩ := hS; go_simp⟩) SX ?_
            try go_simp
            refine wpAnyT_take (i := 5) (v := .pointer (some ⟨wr.heap.size, 1, none⟩)) rfl (by kernel_rfl) (by kernel_rfl) (by kernel_rfl) (by kernel_rfl) (fun _ _ _ h => h) (Or.inl ⟨by kernel_rfl, fun X hS => by obtain ⟨e0, e1⟩ := hS; go_simp⟩) SX ?_
            try go_simp
            refine wpAnyT_take (i := 6) (v := .string ⟨t.toArray⟩) rfl (by kernel_rfl) (by kernel_rfl) (by kernel_rfl) (by kernel_rfl) (fun _ _ _ h => h) (Or.inl ⟨by kernel_rfl, fun X hS => by obtain ⟨e0, e1⟩ := hS; go_simp⟩) SX ?_
            try go_simp
            refine wpAnyT_one 7 rfl (by kernel_rfl) (fun K hK => ?_)
            go_simp
            refine (TypeValid_impl t _ (by unfold maxLen; omega)).mono ?_
            rintro e w1 ⟨rfl, hb⟩
            have B1 : Hid (Below w.heap.size w w1) := (((HB.out.alloc HB.out.size (.cells #[.string ⟨#[cc]⟩, .string ⟨t.toArray⟩] 46)).drew).trans (hb.mono (by show w.heap.size ≤ (wr.alloc (.cells #[.string ⟨#[cc]⟩, .string ⟨t.toArray⟩] 46)).heap.size; have := HB.out.size; simp; omega)))
            have SY : w1.cell? ⟨wr.heap.size, 0, none⟩ = some (.string ⟨#[cc]⟩) ∧ w1.cell? ⟨wr.heap.size, 1, none⟩ = some (.string ⟨t.toArray⟩) := ⟨(hb.cell (lt_of_cell SX.1)).trans SX.1, (hb.cell (lt_of_cell SX.2)).trans SX.2⟩
            clear hb
            rw [HT.out]
            refine hK _ _ (fun _ => SY) ?_
            clear hK K
            refine wpAnyT_take (i := 8) (v := .bool false) rfl (by kernel_rfl) (by kernel_rfl) (by kernel_rfl) (by kernel_rfl) (fun _ _ _ h => h) (Or.inl ⟨by kernel_rfl, fun X hS => by obtain ⟨e0, e1⟩ := hS; go_simp⟩) SY ?_
            try go_simp
            refine wpAnyT_take (i := 9) (v := .bool false) rfl (by kernel_rfl) (by kernel_rfl) (by kernel_rfl) (by kernel_rfl) (fun _ _ _ h => h) (Or.inl ⟨by kernel_rfl, fun X hS => by obtain ⟨e0, e1⟩ := hS; go_simp⟩) SY ?_
            try go_simp
            refine wpAnyT_take (i := 10) (v := .bool false) rfl (by kernel_rfl) (by kernel_rfl) (by kernel_rfl) (by kernel_rfl) (fun _ _ _ h => h) (Or.inl ⟨by kernel_rfl, fun X hS => by obtain ⟨e0, e1⟩ := hS; go_simp⟩) SY ?_
            try go_simp
            refine wpAnyT_take (i := 11) (v := .int .i64 0) rfl (by kernel_rfl) (by kernel_rfl) (by kernel_rfl) (by kernel_rfl) (fun _ _ _ h => h) (Or.inl ⟨by kernel_rfl, fun X hS => by obtain ⟨e0, e1⟩ := hS; go_simp⟩) SY ?_
            try go_simp
            refine wpAnyT_take (i := 12) (v := .bool false) rfl (by kernel_rfl) (by kernel_rfl) (by kernel_rfl) (by kernel_rfl) (fun _ _ _ h => h) (Or.inl ⟨by kernel_rfl, fun X hS => by obtain ⟨e0, e1⟩ := hS; go_simp⟩) SY ?_
            try go_simp
            refine wpAnyT_take (i := 13) (v := .bool false) rfl (by kernel_rfl) (by kernel_rfl) (by kernel_rfl) (by kernel_rfl) (fun _ _ _ h => h) (Or.inl ⟨by kernel_rfl, fun X hS => by obtain ⟨e0, e1⟩ := hS; go_simp⟩) SY ?_
            try go_simp
            refine wpAnyT_take (i := 14) (v := undef) rfl (by kernel_rfl) (by kernel_rfl) (by kernel_rfl) (by kernel_rfl) (fun _ _ _ h => h) (Or.inr ⟨by kernel_rfl, rfl⟩) SY ?_
            try go_simp
            refine wpAnyT_take (i := 15) (v := undef) rfl (by kernel_rfl) (by kernel_rfl) (by kernel_rfl) (by kernel_rfl) (fun _ _ _ h => h) (Or.inr ⟨by kernel_rfl, rfl⟩) SY ?_
            try go_simp
            refine wpAnyT_take (i := 16) (v := undef) rfl (by kernel_rfl) (by kernel_rfl) (by kernel_rfl) (by kernel_rfl) (fun _ _ _ h => h) (Or.inr ⟨by kernel_rfl, rfl⟩) SY ?_
            try go_simp
            refine wpAnyT_take (i := 17) (v := undef) rfl (by kernel_rfl) (by kernel_rfl) (by kernel_rfl) (by kernel_rfl) (fun _ _ _ h => h) (Or.inr ⟨by kernel_rfl, rfl⟩) SY ?_
            try go_simp
            refine wpAnyT_take (i := 18) (v := undef) rfl (by kernel_rfl) (by kernel_rfl) (by kernel_rfl) (by kernel_rfl) (fun _ _ _ h => h) (Or.inr ⟨by kernel_rfl, rfl⟩) SY ?_
            try go_simp
            refine wpAnyT_take (i := 19) (v := undef) rfl (by kernel_rfl) (by kernel_rfl) (by kernel_rfl) (by kernel_rfl) (fun _ _ _ h => h) (Or.inr ⟨by kernel_rfl, rfl⟩) SY ?_
            try go_simp
            refine wpAnyT_take (i := 20) (v := undef) rfl (by kernel_rfl) (by kernel_rfl) (by kernel_rfl) (by kernel_rfl) (fun _ _ _ h => h) (Or.inr ⟨by kernel_rfl, rfl⟩) SY ?_
            try go_simp
            refine wpAnyT_take (i := 21) (v := undef) rfl (by kernel_rfl) (by kernel_rfl) (by kernel_rfl) (by kernel_rfl) (fun _ _ _ h => h) (Or.inr ⟨by kernel_rfl, rfl⟩) SY ?_
            try go_simp
            refine wpAnyT_take (i := 22) (v := undef) rfl (by kernel_rfl) (by kernel_rfl) (by kernel_rfl) (by kernel_rfl) (fun _ _ _ h => h) (Or.inr ⟨by kernel_rfl, rfl⟩) SY ?_
            try go_simp
            refine wpAnyT_take (i := 23) (v := .bool false) rfl (by kernel_rfl) (by kernel_rfl) (by kernel_rfl) (by kernel_rfl) (fun _ _ _ h => h) (Or.inl ⟨by kernel_rfl, fun X hS => by obtain ⟨e0, e1⟩ := hS; go_simp⟩) SY ?_
            try go_simp
            refine wpAnyT_take (i := 24) (v := .bool false) rfl (by kernel_rfl) (by kernel_rfl) (by kernel_rfl) (by kernel_rfl) (fun _ _ _ h => h) (Or.inl ⟨by kernel_rfl, fun X hS => by obtain ⟨e0, e1⟩ := hS; go_simp⟩) SY ?_
            try go_simp
            refine wpAnyT_drop _ 25 _ _ _ (by decide) (by kernel_rfl) ?_
            change wpList _ _ _ [] _ _
            go_wp2
            exact ⟨⟨1, by omega, rfl, HN.out, B1.out⟩, by simp [intOf]; omega⟩
          | j + 1, hk, hlt, hgood, k0, k1, HG =>
            obtain ⟨d, z, hd, hdv, -, -⟩ := hgood.out j (by omega)
            have kp := (HB.out.cell (lt_of_cell (HC.out j _ hd).1)).trans (HC.out j _ hd).1
            have HD := hid hd
            have HGD := hid hgood.out
            have hjb : j + 1 < xs.length := hlt
            clear hd hdv hgood
            by_cases hlt2 : d.toNat < cc.toNat
            · have HN : Hid (∀ i, i < j + 1 + 1 → good xs i) := fun i hi => by
                by_cases e : i < j + 1
                · exact HGD.out i e
                · obtain rfl : i = j + 1 := by omega
                  exact ⟨cc, _, HG.out, hv2.out, HT.out, fun q hq => by obtain rfl : q = j := by omega
                                                                        exact ⟨d, z, HD.out, hlt2⟩⟩
              have hdec : decide (cc.toNat ≤ d.toNat) = false := decide_eq_false (by omega)
              have HDEC := hid hdec
              clear hlt2 hdec
              go_wp2
              refine wp_region_any (by kernel_rfl) ?_
              change wpAny _ _ _ _ _ _ _ (World.drew _)
              have kpA : (wr.alloc (.cells #[.string ⟨#[cc]⟩, .string ⟨t.toArray⟩] 46)).drew.cell? ⟨bk, off + j * 2, none⟩ = some (.string ⟨#[d]⟩) := by
                have h := (((Below.refl wr.heap.size wr).alloc (Nat.le_refl _) (.cells #[.string ⟨#[cc]⟩, .string ⟨t.toArray⟩] 46)).cell (lt_of_cell kp)).trans kp
                exact h
              clear kp
              have SX : (wr.alloc (.cells #[.string ⟨#[cc]⟩, .string ⟨t.toArray⟩] 46)).drew.cell? ⟨wr.heap.size, 0, none⟩ = some (.string ⟨#[cc]⟩) ∧ (wr.alloc (.cells #[.string ⟨#[cc]⟩, .string ⟨t.toArray⟩] 46)).drew.cell? ⟨wr.heap.size, 1, none⟩ = some (.string ⟨t.toArray⟩) ∧ (wr.alloc (.cells #[.string ⟨#[cc]⟩, .string ⟨t.toArray⟩] 46)).drew.cell? ⟨bk, off + j * 2, none⟩ = some (.string ⟨#[d]⟩) := ⟨heap_cell (heap_alloc_new wr _) 0, heap_cell (heap_alloc_new wr _) 1, kpA⟩
              refine wpAny_of_T (S := fun X => X.cell? ⟨wr.heap.size, 0, none⟩ = some (.string ⟨#[cc]⟩) ∧ X.cell? ⟨wr.heap.size, 1, none⟩ = some (.string ⟨t.toArray⟩) ∧ X.cell? ⟨bk, off + j * 2, none⟩ = some (.string ⟨#[d]⟩)) (m := 25) _ _ _ _ ?_
              refine wpAnyT_take (i := 0) (v := .pointer (some ⟨wr.heap.size, 0, none⟩)) rfl (by kernel_rfl) (by kernel_rfl) (by kernel_rfl) (by kernel_rfl) (fun _ _ _ h => h) (Or.inl ⟨by kernel_rfl, fun X hS => by obtain ⟨e0, e1, e2⟩ := hS; go_simp⟩) SX ?_
              try go_simp
              refine wpAnyT_take (i := 1) (v := .string ⟨#[cc]⟩) rfl (by kernel_rfl) (by kernel_rfl) (by kernel_rfl) (by kernel_rfl) (fun _ _ _ h => h) (Or.inl ⟨by kernel_rfl, fun X hS => by obtain ⟨e0, e1, e2⟩ := hS; go_simp⟩) SX ?_
              try go_simp
              refine wpAnyT_one 2 rfl (by kernel_rfl) (fun K hK => ?_)
              go_simp
              refine (isVar_impl [cc] _ (by simp)).mono ?_
              rintro e w' ⟨rfl, rfl⟩
              rw [HV.out]
              refine hK _ _ (fun _ => SX) ?_
              clear hK K
              refine wpAnyT_take (i := 3) (v := .bool false) rfl (by kernel_rfl) (by kernel_rfl) (by kernel_rfl) (by kernel_rfl) (fun _ _ _ h => h) (Or.inl ⟨by kernel_rfl, fun X hS => by obtain ⟨e0, e1, e2⟩ := hS; go_simp⟩) SX ?_
              try go_simp
              refine wpAnyT_take (i := 4) (v := .bool false) rfl (by kernel_rfl) (by kernel_rfl) (by kernel_rfl) (by kernel_rfl) (fun _ _ _ h => h) (Or.inl ⟨by kernel_rfl, fun X hS => by obtain ⟨e0, e1, e2⟩ := hS; go_simp⟩) SX ?_
              try go_simp
              refine wpAnyT_take (i := 5) (v := .pointer (some ⟨wr.heap.size, 1, none⟩)) rfl (by kernel_rfl) (by kernel_rfl) (by kernel_rfl) (by kernel_rfl) (fun _ _ _ h => h) (Or.inl ⟨by kernel_rfl, fun X hS => by obtain ⟨e0, e1, e2⟩ := hS; go_simp⟩) SX ?_
              try go_simp
              refine wpAnyT_take (i := 6) (v := .string ⟨t.toArray⟩) rfl (by kernel_rfl) (by kernel_rfl) (by kernel_rfl) (by kernel_rfl) (fun _ _ _ h => h) (Or.inl ⟨by kernel_rfl, fun X hS => by obtain ⟨e0, e1, e2⟩ := hS; go_simp⟩) SX ?_
              try go_simp
              refine wpAnyT_one 7 rfl (by kernel_rfl) (fun K hK => ?_)
              go_simp
              refine (TypeValid_impl t _ (by unfold maxLen; omega)).mono ?_
              rintro e w1 ⟨rfl, hb⟩
              have B1 : Hid (Below w.heap.size w w1) := (((HB.out.alloc HB.out.size (.cells #[.string ⟨#[cc]⟩, .string ⟨t.toArray⟩] 46)).drew).trans (hb.mono (by show w.heap.size ≤ (wr.alloc (.cells #[.string ⟨#[cc]⟩, .string ⟨t.toArray⟩] 46)).heap.size; have := HB.out.size; simp; omega)))
              have SY : w1.cell? ⟨wr.heap.size, 0, none⟩ = some (.string ⟨#[cc]⟩) ∧ w1.cell? ⟨wr.heap.size, 1, none⟩ = some (.string ⟨t.toArray⟩) ∧ w1.cell? ⟨bk, off + j * 2, none⟩ = some (.string ⟨#[d]⟩) := ⟨(hb.cell (lt_of_cell SX.1)).trans SX.1, (hb.cell (lt_of_cell SX.2.1)).trans SX.2.1, (hb.cell (lt_of_cell SX.2.2)).trans SX.2.2⟩
              clear hb
              rw [HT.out]
              refine hK _ _ (fun _ => SY) ?_
              clear hK K
              refine wpAnyT_take (i := 8) (v := .bool false) rfl (by kernel_rfl) (by kernel_rfl) (by kernel_rfl) (by kernel_rfl) (fun _ _ _ h => h) (Or.inl ⟨by kernel_rfl, fun X hS => by obtain ⟨e0, e1, e2⟩ := hS; go_simp⟩) SY ?_
              try go_simp
              refine wpAnyT_take (i := 9) (v := .bool false) rfl (by kernel_rfl) (by kernel_rfl) (by kernel_rfl) (by kernel_rfl) (fun _ _ _ h => h) (Or.inl ⟨by kernel_rfl, fun X hS => by obtain ⟨e0, e1, e2⟩ := hS; go_simp⟩) SY ?_
              try go_simp
              refine wpAnyT_take (i := 10) (v := .bool false) rfl (by kernel_rfl) (by kernel_rfl) (by kernel_rfl) (by kernel_rfl) (fun _ _ _ h => h) (Or.inl ⟨by kernel_rfl, fun X hS => by obtain ⟨e0, e1, e2⟩ := hS; go_simp⟩) SY ?_
              try go_simp
              refine wpAnyT_take (i := 11) (v := .int .i64 (j + 1)) rfl (by kernel_rfl) (by kernel_rfl) (by kernel_rfl) (by kernel_rfl) (fun _ _ _ h => h) (Or.inl ⟨by kernel_rfl, fun X hS => by obtain ⟨e0, e1, e2⟩ := hS; go_simp⟩) SY ?_
              try go_simp
              refine wpAnyT_take (i := 12) (v := .bool true) rfl (by kernel_rfl) (by kernel_rfl) (by kernel_rfl) (by kernel_rfl) (fun _ _ _ h => h) (Or.inl ⟨by kernel_rfl, fun X hS => by obtain ⟨e0, e1, e2⟩ := hS; go_simp⟩) SY ?_
              try go_simp
              refine wpAnyT_take (i := 13) (v := .bool true) rfl (by kernel_rfl) (by kernel_rfl) (by kernel_rfl) (by kernel_rfl) (fun _ _ _ h => h) (Or.inl ⟨by kernel_rfl, fun X hS => by obtain ⟨e0, e1, e2⟩ := hS; go_simp⟩) SY ?_
              try go_simp
              refine wpAnyT_take (i := 14) (v := .slice (some ⟨bk, off, none⟩) xs.length c) rfl (by kernel_rfl) (by kernel_rfl) (by kernel_rfl) (by kernel_rfl) (fun _ _ _ h => h) (Or.inl ⟨by kernel_rfl, fun X hS => by obtain ⟨e0, e1, e2⟩ := hS; go_simp⟩) SY ?_
              try go_simp
              refine wpAnyT_take (i := 15) (v := .int .i64 (j + 1)) rfl (by kernel_rfl) (by kernel_rfl) (by kernel_rfl) (by kernel_rfl) (fun _ _ _ h => h) (Or.inl ⟨by kernel_rfl, fun X hS => by obtain ⟨e0, e1, e2⟩ := hS; go_simp⟩) SY ?_
              try go_simp
              refine wpAnyT_take (i := 16) (v := .int .i64 j) rfl (by kernel_rfl) (by kernel_rfl) (by kernel_rfl) (by kernel_rfl) (fun _ _ _ h => h) (Or.inl ⟨by kernel_rfl, fun X hS => by obtain ⟨e0, e1, e2⟩ := hS; go_simp; exact IntWalk.i64_in _ (by omega)⟩) SY ?_
              try go_simp
              refine wpAnyT_take (i := 17) (v := .pointer (some ⟨bk, off + j * 2, none⟩)) rfl (by kernel_rfl) (by kernel_rfl) (by kernel_rfl) (by kernel_rfl) (fun _ _ _ h => h) (Or.inl ⟨by kernel_rfl, fun X hS => by clear hS; go_simp; intro hq; omega⟩) SY ?_
              try go_simp
              refine wpAnyT_take (i := 18) (v := .pointer (some ⟨bk, off + j * 2, none⟩)) rfl (by kernel_rfl) (by kernel_rfl) (by kernel_rfl) (by kernel_rfl) (fun _ _ _ h => h) (Or.inl ⟨by kernel_rfl, fun X hS => by obtain ⟨e0, e1, e2⟩ := hS; go_simp⟩) SY ?_
              try go_simp
              refine wpAnyT_take (i := 19) (v := .string ⟨#[d]⟩) rfl (by kernel_rfl) (by kernel_rfl) (by kernel_rfl) (by kernel_rfl) (fun _ _ _ h => h) (Or.inl ⟨by kernel_rfl, fun X hS => by obtain ⟨e0, e1, e2⟩ := hS; go_simp⟩) SY ?_
              try go_simp
              refine wpAnyT_take (i := 20) (v := .pointer (some ⟨wr.heap.size, 0, none⟩)) rfl (by kernel_rfl) (by kernel_rfl) (by kernel_rfl) (by kernel_rfl) (fun _ _ _ h => h) (Or.inl ⟨by kernel_rfl, fun X hS => by obtain ⟨e0, e1, e2⟩ := hS; go_simp⟩) SY ?_
              try go_simp
              refine wpAnyT_take (i := 21) (v := .string ⟨#[cc]⟩) rfl (by kernel_rfl) (by kernel_rfl) (by kernel_rfl) (by kernel_rfl) (fun _ _ _ h => h) (Or.inl ⟨by kernel_rfl, fun X hS => by obtain ⟨e0, e1, e2⟩ := hS; go_simp⟩) SY ?_
              try go_simp
              refine wpAnyT_take (i := 22) (v := .bool false) rfl (by kernel_rfl) (by kernel_rfl) (by kernel_rfl) (by kernel_rfl) (fun _ _ _ h => h) (Or.inl ⟨by kernel_rfl, fun X hS => by go_simp; rw [geq1, HDEC.out]; rfl⟩) SY ?_
              try go_simp
              refine wpAnyT_take (i := 23) (v := .bool false) rfl (by kernel_rfl) (by kernel_rfl) (by kernel_rfl) (by kernel_rfl) (fun _ _ _ h => h) (Or.inl ⟨by kernel_rfl, fun X hS => by obtain ⟨e0, e1, e2⟩ := hS; go_simp⟩) SY ?_
              try go_simp
              refine wpAnyT_take (i := 24) (v := .bool false) rfl (by kernel_rfl) (by kernel_rfl) (by kernel_rfl) (by kernel_rfl) (fun _ _ _ h => h) (Or.inl ⟨by kernel_rfl, fun X hS => by obtain ⟨e0, e1, e2⟩ := hS; go_simp⟩) SY ?_
              try go_simp
              refine wpAnyT_drop _ 25 _ _ _ (by decide) (by kernel_rfl) ?_
              change wpList _ _ _ [] _ _
              go_wp2
              exact ⟨⟨j + 1 + 1, by omega, by go_num, HN.out, B1.out⟩, by simp [intOf]; omega⟩
            · have HR : Hid (bvB xs = false) := bvB_no hlt fun ⟨c, y, h1, _, _, h2⟩ => by
                rw [HG.out] at h1
                simp only [Option.some.injEq, Prod.mk.injEq, ByteArray.mk.injEq] at h1
                obtain rfl : cc = c := by simpa using h1.1
                obtain ⟨d', z', e1, e2⟩ := h2 j rfl
                rw [HD.out] at e1
                simp only [Option.some.injEq, Prod.mk.injEq, ByteArray.mk.injEq] at e1
                obtain rfl : d = d' := by simpa using e1.1
                exact hlt2 e2
              have hdec : decide (cc.toNat ≤ d.toNat) = true := decide_eq_true (by omega)
              have HDEC := hid hdec
              clear hlt2 hdec
              go_wp2
              refine wp_region_any (by kernel_rfl) ?_
              change wpAny _ _ _ _ _ _ _ (World.drew _)
              have kpA : (wr.alloc (.cells #[.string ⟨#[cc]⟩, .string ⟨t.toArray⟩] 46)).drew.cell? ⟨bk, off + j * 2, none⟩ = some (.string ⟨#[d]⟩) := by
                have h := (((Below.refl wr.heap.size wr).alloc (Nat.le_refl _) (.cells #[.string ⟨#[cc]⟩, .string ⟨t.toArray⟩] 46)).cell (lt_of_cell kp)).trans kp
                exact h
              clear kp
              have SX : (wr.alloc (.cells #[.string ⟨#[cc]⟩, .string ⟨t.toArray⟩] 46)).drew.cell? ⟨wr.heap.size, 0, none⟩ = some (.string ⟨#[cc]⟩) ∧ (wr.alloc (.cells #[.string ⟨#[cc]⟩, .string ⟨t.toArray⟩] 46)).drew.cell? ⟨wr.heap.size, 1, none⟩ = some (.string ⟨t.toArray⟩) ∧ (wr.alloc (.cells #[.string ⟨#[cc]⟩, .string ⟨t.toArray⟩] 46)).drew.cell? ⟨bk, off + j * 2, none⟩ = some (.string ⟨#[d]⟩) := ⟨heap_cell (heap_alloc_new wr _) 0, heap_cell (heap_alloc_new wr _) 1, kpA⟩
              refine wpAny_of_T (S := fun X => X.cell? ⟨wr.heap.size, 0, none⟩ = some (.string ⟨#[cc]⟩) ∧ X.cell? ⟨wr.heap.size, 1, none⟩ = some (.string ⟨t.toArray⟩) ∧ X.cell? ⟨bk, off + j * 2, none⟩ = some (.string ⟨#[d]⟩)) (m := 25) _ _ _ _ ?_
              refine wpAnyT_take (i := 0) (v := .pointer (some ⟨wr.heap.size, 0, none⟩)) rfl (by kernel_rfl) (by kernel_rfl) (by kernel_rfl) (by kernel_rfl) (fun _ _ _ h => h) (Or.inl ⟨by kernel_rfl, fun X hS => by obtain ⟨e0, e1, e2⟩ := hS; go_simp⟩) SX ?_
              try go_simp
              refine wpAnyT_take (i := 1) (v := .string ⟨#[cc]⟩) rfl (by kernel_rfl) (by kernel_rfl) (by kernel_rfl) (by kernel_rfl) (fun _ _ _ h => h) (Or.inl ⟨by kernel_rfl, fun X hS => by obtain ⟨e0, e1, e2⟩ := hS; go_simp⟩) SX ?_
              try go_simp
              refine wpAnyT_one 2 rfl (by kernel_rfl) (fun K hK => ?_)
              go_simp
              refine (isVar_impl [cc] _ (by simp)).mono ?_
              rintro e w' ⟨rfl, rfl⟩
              rw [HV.out]
              refine hK _ _ (fun _ => SX) ?_
              clear hK K
              refine wpAnyT_take (i := 3) (v := .bool false) rfl (by kernel_rfl) (by kernel_rfl) (by kernel_rfl) (by kernel_rfl) (fun _ _ _ h => h) (Or.inl ⟨by kernel_rfl, fun X hS => by obtain ⟨e0, e1, e2⟩ := hS; go_simp⟩) SX ?_
              try go_simp
              refine wpAnyT_take (i := 4) (v := .bool false) rfl (by kernel_rfl) (by kernel_rfl) (by kernel_rfl) (by kernel_rfl) (fun _ _ _ h => h) (Or.inl ⟨by kernel_rfl, fun X hS => by obtain ⟨e0, e1, e2⟩ := hS; go_simp⟩) SX ?_
              try go_simp
              refine wpAnyT_take (i := 5) (v := .pointer (some ⟨wr.heap.size, 1, none⟩)) rfl (by kernel_rfl) (by kernel_rfl) (by kernel_rfl) (by kernel_rfl) (fun _ _ _ h => h) (Or.inl ⟨by kernel_rfl, fun X hS => by obtain ⟨e0, e1, e2⟩ := hS; go_simp⟩) SX ?_
              try go_simp
              refine wpAnyT_take (i := 6) (v := .string ⟨t.toArray⟩) rfl (by kernel_rfl) (by kernel_rfl) (by kernel_rfl) (by kernel_rfl) (fun _ _ _ h => h) (Or.inl ⟨by kernel_rfl, fun X hS => by obtain ⟨e0, e1, e2⟩ := hS; go_simp⟩) SX ?_
              try go_simp
              refine wpAnyT_one 7 rfl (by kernel_rfl) (fun K hK => ?_)
              go_simp
              refine (TypeValid_impl t _ (by unfold maxLen; omega)).mono ?_
              rintro e w1 ⟨rfl, hb⟩
              have B1 : Hid (Below w.heap.size w w1) := (((HB.out.alloc HB.out.size (.cells #[.string ⟨#[cc]⟩, .string ⟨t.toArray⟩] 46)).drew).trans (hb.mono (by show w.heap.size ≤ (wr.alloc (.cells #[.string ⟨#[cc]⟩, .string ⟨t.toArray⟩] 46)).heap.size; have := HB.out.size; simp; omega)))
              have SY : w1.cell? ⟨wr.heap.size, 0, none⟩ = some (.string ⟨#[cc]⟩) ∧ w1.cell? ⟨wr.heap.size, 1, none⟩ = some (.string ⟨t.toArray⟩) ∧ w1.cell? ⟨bk, off + j * 2, none⟩ = some (.string ⟨#[d]⟩) := ⟨(hb.cell (lt_of_cell SX.1)).trans SX.1, (hb.cell (lt_of_cell SX.2.1)).trans SX.2.1, (hb.cell (lt_of_cell SX.2.2)).trans SX.2.2⟩
              clear hb
              rw [HT.out]
              refine hK _ _ (fun _ => SY) ?_
              clear hK K
              refine wpAnyT_take (i := 8) (v := .bool false) rfl (by kernel_rfl) (by kernel_rfl) (by kernel_rfl) (by kernel_rfl) (fun _ _ _ h => h) (Or.inl ⟨by kernel_rfl, fun X hS => by obtain ⟨e0, e1, e2⟩ := hS; go_simp⟩) SY ?_
              try go_simp
              refine wpAnyT_take (i := 9) (v := .bool false) rfl (by kernel_rfl) (by kernel_rfl) (by kernel_rfl) (by kernel_rfl) (fun _ _ _ h => h) (Or.inl ⟨by kernel_rfl, fun X hS => by obtain ⟨e0, e1, e2⟩ := hS; go_simp⟩) SY ?_
              try go_simp
              refine wpAnyT_take (i := 10) (v := .bool false) rfl (by kernel_rfl) (by kernel_rfl) (by kernel_rfl) (by kernel_rfl) (fun _ _ _ h => h) (Or.inl ⟨by kernel_rfl, fun X hS => by obtain ⟨e0, e1, e2⟩ := hS; go_simp⟩) SY ?_
              try go_simp
              refine wpAnyT_take (i := 11) (v := .int .i64 (j + 1)) rfl (by kernel_rfl) (by kernel_rfl) (by kernel_rfl) (by kernel_rfl) (fun _ _ _ h => h) (Or.inl ⟨by kernel_rfl, fun X hS => by obtain ⟨e0, e1, e2⟩ := hS; go_simp⟩) SY ?_
              try go_simp
              refine wpAnyT_take (i := 12) (v := .bool true) rfl (by kernel_rfl) (by kernel_rfl) (by kernel_rfl) (by kernel_rfl) (fun _ _ _ h => h) (Or.inl ⟨by kernel_rfl, fun X hS => by obtain ⟨e0, e1, e2⟩ := hS; go_simp⟩) SY ?_
              try go_simp
              refine wpAnyT_take (i := 13) (v := .bool true) rfl (by kernel_rfl) (by kernel_rfl) (by kernel_rfl) (by kernel_rfl) (fun _ _ _ h => h) (Or.inl ⟨by kernel_rfl, fun X hS => by obtain ⟨e0, e1, e2⟩ := hS; go_simp⟩) SY ?_
              try go_simp
              refine wpAnyT_take (i := 14) (v := .slice (some ⟨bk, off, none⟩) xs.length c) rfl (by kernel_rfl) (by kernel_rfl) (by kernel_rfl) (by kernel_rfl) (fun _ _ _ h => h) (Or.inl ⟨by kernel_rfl, fun X hS => by obtain ⟨e0, e1, e2⟩ := hS; go_simp⟩) SY ?_
              try go_simp
              refine wpAnyT_take (i := 15) (v := .int .i64 (j + 1)) rfl (by kernel_rfl) (by kernel_rfl) (by kernel_rfl) (by kernel_rfl) (fun _ _ _ h => h) (Or.inl ⟨by kernel_rfl, fun X hS => by obtain ⟨e0, e1, e2⟩ := hS; go_simp⟩) SY ?_
              try go_simp
              refine wpAnyT_take (i := 16) (v := .int .i64 j) rfl (by kernel_rfl) (by kernel_rfl) (by kernel_rfl) (by kernel_rfl) (fun _ _ _ h => h) (Or.inl ⟨by kernel_rfl, fun X hS => by obtain ⟨e0, e1, e2⟩ := hS; go_simp; exact IntWalk.i64_in _ (by omega)⟩) SY ?_
              try go_simp
              refine wpAnyT_take (i := 17) (v := .pointer (some ⟨bk, off + j * 2, none⟩)) rfl (by kernel_rfl) (by kernel_rfl) (by kernel_rfl) (by kernel_rfl) (fun _ _ _ h => h) (Or.inl ⟨by kernel_rfl, fun X hS => by clear hS; go_simp; intro hq; omega⟩) SY ?_
              try go_simp
              refine wpAnyT_take (i := 18) (v := .pointer (some ⟨bk, off + j * 2, none⟩)) rfl (by kernel_rfl) (by kernel_rfl) (by kernel_rfl) (by kernel_rfl) (fun _ _ _ h => h) (Or.inl ⟨by kernel_rfl, fun X hS => by obtain ⟨e0, e1, e2⟩ := hS; go_simp⟩) SY ?_
              try go_simp
              refine wpAnyT_take (i := 19) (v := .string ⟨#[d]⟩) rfl (by kernel_rfl) (by kernel_rfl) (by kernel_rfl) (by kernel_rfl) (fun _ _ _ h => h) (Or.inl ⟨by kernel_rfl, fun X hS => by obtain ⟨e0, e1, e2⟩ := hS; go_simp⟩) SY ?_
              try go_simp
              refine wpAnyT_take (i := 20) (v := .pointer (some ⟨wr.heap.size, 0, none⟩)) rfl (by kernel_rfl) (by kernel_rfl) (by kernel_rfl) (by kernel_rfl) (fun _ _ _ h => h) (Or.inl ⟨by kernel_rfl, fun X hS => by obtain ⟨e0, e1, e2⟩ := hS; go_simp⟩) SY ?_
              try go_simp
              refine wpAnyT_take (i := 21) (v := .string ⟨#[cc]⟩) rfl (by kernel_rfl) (by kernel_rfl) (by kernel_rfl) (by kernel_rfl) (fun _ _ _ h => h) (Or.inl ⟨by kernel_rfl, fun X hS => by obtain ⟨e0, e1, e2⟩ := hS; go_simp⟩) SY ?_
              try go_simp
              refine wpAnyT_take (i := 22) (v := .bool true) rfl (by kernel_rfl) (by kernel_rfl) (by kernel_rfl) (by kernel_rfl) (fun _ _ _ h => h) (Or.inl ⟨by kernel_rfl, fun X hS => by go_simp; rw [geq1, HDEC.out]; rfl⟩) SY ?_
              try go_simp
              refine wpAnyT_take (i := 23) (v := .bool true) rfl (by kernel_rfl) (by kernel_rfl) (by kernel_rfl) (by kernel_rfl) (fun _ _ _ h => h) (Or.inl ⟨by kernel_rfl, fun X hS => by obtain ⟨e0, e1, e2⟩ := hS; go_simp⟩) SY ?_
              try go_simp
              refine wpAnyT_take (i := 24) (v := .bool true) rfl (by kernel_rfl) (by kernel_rfl) (by kernel_rfl) (by kernel_rfl) (fun _ _ _ h => h) (Or.inl ⟨by kernel_rfl, fun X hS => by obtain ⟨e0, e1, e2⟩ := hS; go_simp⟩) SY ?_
              try go_simp
              refine wpAnyT_drop _ 25 _ _ _ (by decide) (by kernel_rfl) ?_
              change wpList _ _ _ [] _ _
              go_wp2
              go_ret
              exact ⟨ret_bool HR.out.symm, B1.out⟩
    · obtain rfl : k = xs.length := by omega
      have hR : Hid (bvB xs = true) := bvB_yes hgood.out
      clear hgood
      go_wp2
      go_ret
      exact ⟨ret_bool hR.out.symm, hb⟩

set_option maxHeartbeats 16000000 in
theorem BindingsValid_spec (v : Value) (xs : List BB) (w : World) (h0 : tot xs + xs.length ≤ 1048576) (hs : SP w v xs) :
    Calls Try.prog 36 #[v] w fun e w' => e = .returned (.bool (bvB xs)) ∧ Below w.heap.size w w' := by
  have hbd : ∀ (i : Nat) (p : BB), xs[i]? = some p → p.1.size ≤ 1048576 ∧ p.2.size ≤ 1048576 := fun i p hp => by
    have h1 := tot_take xs i p hp
    have h2 := tot_le xs (i + 1)
    omega
  obtain ⟨g, c, rfl⟩ : ∃ g c, v = .slice g xs.length c := by
    rcases hs with ⟨rfl, a, cap, rfl⟩ | ⟨b, off, cap, rfl, hn, hc⟩ <;> exact ⟨_, _, rfl⟩
  go_enter Try.func36, Try.ntmps36
  go_wp2
  go_loopw [7] (fun i wr => ∃ k : Nat, k ≤ xs.length ∧ i = .int .i64 k ∧ Hid (∀ j, j < k → good xs j) ∧ Below w.heap.size w wr) (fun i _ => xs.length - (intOf i).toNat)
  case atStart => exact ⟨0, Nat.zero_le _, rfl, (fun j h => by omega), Below.refl _ _⟩
  case round =>
    obtain ⟨k, hk, rfl, hgood, hb⟩ := hrel
    by_cases hlt : k < xs.length
    · rcases hs with ⟨rfl, _⟩ | ⟨bk, off, cap, he, hn, hc⟩
      · simp at hlt
      simp only [Value.slice.injEq] at he
      obtain ⟨rfl, -, rfl⟩ := he
      have hget := List.getElem?_eq_getElem hlt
      obtain ⟨c0, c1, -, -⟩ := hc k xs[k] hget
      have k0 := (hb.cell (lt_of_cell c0)).trans c0
      have k1 := (hb.cell (lt_of_cell c1)).trans c1
      have hsz := hbd k xs[k] hget
      have HB := hid hb
      have HC := hid hc
      have HG := hid hget
      have HBD := hid hbd
      generalize xs[k] = p at *
      obtain ⟨x, y⟩ := p
      obtain ⟨l, rfl, hxl⟩ : ∃ l : List UInt8, x = ⟨l.toArray⟩ ∧ x.size = l.length := ⟨x.data.toList, rfl, by simp⟩
      obtain ⟨t, rfl, hyl⟩ : ∃ l : List UInt8, y = ⟨l.toArray⟩ ∧ y.size = l.length := ⟨y.data.toList, rfl, by simp⟩
      simp only at hsz
      have hl1 : l.length ≤ 1048576 := by omega
      have hl2 : t.length ≤ 1048576 := by omega
      clear hb hc c0 c1 hget hsz hxl hyl hbd
      cases hv : isVarL l with
      | false =>
        have HR : Hid (bvB xs = false) := bvB_no hlt fun ⟨c, y, h1, h2, _⟩ => by
          rw [HG.out] at h1
          simp only [Option.some.injEq, Prod.mk.injEq, ByteArray.mk.injEq] at h1
          have : l = [c] := by simpa using h1.1
          subst this
          simp [isVarL, h2] at hv
        by_cases hone : l.length = 1
        · obtain ⟨cc, rfl⟩ : ∃ c, l = [c] := by
            match l, hone with
            | [c], _ => exact ⟨c, rfl⟩
          have HV : Hid (isV cc = false) := hv
          clear hv hone
          go_wp2
          refine wp_region_any (by kernel_rfl) ?_
          change wpAny _ _ _ _ _ _ _ (World.drew _)
          have SX : (wr.alloc (.cells #[.string ⟨#[cc]⟩, .string ⟨t.toArray⟩] 46)).drew.cell? ⟨wr.heap.size, 0, none⟩ = some (.string ⟨#[cc]⟩) ∧ (wr.alloc (.cells #[.string ⟨#[cc]⟩, .string ⟨t.toArray⟩] 46)).drew.cell? ⟨wr.heap.size, 1, none⟩ = some (.string ⟨t.toArray⟩) := ⟨heap_cell (heap_alloc_new wr _) 0, heap_cell (heap_alloc_new wr _) 1⟩
          refine wpAny_of_T (S := fun X => X.cell? ⟨wr.heap.size, 0, none⟩ = some (.string ⟨#[cc]⟩) ∧ X.cell? ⟨wr.heap.size, 1, none⟩ = some (.string ⟨t.toArray⟩)) (m := 32) _ _ _ _ ?_
          refine wpAnyT_take (i := 0) (v := .pointer (some ⟨wr.heap.size, 0, none⟩)) rfl (by kernel_rfl) (by kernel_rfl) (by kernel_rfl) (by kernel_rfl) (fun _ _ _ h => h) (Or.inl ⟨by kernel_rfl, fun X hS => by obtain ⟨e0, e1⟩ := hS; go_simp⟩) SX ?_
          try go_simp
          refine wpAnyT_take (i := 1) (v := .string ⟨#[cc]⟩) rfl (by kernel_rfl) (by kernel_rfl) (by kernel_rfl) (by kernel_rfl) (fun _ _ _ h => h) (Or.inl ⟨by kernel_rfl, fun X hS => by obtain ⟨e0, e1⟩ := hS; go_simp⟩) SX ?_
          try go_simp
          refine wpAnyT_take (i := 2) (v := .int .i64 1) rfl (by kernel_rfl) (by kernel_rfl) (by kernel_rfl) (by kernel_rfl) (fun _ _ _ h => h) (Or.inl ⟨by kernel_rfl, fun X hS => by obtain ⟨e0, e1⟩ := hS; go_simp⟩) SX ?_
          try go_simp
          refine wpAnyT_take (i := 3) (v := .bool false) rfl (by kernel_rfl) (by kernel_rfl) (by kernel_rfl) (by kernel_rfl) (fun _ _ _ h => h) (Or.inl ⟨by kernel_rfl, fun X hS => by obtain ⟨e0, e1⟩ := hS; go_simp⟩) SX ?_
          try go_simp
          refine wpAnyT_take (i := 4) (v := .bool false) rfl (by kernel_rfl) (by kernel_rfl) (by kernel_rfl) (by kernel_rfl) (fun _ _ _ h => h) (Or.inl ⟨by kernel_rfl, fun X hS => by obtain ⟨e0, e1⟩ := hS; go_simp⟩) SX ?_
          try go_simp
          refine wpAnyT_take (i := 5) (v := .pointer (some ⟨wr.heap.size, 0, none⟩)) rfl (by kernel_rfl) (by kernel_rfl) (by kernel_rfl) (by kernel_rfl) (fun _ _ _ h => h) (Or.inl ⟨by kernel_rfl, fun X hS => by obtain ⟨e0, e1⟩ := hS; go_simp⟩) SX ?_
          try go_simp
          refine wpAnyT_take (i := 6) (v := .string ⟨#[cc]⟩) rfl (by kernel_rfl) (by kernel_rfl) (by kernel_rfl) (by kernel_rfl) (fun _ _ _ h => h) (Or.inl ⟨by kernel_rfl, fun X hS => by obtain ⟨e0, e1⟩ := hS; go_simp⟩) SX ?_
          try go_simp
          refine wpAnyT_take (i := 7) (v := .int .u8 cc.toNat) rfl (by kernel_rfl) (by kernel_rfl) (by kernel_rfl) (by kernel_rfl) (fun _ _ _ h => h) (Or.inl ⟨by kernel_rfl, fun X hS => by clear hS; go_simp; rfl⟩) SX ?_
          try go_simp
          refine wpAnyT_one 8 rfl (by kernel_rfl) (fun K hK => ?_)
          go_simp
          refine (l1Variable_any cc _).mono ?_
          rintro e w' ⟨rfl, rfl⟩
          rw [HV.out]
          refine hK _ _ (fun _ => SX) ?_
          clear hK K
          refine wpAnyT_take (i := 9) (v := .bool true) rfl (by kernel_rfl) (by kernel_rfl) (by kernel_rfl) (by kernel_rfl) (fun _ _ _ h => h) (Or.inl ⟨by kernel_rfl, fun X hS => by obtain ⟨e0, e1⟩ := hS; go_simp⟩) SX ?_
          try go_simp
          refine wpAnyT_take (i := 10) (v := .bool true) rfl (by kernel_rfl) (by kernel_rfl) (by kernel_rfl) (by kernel_rfl) (fun _ _ _ h => h) (Or.inl ⟨by kernel_rfl, fun X hS => by obtain ⟨e0, e1⟩ := hS; go_simp⟩) SX ?_
          try go_simp
          refine wpAnyT_take (i := 11) (v := .bool true) rfl (by kernel_rfl) (by kernel_rfl) (by kernel_rfl) (by kernel_rfl) (fun _ _ _ h => h) (Or.inl ⟨by kernel_rfl, fun X hS => by obtain ⟨e0, e1⟩ := hS; go_simp⟩) SX ?_
          try go_simp
          refine wpAnyT_take (i := 12) (v := undef) rfl (by kernel_rfl) (by kernel_rfl) (by kernel_rfl) (by kernel_rfl) (fun _ _ _ h => h) (Or.inr ⟨by kernel_rfl, rfl⟩) SX ?_
          try go_simp
          refine wpAnyT_take (i := 13) (v := undef) rfl (by kernel_rfl) (by kernel_rfl) (by kernel_rfl) (by kernel_rfl) (fun _ _ _ h => h) (Or.inr ⟨by kernel_rfl, rfl⟩) SX ?_
          try go_simp
          refine wpAnyT_take (i := 14) (v := undef) rfl (by kernel_rfl) (by kernel_rfl) (by kernel_rfl) (by kernel_rfl) (fun _ _ _ h => h) (Or.inr ⟨by kernel_rfl, rfl⟩) SX ?_
          try go_simp
          refine wpAnyT_take (i := 15) (v := undef) rfl (by kernel_rfl) (by kernel_rfl) (by kernel_rfl) (by kernel_rfl) (fun _ _ _ h => h) (Or.inr ⟨by kernel_rfl, rfl⟩) SX ?_
          try go_simp
          refine wpAnyT_take (i := 16) (v := .bool true) rfl (by kernel_rfl) (by kernel_rfl) (by kernel_rfl) (by kernel_rfl) (fun _ _ _ h => h) (Or.inl ⟨by kernel_rfl, fun X hS => by obtain ⟨e0, e1⟩ := hS; go_simp⟩) SX ?_
          try go_simp
          refine wpAnyT_take (i := 17) (v := .bool true) rfl (by kernel_rfl) (by kernel_rfl) (by kernel_rfl) (by kernel_rfl) (fun _ _ _ h => h) (Or.inl ⟨by kernel_rfl, fun X hS => by obtain ⟨e0, e1⟩ := hS; go_simp⟩) SX ?_
          try go_simp
          refine wpAnyT_take (i := 18) (v := undef) rfl (by kernel_rfl) (by kernel_rfl) (by kernel_rfl) (by kernel_rfl) (fun _ _ _ h => h) (Or.inr ⟨by kernel_rfl, rfl⟩) SX ?_
          try go_simp
          refine wpAnyT_take (i := 19) (v := undef) rfl (by kernel_rfl) (by kernel_rfl) (by kernel_rfl) (by kernel_rfl) (fun _ _ _ h => h) (Or.inr ⟨by kernel_rfl, rfl⟩) SX ?_
          try go_simp
          refine wpAnyT_take (i := 20) (v := undef) rfl (by kernel_rfl) (by kernel_rfl) (by kernel_rfl) (by kernel_rfl) (fun _ _ _ h => h) (Or.inr ⟨by kernel_rfl, rfl⟩) SX ?_
          try go_simp
          refine wpAnyT_take (i := 21) (v := undef) rfl (by kernel_rfl) (by kernel_rfl) (by kernel_rfl) (by kernel_rfl) (fun _ _ _ h => h) (Or.inr ⟨by kernel_rfl, rfl⟩) SX ?_
          try go_simp
          refine wpAnyT_take (i := 22) (v := undef) rfl (by kernel_rfl) (by kernel_rfl) (by kernel_rfl) (by kernel_rfl) (fun _ _ _ h => h) (Or.inr ⟨by kernel_rfl, rfl⟩) SX ?_
          try go_simp
          refine wpAnyT_take (i := 23) (v := undef) rfl (by kernel_rfl) (by kernel_rfl) (by kernel_rfl) (by kernel_rfl) (fun _ _ _ h => h) (Or.inr ⟨by kernel_rfl, rfl⟩) SX ?_
          try go_simp
          refine wpAnyT_take (i := 24) (v := undef) rfl (by kernel_rfl) (by kernel_rfl) (by kernel_rfl) (by kernel_rfl) (fun _ _ _ h => h) (Or.inr ⟨by kernel_rfl, rfl⟩) SX ?_
          try go_simp
          refine wpAnyT_take (i := 25) (v := undef) rfl (by kernel_rfl) (by kernel_rfl) (by kernel_rfl) (by kernel_rfl) (fun _ _ _ h => h) (Or.inr ⟨by kernel_rfl, rfl⟩) SX ?_
          try go_simp
          refine wpAnyT_take (i := 26) (v := undef) rfl (by kernel_rfl) (by kernel_rfl) (by kernel_rfl) (by kernel_rfl) (fun _ _ _ h => h) (Or.inr ⟨by kernel_rfl, rfl⟩) SX ?_
          try go_simp
          refine wpAnyT_take (i := 27) (v := undef) rfl (by kernel_rfl) (by kernel_rfl) (by kernel_rfl) (by kernel_rfl) (fun _ _ _ h => h) (Or.inr ⟨by kernel_rfl, rfl⟩) SX ?_
          try go_simp
          refine wpAnyT_take (i := 28) (v := undef) rfl (by kernel_rfl) (by kernel_rfl) (by kernel_rfl) (by kernel_rfl) (fun _ _ _ h => h) (Or.inr ⟨by kernel_rfl, rfl⟩) SX ?_
          try go_simp
          refine wpAnyT_take (i := 29) (v := undef) rfl (by kernel_rfl) (by kernel_rfl) (by kernel_rfl) (by kernel_rfl) (fun _ _ _ h => h) (Or.inr ⟨by kernel_rfl, rfl⟩) SX ?_
          try go_simp
          refine wpAnyT_take (i := 30) (v := undef) rfl (by kernel_rfl) (by kernel_rfl) (by kernel_rfl) (by kernel_rfl) (fun _ _ _ h => h) (Or.inr ⟨by kernel_rfl, rfl⟩) SX ?_
          try go_simp
          refine wpAnyT_take (i := 31) (v := .bool true) rfl (by kernel_rfl) (by kernel_rfl) (by kernel_rfl) (by kernel_rfl) (fun _ _ _ h => h) (Or.inl ⟨by kernel_rfl, fun X hS => by obtain ⟨e0, e1⟩ := hS; go_simp⟩) SX ?_
          try go_simp
          refine wpAnyT_drop _ 32 _ _ _ (by decide) (by kernel_rfl) ?_
          change wpList _ _ _ [] _ _
          go_wp2
          go_ret
          exact ⟨ret_bool HR.out.symm, (HB.out.alloc HB.out.size _).drew⟩
        · have hone1 : ((l.length : Int) == 1) = false := by rw [beq_eq_false_iff_ne]; omega
          have hone2 : ((l.length : Int) != 1) = true := by rw [bne, hone1]; rfl
          clear hv hone
          go_wp2
          refine wp_region_any (by kernel_rfl) ?_
          change wpAny _ _ _ _ _ _ _ (World.drew _)
          have SX : (wr.alloc (.cells #[.string ⟨l.toArray⟩, .string ⟨t.toArray⟩] 46)).drew.cell? ⟨wr.heap.size, 0, none⟩ = some (.string ⟨l.toArray⟩) ∧ (wr.alloc (.cells #[.string ⟨l.toArray⟩, .string ⟨t.toArray⟩] 46)).drew.cell? ⟨wr.heap.size, 1, none⟩ = some (.string ⟨t.toArray⟩) := ⟨heap_cell (heap_alloc_new wr _) 0, heap_cell (heap_alloc_new wr _) 1⟩
          refine wpAny_of_T (S := fun X => X.cell? ⟨wr.heap.size, 0, none⟩ = some (.string ⟨l.toArray⟩) ∧ X.cell? ⟨wr.heap.size, 1, none⟩ = some (.string ⟨t.toArray⟩)) (m := 32) _ _ _ _ ?_
          refine wpAnyT_take (i := 0) (v := .pointer (some ⟨wr.heap.size, 0, none⟩)) rfl (by kernel_rfl) (by kernel_rfl) (by kernel_rfl) (by kernel_rfl) (fun _ _ _ h => h) (Or.inl ⟨by kernel_rfl, fun X hS => by obtain ⟨e0, e1⟩ := hS; go_simp⟩) SX ?_
          try go_simp
          refine wpAnyT_take (i := 1) (v := .string ⟨l.toArray⟩) rfl (by kernel_rfl) (by kernel_rfl) (by kernel_rfl) (by kernel_rfl) (fun _ _ _ h => h) (Or.inl ⟨by kernel_rfl, fun X hS => by obtain ⟨e0, e1⟩ := hS; go_simp⟩) SX ?_
          try go_simp
          refine wpAnyT_take (i := 2) (v := .int .i64 l.length) rfl (by kernel_rfl) (by kernel_rfl) (by kernel_rfl) (by kernel_rfl) (fun _ _ _ h => h) (Or.inl ⟨by kernel_rfl, fun X hS => by obtain ⟨e0, e1⟩ := hS; go_simp⟩) SX ?_
          try go_simp
          refine wpAnyT_take (i := 3) (v := .bool true) rfl (by kernel_rfl) (by kernel_rfl) (by kernel_rfl) (by kernel_rfl) (fun _ _ _ h => h) (Or.inl ⟨by kernel_rfl, fun X hS => by obtain ⟨e0, e1⟩ := hS; go_simp⟩) SX ?_
          try go_simp
          refine wpAnyT_take (i := 4) (v := .bool true) rfl (by kernel_rfl) (by kernel_rfl) (by kernel_rfl) (by kernel_rfl) (fun _ _ _ h => h) (Or.inl ⟨by kernel_rfl, fun X hS => by obtain ⟨e0, e1⟩ := hS; go_simp⟩) SX ?_
          try go_simp
          refine wpAnyT_take (i := 5) (v := undef) rfl (by kernel_rfl) (by kernel_rfl) (by kernel_rfl) (by kernel_rfl) (fun _ _ _ h => h) (Or.inr ⟨by kernel_rfl, rfl⟩) SX ?_
          try go_simp
          refine wpAnyT_take (i := 6) (v := undef) rfl (by kernel_rfl) (by kernel_rfl) (by kernel_rfl) (by kernel_rfl) (fun _ _ _ h => h) (Or.inr ⟨by kernel_rfl, rfl⟩) SX ?_
          try go_simp
          refine wpAnyT_take (i := 7) (v := undef) rfl (by kernel_rfl) (by kernel_rfl) (by kernel_rfl) (by kernel_rfl) (fun _ _ _ h => h) (Or.inr ⟨by kernel_rfl, rfl⟩) SX ?_
          try go_simp
          refine wpAnyT_take (i := 8) (v := undef) rfl (by kernel_rfl) (by kernel_rfl) (by kernel_rfl) (by kernel_rfl) (fun _ _ _ h => h) (Or.inr ⟨by kernel_rfl, rfl⟩) SX ?_
          try go_simp
          refine wpAnyT_take (i := 9) (v := undef) rfl (by kernel_rfl) (by kernel_rfl) (by kernel_rfl) (by kernel_rfl) (fun _ _ _ h => h) (Or.inr ⟨by kernel_rfl, rfl⟩) SX ?_
          try go_simp
          refine wpAnyT_take (i := 10) (v := .bool true) rfl (by kernel_rfl) (by kernel_rfl) (by kernel_rfl) (by kernel_rfl) (fun _ _ _ h => h) (Or.inl ⟨by kernel_rfl, fun X hS => by obtain ⟨e0, e1⟩ := hS; go_simp⟩) SX ?_
          try go_simp
          refine wpAnyT_take (i := 11) (v := .bool true) rfl (by kernel_rfl) (by kernel_rfl) (by kernel_rfl) (by kernel_rfl) (fun _ _ _ h => h) (Or.inl ⟨by kernel_rfl, fun X hS => by obtain ⟨e0, e1⟩ := hS; go_simp⟩) SX ?_
          try go_simp
          refine wpAnyT_take (i := 12) (v := undef) rfl (by kernel_rfl) (by kernel_rfl) (by kernel_rfl) (by kernel_rfl) (fun _ _ _ h => h) (Or.inr ⟨by kernel_rfl, rfl⟩) SX ?_
          try go_simp
          refine wpAnyT_take (i := 13) (v := undef) rfl (by kernel_rfl) (by kernel_rfl) (by kernel_rfl) (by kernel_rfl) (fun _ _ _ h => h) (Or.inr ⟨by kernel_rfl, rfl⟩) SX ?_
          try go_simp
          refine wpAnyT_take (i := 14) (v := undef) rfl (by kernel_rfl) (by kernel_rfl) (by kernel_rfl) (by kernel_rfl) (fun _ _ _ h => h) (Or.inr ⟨by kernel_rfl, rfl⟩) SX ?_
          try go_simp
          refine wpAnyT_take (i := 15) (v := undef) rfl (by kernel_rfl) (by kernel_rfl) (by kernel_rfl) (by kernel_rfl) (fun _ _ _ h => h) (Or.inr ⟨by kernel_rfl, rfl⟩) SX ?_
          try go_simp
          refine wpAnyT_take (i := 16) (v := .bool true) rfl (by kernel_rfl) (by kernel_rfl) (by kernel_rfl) (by kernel_rfl) (fun _ _ _ h => h) (Or.inl ⟨by kernel_rfl, fun X hS => by obtain ⟨e0, e1⟩ := hS; go_simp⟩) SX ?_
          try go_simp
          refine wpAnyT_take (i := 17) (v := .bool true) rfl (by kernel_rfl) (by kernel_rfl) (by kernel_rfl) (by kernel_rfl) (fun _ _ _ h => h) (Or.inl ⟨by kernel_rfl, fun X hS => by obtain ⟨e0, e1⟩ := hS; go_simp⟩) SX ?_
          try go_simp
          refine wpAnyT_take (i := 18) (v := undef) rfl (by kernel_rfl) (by kernel_rfl) (by kernel_rfl) (by kernel_rfl) (fun _ _ _ h => h) (Or.inr ⟨by kernel_rfl, rfl⟩) SX ?_
          try go_simp
          refine wpAnyT_take (i := 19) (v := undef) rfl (by kernel_rfl) (by kernel_rfl) (by kernel_rfl) (by kernel_rfl) (fun _ _ _ h => h) (Or.inr ⟨by kernel_rfl, rfl⟩) SX ?_
          try go_simp
          refine wpAnyT_take (i := 20) (v := undef) rfl (by kernel_rfl) (by kernel_rfl) (by kernel_rfl) (by kernel_rfl) (fun _ _ _ h => h) (Or.inr ⟨by kernel_rfl, rfl⟩) SX ?_
          try go_simp
          refine wpAnyT_take (i := 21) (v := undef) rfl (by kernel_rfl) (by kernel_rfl) (by kernel_rfl) (by kernel_rfl) (fun _ _ _ h => h) (Or.inr ⟨by kernel_rfl, rfl⟩) SX ?_
          try go_simp
          refine wpAnyT_take (i := 22) (v := undef) rfl (by kernel_rfl) (by kernel_rfl) (by kernel_rfl) (by kernel_rfl) (fun _ _ _ h => h) (Or.inr ⟨by kernel_rfl, rfl⟩) SX ?_
          try go_simp
          refine wpAnyT_take (i := 23) (v := undef) rfl (by kernel_rfl) (by kernel_rfl) (by kernel_rfl) (by kernel_rfl) (fun _ _ _ h => h) (Or.inr ⟨by kernel_rfl, rfl⟩) SX ?_
          try go_simp
          refine wpAnyT_take (i := 24) (v := undef) rfl (by kernel_rfl) (by kernel_rfl) (by kernel_rfl) (by kernel_rfl) (fun _ _ _ h => h) (Or.inr ⟨by kernel_rfl, rfl⟩) SX ?_
          try go_simp
          refine wpAnyT_take (i := 25) (v := undef) rfl (by kernel_rfl) (by kernel_rfl) (by kernel_rfl) (by kernel_rfl) (fun _ _ _ h => h) (Or.inr ⟨by kernel_rfl, rfl⟩) SX ?_
          try go_simp
          refine wpAnyT_take (i := 26) (v := undef) rfl (by kernel_rfl) (by kernel_rfl) (by kernel_rfl) (by kernel_rfl) (fun _ _ _ h => h) (Or.inr ⟨by kernel_rfl, rfl⟩) SX ?_
          try go_simp
          refine wpAnyT_take (i := 27) (v := undef) rfl (by kernel_rfl) (by kernel_rfl) (by kernel_rfl) (by kernel_rfl) (fun _ _ _ h => h) (Or.inr ⟨by kernel_rfl, rfl⟩) SX ?_
          try go_simp
          refine wpAnyT_take (i := 28) (v := undef) rfl (by kernel_rfl) (by kernel_rfl) (by kernel_rfl) (by kernel_rfl) (fun _ _ _ h => h) (Or.inr ⟨by kernel_rfl, rfl⟩) SX ?_
          try go_simp
          refine wpAnyT_take (i := 29) (v := undef) rfl (by kernel_rfl) (by kernel_rfl) (by kernel_rfl) (by kernel_rfl) (fun _ _ _ h => h) (Or.inr ⟨by kernel_rfl, rfl⟩) SX ?_
          try go_simp
          refine wpAnyT_take (i := 30) (v := undef) rfl (by kernel_rfl) (by kernel_rfl) (by kernel_rfl) (by kernel_rfl) (fun _ _ _ h => h) (Or.inr ⟨by kernel_rfl, rfl⟩) SX ?_
          try go_simp
          refine wpAnyT_take (i := 31) (v := .bool true) rfl (by kernel_rfl) (by kernel_rfl) (by kernel_rfl) (by kernel_rfl) (fun _ _ _ h => h) (Or.inl ⟨by kernel_rfl, fun X hS => by obtain ⟨e0, e1⟩ := hS; go_simp⟩) SX ?_
          try go_simp
          refine wpAnyT_drop _ 32 _ _ _ (by decide) (by kernel_rfl) ?_
          change wpList _ _ _ [] _ _
          go_wp2
          go_ret
          exact ⟨ret_bool HR.out.symm, (HB.out.alloc HB.out.size _).drew⟩
      | true =>
        obtain ⟨cc, rfl⟩ : ∃ c, l = [c] := by
          match l, hv with
          | [c], _ => exact ⟨c, rfl⟩
        cases ht : (ty t).isSome with
        | false =>
          have HV : Hid (isV cc = true) := hv
          have HT := hid ht
          have HR : Hid (bvB xs = false) := bvB_no hlt fun ⟨c, y, h1, _, h2, _⟩ => by
            rw [HG.out] at h1
            simp only [Option.some.injEq, Prod.mk.injEq] at h1
            rw [← h1.2] at h2
            exact absurd (ht.symm.trans h2) (by simp)
          clear hv ht
          go_wp2
          refine wp_region_any (by kernel_rfl) ?_
          change wpAny _ _ _ _ _ _ _ (World.drew _)
          have SX : (wr.alloc (.cells #[.string ⟨#[cc]⟩, .string ⟨t.toArray⟩] 46)).drew.cell? ⟨wr.heap.size, 0, none⟩ = some (.string ⟨#[cc]⟩) ∧ (wr.alloc (.cells #[.string ⟨#[cc]⟩, .string ⟨t.toArray⟩] 46)).drew.cell? ⟨wr.heap.size, 1, none⟩ = some (.string ⟨t.toArray⟩) := ⟨heap_cell (heap_alloc_new wr _) 0, heap_cell (heap_alloc_new wr _) 1⟩
          refine wpAny_of_T (S := fun X => X.cell? ⟨wr.heap.size, 0, none⟩ = some (.string ⟨#[cc]⟩) ∧ X.cell? ⟨wr.heap.size, 1, none⟩ = some (.string ⟨t.toArray⟩)) (m := 32) _ _ _ _ ?_
          refine wpAnyT_take (i := 0) (v := .pointer (some ⟨wr.heap.size, 0, none⟩)) rfl (by kernel_rfl) (by kernel_rfl) (by kernel_rfl) (by kernel_rfl) (fun _ _ _ h => h) (Or.inl ⟨by kernel_rfl, fun X hS => by obtain ⟨e0, e1⟩ := hS; go_simp⟩) SX ?_
          try go_simp
          refine wpAnyT_take (i := 1) (v := .string ⟨#[cc]⟩) rfl (by kernel_rfl) (by kernel_rfl) (by kernel_rfl) (by kernel_rfl) (fun _ _ _ h => h) (Or.inl ⟨by kernel_rfl, fun X hS => by obtain ⟨e0, e1⟩ := hS; go_simp⟩) SX ?_
          try go_simp
          refine wpAnyT_take (i := 2) (v := .int .i64 1) rfl (by kernel_rfl) (by kernel_rfl) (by kernel_rfl) (by kernel_rfl) (fun _ _ _ h => h) (Or.inl ⟨by kernel_rfl, fun X hS => by obtain ⟨e0, e1⟩ := hS; go_simp⟩) SX ?_
          try go_simp
          refine wpAnyT_take (i := 3) (v := .bool false) rfl (by kernel_rfl) (by kernel_rfl) (by kernel_rfl) (by kernel_rfl) (fun _ _ _ h => h) (Or.inl ⟨by kernel_rfl, fun X hS => by obtain ⟨e0, e1⟩ := hS; go_simp⟩) SX ?_
          try go_simp
          refine wpAnyT_take (i := 4) (v := .bool false) rfl (by kernel_rfl) (by kernel_rfl) (by kernel_rfl) (by kernel_rfl) (fun _ _ _ h => h) (Or.inl ⟨by kernel_rfl, fun X hS => by obtain ⟨e0, e1⟩ := hS; go_simp⟩) SX ?_
          try go_simp
          refine wpAnyT_take (i := 5) (v := .pointer (some ⟨wr.heap.size, 0, none⟩)) rfl (by kernel_rfl) (by kernel_rfl) (by kernel_rfl) (by kernel_rfl) (fun _ _ _ h => h) (Or.inl ⟨by kernel_rfl, fun X hS => by obtain ⟨e0, e1⟩ := hS; go_simp⟩) SX ?_
          try go_simp
          refine wpAnyT_take (i := 6) (v := .string ⟨#[cc]⟩) rfl (by kernel_rfl) (by kernel_rfl) (by kernel_rfl) (by kernel_rfl) (fun _ _ _ h => h) (Or.inl ⟨by kernel_rfl, fun X hS => by obtain ⟨e0, e1⟩ := hS; go_simp⟩) SX ?_
          try go_simp
          refine wpAnyT_take (i := 7) (v := .int .u8 cc.toNat) rfl (by kernel_rfl) (by kernel_rfl) (by kernel_rfl) (by kernel_rfl) (fun _ _ _ h => h) (Or.inl ⟨by kernel_rfl, fun X hS => by clear hS; go_simp; rfl⟩) SX ?_
          try go_simp
          refine wpAnyT_one 8 rfl (by kernel_rfl) (fun K hK => ?_)
          go_simp
          refine (l1Variable_any cc _).mono ?_
          rintro e w' ⟨rfl, rfl⟩
          rw [HV.out]
          refine hK _ _ (fun _ => SX) ?_
          clear hK K
          refine wpAnyT_take (i := 9) (v := .bool false) rfl (by kernel_rfl) (by kernel_rfl) (by kernel_rfl) (by kernel_rfl) (fun _ _ _ h => h) (Or.inl ⟨by kernel_rfl, fun X hS => by obtain ⟨e0, e1⟩ := hS; go_simp⟩) SX ?_
          try go_simp
          refine wpAnyT_take (i := 10) (v := .bool false) rfl (by kernel_rfl) (by kernel_rfl) (by kernel_rfl) (by kernel_rfl) (fun _ _ _ h => h) (Or.inl ⟨by kernel_rfl, fun X hS => by obtain ⟨e0, e1⟩ := hS; go_simp⟩) SX ?_
          try go_simp
          refine wpAnyT_take (i := 11) (v := .bool false) rfl (by kernel_rfl) (by kernel_rfl) (by kernel_rfl) (by kernel_rfl) (fun _ _ _ h => h) (Or.inl ⟨by kernel_rfl, fun X hS => by obtain ⟨e0, e1⟩ := hS; go_simp⟩) SX ?_
          try go_simp
          refine wpAnyT_take (i := 12) (v := .pointer (some ⟨wr.heap.size, 1, none⟩)) rfl (by kernel_rfl) (by kernel_rfl) (by kernel_rfl) (by kernel_rfl) (fun _ _ _ h => h) (Or.inl ⟨by kernel_rfl, fun X hS => by obtain ⟨e0, e1⟩ := hS; go_simp⟩) SX ?_
          try go_simp
          refine wpAnyT_take (i := 13) (v := .string ⟨t.toArray⟩) rfl (by kernel_rfl) (by kernel_rfl) (by kernel_rfl) (by kernel_rfl) (fun _ _ _ h => h) (Or.inl ⟨by kernel_rfl, fun X hS => by obtain ⟨e0, e1⟩ := hS; go_simp⟩) SX ?_
          try go_simp
          refine wpAnyT_one 14 rfl (by kernel_rfl) (fun K hK => ?_)
          go_simp
          refine (TypeValid_spec t _ (by unfold maxLen; omega)).mono ?_
          rintro e w1 ⟨rfl, hb⟩
          have B1 : Hid (Below w.heap.size w w1) := (((HB.out.alloc HB.out.size (.cells #[.string ⟨#[cc]⟩, .string ⟨t.toArray⟩] 46)).drew).trans (hb.mono (by show w.heap.size ≤ (wr.alloc (.cells #[.string ⟨#[cc]⟩, .string ⟨t.toArray⟩] 46)).heap.size; have := HB.out.size; simp; omega)))
          have SY : w1.cell? ⟨wr.heap.size, 0, none⟩ = some (.string ⟨#[cc]⟩) ∧ w1.cell? ⟨wr.heap.size, 1, none⟩ = some (.string ⟨t.toArray⟩) := ⟨(hb.cell (lt_of_cell SX.1)).trans SX.1, (hb.cell (lt_of_cell SX.2)).trans SX.2⟩
          clear hb
          rw [HT.out]
          refine hK _ _ (fun _ => SY) ?_
          clear hK K
          refine wpAnyT_take (i := 15) (v := .bool true) rfl (by kernel_rfl) (by kernel_rfl) (by kernel_rfl) (by kernel_rfl) (fun _ _ _ h => h) (Or.inl ⟨by kernel_rfl, fun X hS => by obtain ⟨e0, e1⟩ := hS; go_simp⟩) SY ?_
          try go_simp
          refine wpAnyT_take (i := 16) (v := .bool true) rfl (by kernel_rfl) (by kernel_rfl) (by kernel_rfl) (by kernel_rfl) (fun _ _ _ h => h) (Or.inl ⟨by kernel_rfl, fun X hS => by obtain ⟨e0, e1⟩ := hS; go_simp⟩) SY ?_
          try go_simp
          refine wpAnyT_take (i := 17) (v := .bool true) rfl (by kernel_rfl) (by kernel_rfl) (by kernel_rfl) (by kernel_rfl) (fun _ _ _ h => h) (Or.inl ⟨by kernel_rfl, fun X hS => by obtain ⟨e0, e1⟩ := hS; go_simp⟩) SY ?_
          try go_simp
          refine wpAnyT_take (i := 18) (v := undef) rfl (by kernel_rfl) (by kernel_rfl) (by kernel_rfl) (by kernel_rfl) (fun _ _ _ h => h) (Or.inr ⟨by kernel_rfl, rfl⟩) SY ?_
          try go_simp
          refine wpAnyT_take (i := 19) (v := undef) rfl (by kernel_rfl) (by kernel_rfl) (by kernel_rfl) (by kernel_rfl) (fun _ _ _ h => h) (Or.inr ⟨by kernel_rfl, rfl⟩) SY ?_
          try go_simp
          refine wpAnyT_take (i := 20) (v := undef) rfl (by kernel_rfl) (by kernel_rfl) (by kernel_rfl) (by kernel_rfl) (fun _ _ _ h => h) (Or.inr ⟨by kernel_rfl, rfl⟩) SY ?_
          try go_simp
          refine wpAnyT_take (i := 21) (v := undef) rfl (by kernel_rfl) (by kernel_rfl) (by kernel_rfl) (by kernel_rfl) (fun _ _ _ h => h) (Or.inr ⟨by kernel_rfl, rfl⟩) SY ?_
          try go_simp
          refine wpAnyT_take (i := 22) (v := undef) rfl (by kernel_rfl) (by kernel_rfl) (by kernel_rfl) (by kernel_rfl) (fun _ _ _ h => h) (Or.inr ⟨by kernel_rfl, rfl⟩) SY ?_
          try go_simp
          refine wpAnyT_take (i := 23) (v := undef) rfl (by kernel_rfl) (by kernel_rfl) (by kernel_rfl) (by kernel_rfl) (fun _ _ _ h => h) (Or.inr ⟨by kernel_rfl, rfl⟩) SY ?_
          try go_simp
          refine wpAnyT_take (i := 24) (v := undef) rfl (by kernel_rfl) (by kernel_rfl) (by kernel_rfl) (by kernel_rfl) (fun _ _ _ h => h) (Or.inr ⟨by kernel_rfl, rfl⟩) SY ?_
          try go_simp
          refine wpAnyT_take (i := 25) (v := undef) rfl (by kernel_rfl) (by kernel_rfl) (by kernel_rfl) (by kernel_rfl) (fun _ _ _ h => h) (Or.inr ⟨by kernel_rfl, rfl⟩) SY ?_
          try go_simp
          refine wpAnyT_take (i := 26) (v := undef) rfl (by kernel_rfl) (by kernel_rfl) (by kernel_rfl) (by kernel_rfl) (fun _ _ _ h => h) (Or.inr ⟨by kernel_rfl, rfl⟩) SY ?_
          try go_simp
          refine wpAnyT_take (i := 27) (v := undef) rfl (by kernel_rfl) (by kernel_rfl) (by kernel_rfl) (by kernel_rfl) (fun _ _ _ h => h) (Or.inr ⟨by kernel_rfl, rfl⟩) SY ?_
          try go_simp
          refine wpAnyT_take (i := 28) (v := undef) rfl (by kernel_rfl) (by kernel_rfl) (by kernel_rfl) (by kernel_rfl) (fun _ _ _ h => h) (Or.inr ⟨by kernel_rfl, rfl⟩) SY ?_
          try go_simp
          refine wpAnyT_take (i := 29) (v := undef) rfl (by kernel_rfl) (by kernel_rfl) (by kernel_rfl) (by kernel_rfl) (fun _ _ _ h => h) (Or.inr ⟨by kernel_rfl, rfl⟩) SY ?_
          try go_simp
          refine wpAnyT_take (i := 30) (v := undef) rfl (by kernel_rfl) (by kernel_rfl) (by kernel_rfl) (by kernel_rfl) (fun _ _ _ h => h) (Or.inr ⟨by kernel_rfl, rfl⟩) SY ?_
          try go_simp
          refine wpAnyT_take (i := 31) (v := .bool true) rfl (by kernel_rfl) (by kernel_rfl) (by kernel_rfl) (by kernel_rfl) (fun _ _ _ h => h) (Or.inl ⟨by kernel_rfl, fun X hS => by obtain ⟨e0, e1⟩ := hS; go_simp⟩) SY ?_
          try go_simp
          refine wpAnyT_drop _ 32 _ _ _ (by decide) (by kernel_rfl) ?_
          change wpList _ _ _ [] _ _
          go_wp2
          go_ret
          exact ⟨ret_bool HR.out.symm, B1.out⟩
        | true =>
          have HV : Hid (isV cc = true) := hv
          have HT := hid ht
          have hv2 : Hid (isV cc = true) := hv
          clear hv ht
          match k, hk, hlt, hgood, k0, k1, HG with
          | 0, hk, hlt, hgood, k0, k1, HG =>
            have HN : Hid (∀ j, j < 0 + 1 → good xs j) := fun j hj => by
              obtain rfl : j = 0 := by omega
              exact ⟨cc, _, HG.out, hv2.out, HT.out, fun j h => by omega⟩
            clear hgood
            simp only [Nat.zero_mul, Nat.add_zero] at k0 k1
            go_wp2
            refine wp_region_any (by kernel_rfl) ?_
            change wpAny _ _ _ _ _ _ _ (World.drew _)
            have SX : (wr.alloc (.cells #[.string ⟨#[cc]⟩, .string ⟨t.toArray⟩] 46)).drew.cell? ⟨wr.heap.size, 0, none⟩ = some (.string ⟨#[cc]⟩) ∧ (wr.alloc (.cells #[.string ⟨#[cc]⟩, .string ⟨t.toArray⟩] 46)).drew.cell? ⟨wr.heap.size, 1, none⟩ = some (.string ⟨t.toArray⟩) := ⟨heap_cell (heap_alloc_new wr _) 0, heap_cell (heap_alloc_new wr _) 1⟩
            refine wpAny_of_T (S := fun X => X.cell? ⟨wr.heap.size, 0, none⟩ = some (.string ⟨#[cc]⟩) ∧ X.cell? ⟨wr.heap.size, 1, none⟩ = some (.string ⟨t.toArray⟩)) (m := 32) _ _ _ _ ?_
            refine wpAnyT_take (i := 0) (v := .pointer (some ⟨wr.heap.size, 0, none⟩)) rfl (by kernel_rfl) (by kernel_rfl) (by kernel_rfl) (by kernel_rfl) (fun _ _ _ h => h) (Or.inl ⟨by kernel_rfl, fun X hS => by obtain ⟨e0, e1⟩ := hS; go_simp⟩) SX ?_
            try go_simp
            refine wpAnyT_take (i := 1) (v := .string ⟨#[cc]⟩) rfl (by kernel_rfl) (by kernel_rfl) (by kernel_rfl) (by kernel_rfl) (fun _ _ _ h => h) (Or.inl ⟨by kernel_rfl, fun X hS => by obtain ⟨e0, e1⟩ := hS; go_simp⟩) SX ?_
            try go_simp
            refine wpAnyT_take (i := 2) (v := .int .i64 1) rfl (by kernel_rfl) (by kernel_rfl) (by kernel_rfl) (by kernel_rfl) (fun _ _ _ h => h) (Or.inl ⟨by kernel_rfl, fun X hS => by obtain ⟨e0, e1⟩ := hS; go_simp⟩) SX ?_
            try go_simp
            refine wpAnyT_take (i := 3) (v := .bool false) rfl (by kernel_rfl) (by kernel_rfl) (by kernel_rfl) (by kernel_rfl) (fun _ _ _ h => h) (Or.inl ⟨by kernel_rfl, fun X hS => by obtain ⟨e0, e1⟩ := hS; go_simp⟩) SX ?_
            try go_simp
            refine wpAnyT_take (i := 4) (v := .bool false) rfl (by kernel_rfl) (by kernel_rfl) (by kernel_rfl) (by kernel_rfl) (fun _ _ _ h => h) (Or.inl ⟨by kernel_rfl, fun X hS => by obtain ⟨e0, e1⟩ := hS; go_simp⟩) SX ?_
            try go_simp
            refine wpAnyT_take (i := 5) (v := .pointer (some ⟨wr.heap.size, 0, none⟩)) rfl (by kernel_rfl) (by kernel_rfl) (by kernel_rfl) (by kernel_rfl) (fun _ _ _ h => h) (Or.inl ⟨by kernel_rfl, fun X hS => by obtain ⟨e0, e1⟩ := hS; go_simp⟩) SX ?_
            try go_simp
            refine wpAnyT_take (i := 6) (v := .string ⟨#[cc]⟩) rfl (by kernel_rfl) (by kernel_rfl) (by kernel_rfl) (by kernel_rfl) (fun _ _ _ h => h) (Or.inl ⟨by kernel_rfl, fun X hS => by obtain ⟨e0, e1⟩ := hS; go_simp⟩) SX ?_
            try go_simp
            refine wpAnyT_take (i := 7) (v := .int .u8 cc.toNat) rfl (by kernel_rfl) (by kernel_rfl) (by kernel_rfl) (by kernel_rfl) (fun _ _ _ h => h) (Or.inl ⟨by kernel_rfl, fun X hS => by clear hS; go_simp; rfl⟩) SX ?_
            try go_simp
            refine wpAnyT_one 8 rfl (by kernel_rfl) (fun K hK => ?_)
            go_simp
            refine (l1Variable_any cc _).mono ?_
            rintro e w' ⟨rfl, rfl⟩
            rw [HV.out]
            refine hK _ _ (fun _ => SX) ?_
            clear hK K
            refine wpAnyT_take (i := 9) (v := .bool false) rfl (by kernel_rfl) (by kernel_rfl) (by kernel_rfl) (by kernel_rfl) (fun _ _ _ h => h) (Or.inl ⟨by kernel_rfl, fun X hS => by obtain ⟨e0, e1⟩ := hS; go_simp⟩) SX ?_
            try go_simp
            refine wpAnyT_take (i := 10) (v := .bool false) rfl (by kernel_rfl) (by kernel_rfl) (by kernel_rfl) (by kernel_rfl) (fun _ _ _ h => h) (Or.inl ⟨by kernel_rfl, fun X hS => by obtain ⟨e0, e1⟩ := hS; go_simp⟩) SX ?_
            try go_simp
            refine wpAnyT_take (i := 11) (v := .bool false) rfl (by kernel_rfl) (by kernel_rfl) (by kernel_rfl) (by kernel_rfl) (fun _ _ _ h => h) (Or.inl ⟨by kernel_rfl, fun X hS => by obtain ⟨e0, e1⟩ := hS; go_simp⟩) SX ?_
            try go_simp
            refine wpAnyT_take (i := 12) (v := .pointer (some ⟨wr.heap.size, 1, none⟩)) rfl (by kernel_rfl) (by kernel_rfl) (by kernel_rfl) (by kernel_rfl) (fun _ _ _ h => h) (Or.inl ⟨by kernel_rfl, fun X hS => by obtain ⟨e0, e1⟩ := hS; go_simp⟩) SX ?_
            try go_simp
            refine wpAnyT_take (i := 13) (v := .string ⟨t.toArray⟩) rfl (by kernel_rfl) (by kernel_rfl) (by kernel_rfl) (by kernel_rfl) (fun _ _ _ h => h) (Or.inl ⟨by kernel_rfl, fun X hS => by obtain ⟨e0, e1⟩ := hS; go_simp⟩) SX ?_
            try go_simp
            refine wpAnyT_one 14 rfl (by kernel_rfl) (fun K hK => ?_)
            go_simp
            refine (TypeValid_spec t _ (by unfold maxLen; omega)).mono ?_
            rintro e w1 ⟨rfl, hb⟩
            have B1 : Hid (Below w.heap.size w w1) := (((HB.out.alloc HB.out.size (.cells #[.string ⟨#[cc]⟩, .string ⟨t.toArray⟩] 46)).drew).trans (hb.mono (by show w.heap.size ≤ (wr.alloc (.cells #[.string ⟨#[cc]⟩, .string ⟨t.toArray⟩] 46)).heap.size; have := HB.out.size; simp; omega)))
            have SY : w1.cell? ⟨wr.heap.size, 0, none⟩ = some (.string ⟨#[cc]⟩) ∧ w1.cell? ⟨wr.heap.size, 1, none⟩ = some (.string ⟨t.toArray⟩) := ⟨(hb.cell (lt_of_cell SX.1)).trans SX.1, (hb.cell (lt_of_cell SX.2)).trans SX.2⟩
            clear hb
            rw [HT.out]
            refine hK _ _ (fun _ => SY) ?_
            clear hK K
            refine wpAnyT_take (i := 15) (v := .bool false) rfl (by kernel_rfl) (by kernel_rfl) (by kernel_rfl) (by kernel_rfl) (fun _ _ _ h => h) (Or.inl ⟨by kernel_rfl, fun X hS => by obtain ⟨e0, e1⟩ := hS; go_simp⟩) SY ?_
            try go_simp
            refine wpAnyT_take (i := 16) (v := .bool false) rfl (by kernel_rfl) (by kernel_rfl) (by kernel_rfl) (by kernel_rfl) (fun _ _ _ h => h) (Or.inl ⟨by kernel_rfl, fun X hS => by obtain ⟨e0, e1⟩ := hS; go_simp⟩) SY ?_
            try go_simp
            refine wpAnyT_take (i := 17) (v := .bool false) rfl (by kernel_rfl) (by kernel_rfl) (by kernel_rfl) (by kernel_rfl) (fun _ _ _ h => h) (Or.inl ⟨by kernel_rfl, fun X hS => by obtain ⟨e0, e1⟩ := hS; go_simp⟩) SY ?_
            try go_simp
            refine wpAnyT_take (i := 18) (v := .int .i64 0) rfl (by kernel_rfl) (by kernel_rfl) (by kernel_rfl) (by kernel_rfl) (fun _ _ _ h => h) (Or.inl ⟨by kernel_rfl, fun X hS => by obtain ⟨e0, e1⟩ := hS; go_simp⟩) SY ?_
            try go_simp
            refine wpAnyT_take (i := 19) (v := .bool false) rfl (by kernel_rfl) (by kernel_rfl) (by kernel_rfl) (by kernel_rfl) (fun _ _ _ h => h) (Or.inl ⟨by kernel_rfl, fun X hS => by obtain ⟨e0, e1⟩ := hS; go_simp⟩) SY ?_
            try go_simp
            refine wpAnyT_take (i := 20) (v := .bool false) rfl (by kernel_rfl) (by kernel_rfl) (by kernel_rfl) (by kernel_rfl) (fun _ _ _ h => h) (Or.inl ⟨by kernel_rfl, fun X hS => by obtain ⟨e0, e1⟩ := hS; go_simp⟩) SY ?_
            try go_simp
            refine wpAnyT_take (i := 21) (v := undef) rfl (by kernel_rfl) (by kernel_rfl) (by kernel_rfl) (by kernel_rfl) (fun _ _ _ h => h) (Or.inr ⟨by kernel_rfl, rfl⟩) SY ?_
            try go_simp
            refine wpAnyT_take (i := 22) (v := undef) rfl (by kernel_rfl) (by kernel_rfl) (by kernel_rfl) (by kernel_rfl) (fun _ _ _ h => h) (Or.inr ⟨by kernel_rfl, rfl⟩) SY ?_
            try go_simp
            refine wpAnyT_take (i := 23) (v := undef) rfl (by kernel_rfl) (by kernel_rfl) (by kernel_rfl) (by kernel_rfl) (fun _ _ _ h => h) (Or.inr ⟨by kernel_rfl, rfl⟩) SY ?_
            try go_simp
            refine wpAnyT_take (i := 24) (v := undef) rfl (by kernel_rfl) (by kernel_rfl) (by kernel_rfl) (by kernel_rfl) (fun _ _ _ h => h) (Or.inr ⟨by kernel_rfl, rfl⟩) SY ?_
            try go_simp
            refine wpAnyT_take (i := 25) (v := undef) rfl (by kernel_rfl) (by kernel_rfl) (by kernel_rfl) (by kernel_rfl) (fun _ _ _ h => h) (Or.inr ⟨by kernel_rfl, rfl⟩) SY ?_
            try go_simp
            refine wpAnyT_take (i := 26) (v := undef) rfl (by kernel_rfl) (by kernel_rfl) (by kernel_rfl) (by kernel_rfl) (fun _ _ _ h => h) (Or.inr ⟨by kernel_rfl, rfl⟩) SY ?_
            try go_simp
            refine wpAnyT_take (i := 27) (v := undef) rfl (by kernel_rfl) (by kernel_rfl) (by kernel_rfl) (by kernel_rfl) (fun _ _ _ h => h) (Or.inr ⟨by kernel_rfl, rfl⟩) SY ?_
            try go_simp
            refine wpAnyT_take (i := 28) (v := undef) rfl (by kernel_rfl) (by kernel_rfl) (by kernel_rfl) (by kernel_rfl) (fun _ _ _ h => h) (Or.inr ⟨by kernel_rfl, rfl⟩) SY ?_
            try go_simp
            refine wpAnyT_take (i := 29) (v := undef) rfl (by kernel_rfl) (by kernel_rfl) (by kernel_rfl) (by kernel_rfl) (fun _ _ _ h => h) (Or.inr ⟨by kernel_rfl, rfl⟩) SY ?_
            try go_simp
            refine wpAnyT_take (i := 30) (v := .bool false) rfl (by kernel_rfl) (by kernel_rfl) (by kernel_rfl) (by kernel_rfl) (fun _ _ _ h => h) (Or.inl ⟨by kernel_rfl, fun X hS => by obtain ⟨e0, e1⟩ := hS; go_simp⟩) SY ?_
            try go_simp
            refine wpAnyT_take (i := 31) (v := .bool false) rfl (by kernel_rfl) (by kernel_rfl) (by kernel_rfl) (by kernel_rfl) (fun _ _ _ h => h) (Or.inl ⟨by kernel_rfl, fun X hS => by obtain ⟨e0, e1⟩ := hS; go_simp⟩) SY ?_
            try go_simp
            refine wpAnyT_drop _ 32 _ _ _ (by decide) (by kernel_rfl) ?_
            change wpList _ _ _ [] _ _
            go_wp2
            exact ⟨⟨1, by omega, rfl, HN.out, B1.out⟩, by simp [intOf]; omega⟩
          | j + 1, hk, hlt, hgood, k0, k1, HG =>
            obtain ⟨d, z, hd, hdv, -, -⟩ := hgood.out j (by omega)
            have kp := (HB.out.cell (lt_of_cell (HC.out j _ hd).1)).trans (HC.out j _ hd).1
            have HD := hid hd
            have HGD := hid hgood.out
            have hjb : j + 1 < xs.length := hlt
            clear hd hdv hgood
            by_cases hlt2 : d.toNat < cc.toNat
            · have HN : Hid (∀ i, i < j + 1 + 1 → good xs i) := fun i hi => by
                by_cases e : i < j + 1
                · exact HGD.out i e
                · obtain rfl : i = j + 1 := by omega
                  exact ⟨cc, _, HG.out, hv2.out, HT.out, fun q hq => by obtain rfl : q = j := by omega
                                                                        exact ⟨d, z, HD.out, hlt2⟩⟩
              have hdec : decide (cc.toNat ≤ d.toNat) = false := decide_eq_false (by omega)
              have HDEC := hid hdec
              clear hlt2 hdec
              go_wp2
              refine wp_region_any (by kernel_rfl) ?_
              change wpAny _ _ _ _ _ _ _ (World.drew _)
              have kpA : (wr.alloc (.cells #[.string ⟨#[cc]⟩, .string ⟨t.toArray⟩] 46)).drew.cell? ⟨bk, off + j * 2, none⟩ = some (.string ⟨#[d]⟩) := by
                have h := (((Below.refl wr.heap.size wr).alloc (Nat.le_refl _) (.cells #[.string ⟨#[cc]⟩, .string ⟨t.toArray⟩] 46)).cell (lt_of_cell kp)).trans kp
                exact h
              clear kp
              have SX : (wr.alloc (.cells #[.string ⟨#[cc]⟩, .string ⟨t.toArray⟩] 46)).drew.cell? ⟨wr.heap.size, 0, none⟩ = some (.string ⟨#[cc]⟩) ∧ (wr.alloc (.cells #[.string ⟨#[cc]⟩, .string ⟨t.toArray⟩] 46)).drew.cell? ⟨wr.heap.size, 1, none⟩ = some (.string ⟨t.toArray⟩) ∧ (wr.alloc (.cells #[.string ⟨#[cc]⟩, .string ⟨t.toArray⟩] 46)).drew.cell? ⟨bk, off + j * 2, none⟩ = some (.string ⟨#[d]⟩) := ⟨heap_cell (heap_alloc_new wr _) 0, heap_cell (heap_alloc_new wr _) 1, kpA⟩
              refine wpAny_of_T (S := fun X => X.cell? ⟨wr.heap.size, 0, none⟩ = some (.string ⟨#[cc]⟩) ∧ X.cell? ⟨wr.heap.size, 1, none⟩ = some (.string ⟨t.toArray⟩) ∧ X.cell? ⟨bk, off + j * 2, none⟩ = some (.string ⟨#[d]⟩)) (m := 32) _ _ _ _ ?_
              refine wpAnyT_take (i := 0) (v := .pointer (some ⟨wr.heap.size, 0, none⟩)) rfl (by kernel_rfl) (by kernel_rfl) (by kernel_rfl) (by kernel_rfl) (fun _ _ _ h => h) (Or.inl ⟨by kernel_rfl, fun X hS => by obtain ⟨e0, e1, e2⟩ := hS; go_simp⟩) SX ?_
              try go_simp
              refine wpAnyT_take (i := 1) (v := .string ⟨#[cc]⟩) rfl (by kernel_rfl) (by kernel_rfl) (by kernel_rfl) (by kernel_rfl) (fun _ _ _ h => h) (Or.inl ⟨by kernel_rfl, fun X hS => by obtain ⟨e0, e1, e2⟩ := hS; go_simp⟩) SX ?_
              try go_simp
              refine wpAnyT_take (i := 2) (v := .int .i64 1) rfl (by kernel_rfl) (by kernel_rfl) (by kernel_rfl) (by kernel_rfl) (fun _ _ _ h => h) (Or.inl ⟨by kernel_rfl, fun X hS => by obtain ⟨e0, e1, e2⟩ := hS; go_simp⟩) SX ?_
              try go_simp
              refine wpAnyT_take (i := 3) (v := .bool false) rfl (by kernel_rfl) (by kernel_rfl) (by kernel_rfl) (by kernel_rfl) (fun _ _ _ h => h) (Or.inl ⟨by kernel_rfl, fun X hS => by obtain ⟨e0, e1, e2⟩ := hS; go_simp⟩) SX ?_
              try go_simp
              refine wpAnyT_take (i := 4) (v := .bool false) rfl (by kernel_rfl) (by kernel_rfl) (by kernel_rfl) (by kernel_rfl) (fun _ _ _ h => h) (Or.inl ⟨by kernel_rfl, fun X hS => by obtain ⟨e0, e1, e2⟩ := hS; go_simp⟩) SX ?_
              try go_simp
              refine wpAnyT_take (i := 5) (v := .pointer (some ⟨wr.heap.size, 0, none⟩)) rfl (by kernel_rfl) (by kernel_rfl) (by kernel_rfl) (by kernel_rfl) (fun _ _ _ h => h) (Or.inl ⟨by kernel_rfl, fun X hS => by obtain ⟨e0, e1, e2⟩ := hS; go_simp⟩) SX ?_
              try go_simp
              refine wpAnyT_take (i := 6) (v := .string ⟨#[cc]⟩) rfl (by kernel_rfl) (by kernel_rfl) (by kernel_rfl) (by kernel_rfl) (fun _ _ _ h => h) (Or.inl ⟨by kernel_rfl, fun X hS => by obtain ⟨e0, e1, e2⟩ := hS; go_simp⟩) SX ?_
              try go_simp
              refine wpAnyT_take (i := 7) (v := .int .u8 cc.toNat) rfl (by kernel_rfl) (by kernel_rfl) (by kernel_rfl) (by kernel_rfl) (fun _ _ _ h => h) (Or.inl ⟨by kernel_rfl, fun X hS => by clear hS; go_simp; rfl⟩) SX ?_
              try go_simp
              refine wpAnyT_one 8 rfl (by kernel_rfl) (fun K hK => ?_)
              go_simp
              refine (l1Variable_any cc _).mono ?_
              rintro e w' ⟨rfl, rfl⟩
              rw [HV.out]
              refine hK _ _ (fun _ => SX) ?_
              clear hK K
              refine wpAnyT_take (i := 9) (v := .bool false) rfl (by kernel_rfl) (by kernel_rfl) (by kernel_rfl) (by kernel_rfl) (fun _ _ _ h => h) (Or.inl ⟨by kernel_rfl, fun X hS => by obtain ⟨e0, e1, e2⟩ := hS; go_simp⟩) SX ?_
              try go_simp
              refine wpAnyT_take (i := 10) (v := .bool false) rfl (by kernel_rfl) (by kernel_rfl) (by kernel_rfl) (by kernel_rfl) (fun _ _ _ h => h) (Or.inl ⟨by kernel_rfl, fun X hS => by obtain ⟨e0, e1, e2⟩ := hS; go_simp⟩) SX ?_
              try go_simp
              refine wpAnyT_take (i := 11) (v := .bool false) rfl (by kernel_rfl) (by kernel_rfl) (by kernel_rfl) (by kernel_rfl) (fun _ _ _ h => h) (Or.inl ⟨by kernel_rfl, fun X hS => by obtain ⟨e0, e1, e2⟩ := hS; go_simp⟩) SX ?_
              try go_simp
              refine wpAnyT_take (i := 12) (v := .pointer (some ⟨wr.heap.size, 1, none⟩)) rfl (by kernel_rfl) (by kernel_rfl) (by kernel_rfl) (by kernel_rfl) (fun _ _ _ h => h) (Or.inl ⟨by kernel_rfl, fun X hS => by obtain ⟨e0, e1, e2⟩ := hS; go_simp⟩) SX ?_
              try go_simp
              refine wpAnyT_take (i := 13) (v := .string ⟨t.toArray⟩) rfl (by kernel_rfl) (by kernel_rfl) (by kernel_rfl) (by kernel_rfl) (fun _ _ _ h => h) (Or.inl ⟨by kernel_rfl, fun X hS => by obtain ⟨e0, e1, e2⟩ := hS; go_simp⟩) SX ?_
              try go_simp
              refine wpAnyT_one 14 rfl (by kernel_rfl) (fun K hK => ?_)
              go_simp
              refine (TypeValid_spec t _ (by unfold maxLen; omega)).mono ?_
              rintro e w1 ⟨rfl, hb⟩
              have B1 : Hid (Below w.heap.size w w1) := (((HB.out.alloc HB.out.size (.cells #[.string ⟨#[cc]⟩, .string ⟨t.toArray⟩] 46)).drew).trans (hb.mono (by show w.heap.size ≤ (wr.alloc (.cells #[.string ⟨#[cc]⟩, .string ⟨t.toArray⟩] 46)).heap.size; have := HB.out.size; simp; omega)))
              have SY : w1.cell? ⟨wr.heap.size, 0, none⟩ = some (.string ⟨#[cc]⟩) ∧ w1.cell? ⟨wr.heap.size, 1, none⟩ = some (.string ⟨t.toArray⟩) ∧ w1.cell? ⟨bk, off + j * 2, none⟩ = some (.string ⟨#[d]⟩) := ⟨(hb.cell (lt_of_cell SX.1)).trans SX.1, (hb.cell (lt_of_cell SX.2.1)).trans SX.2.1, (hb.cell (lt_of_cell SX.2.2)).trans SX.2.2⟩
              clear hb
              rw [HT.out]
              refine hK _ _ (fun _ => SY) ?_
              clear hK K
              refine wpAnyT_take (i := 15) (v := .bool false) rfl (by kernel_rfl) (by kernel_rfl) (by kernel_rfl) (by kernel_rfl) (fun _ _ _ h => h) (Or.inl ⟨by kernel_rfl, fun X hS => by obtain ⟨e0, e1, e2⟩ := hS; go_simp⟩) SY ?_
              try go_simp
              refine wpAnyT_take (i := 16) (v := .bool false) rfl (by kernel_rfl) (by kernel_rfl) (by kernel_rfl) (by kernel_rfl) (fun _ _ _ h => h) (Or.inl ⟨by kernel_rfl, fun X hS => by obtain ⟨e0, e1, e2⟩ := hS; go_simp⟩) SY ?_
              try go_simp
              refine wpAnyT_take (i := 17) (v := .bool false) rfl (by kernel_rfl) (by kernel_rfl) (by kernel_rfl) (by kernel_rfl) (fun _ _ _ h => h) (Or.inl ⟨by kernel_rfl, fun X hS => by obtain ⟨e0, e1, e2⟩ := hS; go_simp⟩) SY ?_
              try go_simp
              refine wpAnyT_take (i := 18) (v := .int .i64 (j + 1)) rfl (by kernel_rfl) (by kernel_rfl) (by kernel_rfl) (by kernel_rfl) (fun _ _ _ h => h) (Or.inl ⟨by kernel_rfl, fun X hS => by obtain ⟨e0, e1, e2⟩ := hS; go_simp⟩) SY ?_
              try go_simp
              refine wpAnyT_take (i := 19) (v := .bool true) rfl (by kernel_rfl) (by kernel_rfl) (by kernel_rfl) (by kernel_rfl) (fun _ _ _ h => h) (Or.inl ⟨by kernel_rfl, fun X hS => by obtain ⟨e0, e1, e2⟩ := hS; go_simp⟩) SY ?_
              try go_simp
              refine wpAnyT_take (i := 20) (v := .bool true) rfl (by kernel_rfl) (by kernel_rfl) (by kernel_rfl) (by kernel_rfl) (fun _ _ _ h => h) (Or.inl ⟨by kernel_rfl, fun X hS => by obtain ⟨e0, e1, e2⟩ := hS; go_simp⟩) SY ?_
              try go_simp
              refine wpAnyT_take (i := 21) (v := .slice (some ⟨bk, off, none⟩) xs.length c) rfl (by kernel_rfl) (by kernel_rfl) (by kernel_rfl) (by kernel_rfl) (fun _ _ _ h => h) (Or.inl ⟨by kernel_rfl, fun X hS => by obtain ⟨e0, e1, e2⟩ := hS; go_simp⟩) SY ?_
              try go_simp
              refine wpAnyT_take (i := 22) (v := .int .i64 (j + 1)) rfl (by kernel_rfl) (by kernel_rfl) (by kernel_rfl) (by kernel_rfl) (fun _ _ _ h => h) (Or.inl ⟨by kernel_rfl, fun X hS => by obtain ⟨e0, e1, e2⟩ := hS; go_simp⟩) SY ?_
              try go_simp
              refine wpAnyT_take (i := 23) (v := .int .i64 j) rfl (by kernel_rfl) (by kernel_rfl) (by kernel_rfl) (by kernel_rfl) (fun _ _ _ h => h) (Or.inl ⟨by kernel_rfl, fun X hS => by obtain ⟨e0, e1, e2⟩ := hS; go_simp; exact IntWalk.i64_in _ (by omega)⟩) SY ?_
              try go_simp
              refine wpAnyT_take (i := 24) (v := .pointer (some ⟨bk, off + j * 2, none⟩)) rfl (by kernel_rfl) (by kernel_rfl) (by kernel_rfl) (by kernel_rfl) (fun _ _ _ h => h) (Or.inl ⟨by kernel_rfl, fun X hS => by clear hS; go_simp; intro hq; omega⟩) SY ?_
              try go_simp
              refine wpAnyT_take (i := 25) (v := .pointer (some ⟨bk, off + j * 2, none⟩)) rfl (by kernel_rfl) (by kernel_rfl) (by kernel_rfl) (by kernel_rfl) (fun _ _ _ h => h) (Or.inl ⟨by kernel_rfl, fun X hS => by obtain ⟨e0, e1, e2⟩ := hS; go_simp⟩) SY ?_
              try go_simp
              refine wpAnyT_take (i := 26) (v := .string ⟨#[d]⟩) rfl (by kernel_rfl) (by kernel_rfl) (by kernel_rfl) (by kernel_rfl) (fun _ _ _ h => h) (Or.inl ⟨by kernel_rfl, fun X hS => by obtain ⟨e0, e1, e2⟩ := hS; go_simp⟩) SY ?_
              try go_simp
              refine wpAnyT_take (i := 27) (v := .pointer (some ⟨wr.heap.size, 0, none⟩)) rfl (by kernel_rfl) (by kernel_rfl) (by kernel_rfl) (by kernel_rfl) (fun _ _ _ h => h) (Or.inl ⟨by kernel_rfl, fun X hS => by obtain ⟨e0, e1, e2⟩ := hS; go_simp⟩) SY ?_
              try go_simp
              refine wpAnyT_take (i := 28) (v := .string ⟨#[cc]⟩) rfl (by kernel_rfl) (by kernel_rfl) (by kernel_rfl) (by kernel_rfl) (fun _ _ _ h => h) (Or.inl ⟨by kernel_rfl, fun X hS => by obtain ⟨e0, e1, e2⟩ := hS; go_simp⟩) SY ?_
              try go_simp
              refine wpAnyT_take (i := 29) (v := .bool false) rfl (by kernel_rfl) (by kernel_rfl) (by kernel_rfl) (by kernel_rfl) (fun _ _ _ h => h) (Or.inl ⟨by kernel_rfl, fun X hS => by go_simp; rw [geq1, HDEC.out]; rfl⟩) SY ?_
              try go_simp
              refine wpAnyT_take (i := 30) (v := .bool false) rfl (by kernel_rfl) (by kernel_rfl) (by kernel_rfl) (by kernel_rfl) (fun _ _ _ h => h) (Or.inl ⟨by kernel_rfl, fun X hS => by obtain ⟨e0, e1, e2⟩ := hS; go_simp⟩) SY ?_
              try go_simp
              refine wpAnyT_take (i := 31) (v := .bool false) rfl (by kernel_rfl) (by kernel_rfl) (by kernel_rfl) (by kernel_rfl) (fun _ _ _ h => h) (Or.inl ⟨by kernel_rfl, fun X hS => by obtain ⟨e0, e1, e2⟩ := hS; go_simp⟩) SY ?_
              try go_simp
              refine wpAnyT_drop _ 32 _ _ _ (by decide) (by kernel_rfl) ?_
              change wpList _ _ _ [] _ _
              go_wp2
              exact ⟨⟨j + 1 + 1, by omega, by go_num, HN.out, B1.out⟩, by simp [intOf]; omega⟩
            · have HR : Hid (bvB xs = false) := bvB_no hlt fun ⟨c, y, h1, _, _, h2⟩ => by
                rw [HG.out] at h1
                simp only [Option.some.injEq, Prod.mk.injEq, ByteArray.mk.injEq] at h1
                obtain rfl : cc = c := by simpa using h1.1
                obtain ⟨d', z', e1, e2⟩ := h2 j rfl
                rw [HD.out] at e1
                simp only [Option.some.injEq, Prod.mk.injEq, ByteArray.mk.injEq] at e1
                obtain rfl : d = d' := by simpa using e1.1
                exact hlt2 e2
              have hdec : decide (cc.toNat ≤ d.toNat) = true := decide_eq_true (by omega)
              have HDEC := hid hdec
              clear hlt2 hdec
              go_wp2
              refine wp_region_any (by kernel_rfl) ?_
              change wpAny _ _ _ _ _ _ _ (World.drew _)
              have kpA : (wr.alloc (.cells #[.string ⟨#[cc]⟩, .string ⟨t.toArray⟩] 46)).drew.cell? ⟨bk, off + j * 2, none⟩ = some (.string ⟨#[d]⟩) := by
                have h := (((Below.refl wr.heap.size wr).alloc (Nat.le_refl _) (.cells #[.string ⟨#[cc]⟩, .string ⟨t.toArray⟩] 46)).cell (lt_of_cell kp)).trans kp
                exact h
              clear kp
              have SX : (wr.alloc (.cells #[.string ⟨#[cc]⟩, .string ⟨t.toArray⟩] 46)).drew.cell? ⟨wr.heap.size, 0, none⟩ = some (.string ⟨#[cc]⟩) ∧ (wr.alloc (.cells #[.string ⟨#[cc]⟩, .string ⟨t.toArray⟩] 46)).drew.cell? ⟨wr.heap.size, 1, none⟩ = some (.string ⟨t.toArray⟩) ∧ (wr.alloc (.cells #[.string ⟨#[cc]⟩, .string ⟨t.toArray⟩] 46)).drew.cell? ⟨bk, off + j * 2, none⟩ = some (.string ⟨#[d]⟩) := ⟨heap_cell (heap_alloc_new wr _) 0, heap_cell (heap_alloc_new wr _) 1, kpA⟩
              refine wpAny_of_T (S := fun X => X.cell? ⟨wr.heap.size, 0, none⟩ = some (.string ⟨#[cc]⟩) ∧ X.cell? ⟨wr.heap.size, 1, none⟩ = some (.string ⟨t.toArray⟩) ∧ X.cell? ⟨bk, off + j * 2, none⟩ = some (.string ⟨#[d]⟩)) (m := 32) _ _ _ _ ?_
              refine wpAnyT_take (i := 0) (v := .pointer (some ⟨wr.heap.size, 0, none⟩)) rfl (by kernel_rfl) (by kernel_rfl) (by kernel_rfl) (by kernel_rfl) (fun _ _ _ h => h) (Or.inl ⟨by kernel_rfl, fun X hS => by obtain ⟨e0, e1, e2⟩ := hS; go_simp⟩) SX ?_
              try go_simp
              refine wpAnyT_take (i := 1) (v := .string ⟨#[cc]⟩) rfl (by kernel_rfl) (by kernel_rfl) (by kernel_rfl) (by kernel_rfl) (fun _ _ _ h => h) (Or.inl ⟨by kernel_rfl, fun X hS => by obtain ⟨e0, e1, e2⟩ := hS; go_simp⟩) SX ?_
              try go_simp
              refine wpAnyT_take (i := 2) (v := .int .i64 1) rfl (by kernel_rfl) (by kernel_rfl) (by kernel_rfl) (by kernel_rfl) (fun _ _ _ h => h) (Or.inl ⟨by kernel_rfl, fun X hS => by obtain ⟨e0, e1, e2⟩ := hS; go_simp⟩) SX ?_
              try go_simp
              refine wpAnyT_take (i := 3) (v := .bool false) rfl (by kernel_rfl) (by kernel_rfl) (by kernel_rfl) (by kernel_rfl) (fun _ _ _ h => h) (Or.inl ⟨by kernel_rfl, fun X hS => by obtain ⟨e0, e1, e2⟩ := hS; go_simp⟩) SX ?_
              try go_simp
              refine wpAnyT_take (i := 4) (v := .bool false) rfl (by kernel_rfl) (by kernel_rfl) (by kernel_rfl) (by kernel_rfl) (fun _ _ _ h => h) (Or.inl ⟨by kernel_rfl, fun X hS => by obtain ⟨e0, e1, e2⟩ := hS; go_simp⟩) SX ?_
              try go_simp
              refine wpAnyT_take (i := 5) (v := .pointer (some ⟨wr.heap.size, 0, none⟩)) rfl (by kernel_rfl) (by kernel_rfl) (by kernel_rfl) (by kernel_rfl) (fun _ _ _ h => h) (Or.inl ⟨by kernel_rfl, fun X hS => by obtain ⟨e0, e1, e2⟩ := hS; go_simp⟩) SX ?_
              try go_simp
              refine wpAnyT_take (i := 6) (v := .string ⟨#[cc]⟩) rfl (by kernel_rfl) (by kernel_rfl) (by kernel_rfl) (by kernel_rfl) (fun _ _ _ h => h) (Or.inl ⟨by kernel_rfl, fun X hS => by obtain ⟨e0, e1, e2⟩ := hS; go_simp⟩) SX ?_
              try go_simp
              refine wpAnyT_take (i := 7) (v := .int .u8 cc.toNat) rfl (by kernel_rfl) (by kernel_rfl) (by kernel_rfl) (by kernel_rfl) (fun _ _ _ h => h) (Or.inl ⟨by kernel_rfl, fun X hS => by clear hS; go_simp; rfl⟩) SX ?_
              try go_simp
              refine wpAnyT_one 8 rfl (by kernel_rfl) (fun K hK => ?_)
              go_simp
              refine (l1Variable_any cc _).mono ?_
              rintro e w' ⟨rfl, rfl⟩
              rw [HV.out]
              refine hK _ _ (fun _ => SX) ?_
              clear hK K
              refine wpAnyT_take (i := 9) (v := .bool false) rfl (by kernel_rfl) (by kernel_rfl) (by kernel_rfl) (by kernel_rfl) (fun _ _ _ h => h) (Or.inl ⟨by kernel_rfl, fun X hS => by obtain ⟨e0, e1, e2⟩ := hS; go_simp⟩) SX ?_
              try go_simp
              refine wpAnyT_take (i := 10) (v := .bool false) rfl (by kernel_rfl) (by kernel_rfl) (by kernel_rfl) (by kernel_rfl) (fun _ _ _ h => h) (Or.inl ⟨by kernel_rfl, fun X hS => by obtain ⟨e0, e1, e2⟩ := hS; go_simp⟩) SX ?_
              try go_simp
              refine wpAnyT_take (i := 11) (v := .bool false) rfl (by kernel_rfl) (by kernel_rfl) (by kernel_rfl) (by kernel_rfl) (fun _ _ _ h => h) (Or.inl ⟨by kernel_rfl, fun X hS => by obtain ⟨e0, e1, e2⟩ := hS; go_simp⟩) SX ?_
              try go_simp
              refine wpAnyT_take (i := 12) (v := .pointer (some ⟨wr.heap.size, 1, none⟩)) rfl (by kernel_rfl) (by kernel_rfl) (by kernel_rfl) (by kernel_rfl) (fun _ _ _ h => h) (Or.inl ⟨by kernel_rfl, fun X hS => by obtain ⟨e0, e1, e2⟩ := hS; go_simp⟩) SX ?_
              try go_simp
              refine wpAnyT_take (i := 13) (v := .string ⟨t.toArray⟩) rfl (by kernel_rfl) (by kernel_rfl) (by kernel_rfl) (by kernel_rfl) (fun _ _ _ h => h) (Or.inl ⟨by kernel_rfl, fun X hS => by obtain ⟨e0, e1, e2⟩ := hS; go_simp⟩) SX ?_
              try go_simp
              refine wpAnyT_one 14 rfl (by kernel_rfl) (fun K hK => ?_)
              go_simp
              refine (TypeValid_spec t _ (by unfold maxLen; omega)).mono ?_
              rintro e w1 ⟨rfl, hb⟩
              have B1 : Hid (Below w.heap.size w w1) := (((HB.out.alloc HB.out.size (.cells #[.string ⟨#[cc]⟩, .string ⟨t.toArray⟩] 46)).drew).trans (hb.mono (by show w.heap.size ≤ (wr.alloc (.cells #[.string ⟨#[cc]⟩, .string ⟨t.toArray⟩] 46)).heap.size; have := HB.out.size; simp; omega)))
              have SY : w1.cell? ⟨wr.heap.size, 0, none⟩ = some (.string ⟨#[cc]⟩) ∧ w1.cell? ⟨wr.heap.size, 1, none⟩ = some (.string ⟨t.toArray⟩) ∧ w1.cell? ⟨bk, off + j * 2, none⟩ = some (.string ⟨#[d]⟩) := ⟨(hb.cell (lt_of_cell SX.1)).trans SX.1, (hb.cell (lt_of_cell SX.2.1)).trans SX.2.1, (hb.cell (lt_of_cell SX.2.2)).trans SX.2.2⟩
              clear hb
              rw [HT.out]
              refine hK _ _ (fun _ => SY) ?_
              clear hK K
              refine wpAnyT_take (i := 15) (v := .bool false) rfl (by kernel_rfl) (by kernel_rfl) (by kernel_rfl) (by kernel_rfl) (fun _ _ _ h => h) (Or.inl ⟨by kernel_rfl, fun X hS => by obtain ⟨e0, e1, e2⟩ := hS; go_simp⟩) SY ?_
              try go_simp
              refine wpAnyT_take (i := 16) (v := .bool false) rfl (by kernel_rfl) (by kernel_rfl) (by kernel_rfl) (by kernel_rfl) (fun _ _ _ h => h) (Or.inl ⟨by kernel_rfl, fun X hS => by obtain ⟨e0, e1, e2⟩ := hS; go_simp⟩) SY ?_
              try go_simp
              refine wpAnyT_take (i := 17) (v := .bool false) rfl (by kernel_rfl) (by kernel_rfl) (by kernel_rfl) (by kernel_rfl) (fun _ _ _ h => h) (Or.inl ⟨by kernel_rfl, fun X hS => by obtain ⟨e0, e1, e2⟩ := hS; go_simp⟩) SY ?_
              try go_simp
              refine wpAnyT_take (i := 18) (v := .int .i64 (j + 1)) rfl (by kernel_rfl) (by kernel_rfl) (by kernel_rfl) (by kernel_rfl) (fun _ _ _ h => h) (Or.inl ⟨by kernel_rfl, fun X hS => by obtain ⟨e0, e1, e2⟩ := hS; go_simp⟩) SY ?_
              try go_simp
              refine wpAnyT_take (i := 19) (v := .bool true) rfl (by kernel_rfl) (by kernel_rfl) (by kernel_rfl) (by kernel_rfl) (fun _ _ _ h => h) (Or.inl ⟨by kernel_rfl, fun X hS => by obtain ⟨e0, e1, e2⟩ := hS; go_simp⟩) SY ?_
              try go_simp
              refine wpAnyT_take (i := 20) (v := .bool true) rfl (by kernel_rfl) (by kernel_rfl) (by kernel_rfl) (by kernel_rfl) (fun _ _ _ h => h) (Or.inl ⟨by kernel_rfl, fun X hS => by obtain ⟨e0, e1, e2⟩ := hS; go_simp⟩) SY ?_
              try go_simp
              refine wpAnyT_take (i := 21) (v := .slice (some ⟨bk, off, none⟩) xs.length c) rfl (by kernel_rfl) (by kernel_rfl) (by kernel_rfl) (by kernel_rfl) (fun _ _ _ h => h) (Or.inl ⟨by kernel_rfl, fun X hS => by obtain ⟨e0, e1, e2⟩ := hS; go_simp⟩) SY ?_
              try go_simp
              refine wpAnyT_take (i := 22) (v := .int .i64 (j + 1)) rfl (by kernel_rfl) (by kernel_rfl) (by kernel_rfl) (by kernel_rfl) (fun _ _ _ h => h) (Or.inl ⟨by kernel_rfl, fun X hS => by obtain ⟨e0, e1, e2⟩ := hS; go_simp⟩) SY ?_
              try go_simp
              refine wpAnyT_take (i := 23) (v := .int .i64 j) rfl (by kernel_rfl) (by kernel_rfl) (by kernel_rfl) (by kernel_rfl) (fun _ _ _ h => h) (Or.inl ⟨by kernel_rfl, fun X hS => by obtain ⟨e0, e1, e2⟩ := hS; go_simp; exact IntWalk.i64_in _ (by omega)⟩) SY ?_
              try go_simp
              refine wpAnyT_take (i := 24) (v := .pointer (some ⟨bk, off + j * 2, none⟩)) rfl (by kernel_rfl) (by kernel_rfl) (by kernel_rfl) (by kernel_rfl) (fun _ _ _ h => h) (Or.inl ⟨by kernel_rfl, fun X hS => by clear hS; go_simp; intro hq; omega⟩) SY ?_
              try go_simp
              refine wpAnyT_take (i := 25) (v := .pointer (some ⟨bk, off + j * 2, none⟩)) rfl (by kernel_rfl) (by kernel_rfl) (by kernel_rfl) (by kernel_rfl) (fun _ _ _ h => h) (Or.inl ⟨by kernel_rfl, fun X hS => by obtain ⟨e0, e1, e2⟩ := hS; go_simp⟩) SY ?_
              try go_simp
              refine wpAnyT_take (i := 26) (v := .string ⟨#[d]⟩) rfl (by kernel_rfl) (by kernel_rfl) (by kernel_rfl) (by kernel_rfl) (fun _ _ _ h => h) (Or.inl ⟨by kernel_rfl, fun X hS => by obtain ⟨e0, e1, e2⟩ := hS; go_simp⟩) SY ?_
              try go_simp
              refine wpAnyT_take (i := 27) (v := .pointer (some ⟨wr.heap.size, 0, none⟩)) rfl (by kernel_rfl) (by kernel_rfl) (by kernel_rfl) (by kernel_rfl) (fun _ _ _ h => h) (Or.inl ⟨by kernel_rfl, fun X hS => by obtain ⟨e0, e1, e2⟩ := hS; go_simp⟩) SY ?_
              try go_simp
              refine wpAnyT_take (i := 28) (v := .string ⟨#[cc]⟩) rfl (by kernel_rfl) (by kernel_rfl) (by kernel_rfl) (by kernel_rfl) (fun _ _ _ h => h) (Or.inl ⟨by kernel_rfl, fun X hS => by obtain ⟨e0, e1, e2⟩ := hS; go_simp⟩) SY ?_
              try go_simp
              refine wpAnyT_take (i := 29) (v := .bool true) rfl (by kernel_rfl) (by kernel_rfl) (by kernel_rfl) (by kernel_rfl) (fun _ _ _ h => h) (Or.inl ⟨by kernel_rfl, fun X hS => by go_simp; rw [geq1, HDEC.out]; rfl⟩) SY ?_
              try go_simp
              refine wpAnyT_take (i := 30) (v := .bool true) rfl (by kernel_rfl) (by kernel_rfl) (by kernel_rfl) (by kernel_rfl) (fun _ _ _ h => h) (Or.inl ⟨by kernel_rfl, fun X hS => by obtain ⟨e0, e1, e2⟩ := hS; go_simp⟩) SY ?_
              try go_simp
              refine wpAnyT_take (i := 31) (v := .bool true) rfl (by kernel_rfl) (by kernel_rfl) (by kernel_rfl) (by kernel_rfl) (fun _ _ _ h => h) (Or.inl ⟨by kernel_rfl, fun X hS => by obtain ⟨e0, e1, e2⟩ := hS; go_simp⟩) SY ?_
              try go_simp
              refine wpAnyT_drop _ 32 _ _ _ (by decide) (by kernel_rfl) ?_
              change wpList _ _ _ [] _ _
              go_wp2
              go_ret
              exact ⟨ret_bool HR.out.symm, B1.out⟩
    · obtain rfl : k = xs.length := by omega
      have hR : Hid (bvB xs = true) := bvB_yes hgood.out
      clear hgood
      go_wp2
      go_ret
      exact ⟨ret_bool hR.out.symm, hb⟩

end Go.Proofs.Ytaapdhacnbhohaa
