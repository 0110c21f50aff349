/- The laws' size, copy and comparison of slices of Class. Conditions: those typed. -/
import Derived.Test.YtcjalnianamlaaaPairs
import Derived.Test.YtcjalnianamlaaaReg
import Derived.Test.YtcjalnianamlaaaStr
set_option linter.unusedVariables false
set_option linter.unusedSimpArgs false
set_option maxRecDepth 100000
namespace Go.Proofs.Ytcjalnianamlaaa
open Go.RowKit

theorem szClass_ok (a b : ByteArray) (L : Int) (w : World) (h0 : L ≤ 1048576) (h : (a.size : Int) + b.size ≤ L) :
    Calls Try.prog 29 #[.agg #[.string a, .string b], .int .i64 L] w fun e w' => e = .returned (.int .i64 (L - a.size - b.size)) ∧ Below w.heap.size w w' := by
  go_enter Try.func29, Try.ntmps29
  go_wp2
  go_ret
  exact ⟨rfl, (Below.refl _ _).alloc (Nat.le_refl _) _⟩
theorem szClass_no (a b : ByteArray) (L : Int) (w : World) (ha : a.size ≤ maxLen) (hb : b.size ≤ maxLen) (hL : 0 ≤ L) (h0 : L ≤ 1048576) (h : L < (a.size : Int) + b.size) :
    Calls Try.prog 29 #[.agg #[.string a, .string b], .int .i64 L] w fun e w' => e = .returned (.int .i64 (-1)) ∧ Below w.heap.size w w' := by
  unfold maxLen at ha hb
  by_cases h1 : L - (a.size : Int) < 0
  · go_enter Try.func29, Try.ntmps29
    go_wp2
    go_ret
    exact ⟨rfl, (Below.refl _ _).alloc (Nat.le_refl _) _⟩
  · have h2 : L - (a.size : Int) - b.size < 0 := by omega
    go_enter Try.func29, Try.ntmps29
    go_wp2
    go_ret
    exact ⟨rfl, (Below.refl _ _).alloc (Nat.le_refl _) _⟩

theorem szClassS_any (v : Value) (xs : List BB) (L : Int) (w : World) (hL : 0 ≤ L) (h0 : L ≤ 1048576) (hs : SP w v xs) :
    Calls Try.prog 15 #[v, .int .i64 L] w fun e w' => e = .returned (.int .i64 (szP xs L)) ∧ Below w.heap.size w w' := by
  rcases hs with ⟨rfl, a, cap, rfl⟩ | ⟨b, off, cap, rfl, hn, hc⟩
  · go_enter Try.func15, Try.ntmps15
    go_wp2
    go_loopw [5, 1] (fun i l wr => i = .int .i64 0 ∧ l = .int .i64 L ∧ Below w.heap.size w wr) (fun _ _ _ => 0)
    case atStart => exact ⟨rfl, rfl, Below.refl _ _⟩
    case round =>
      obtain ⟨rfl, rfl, hb⟩ := hrel
      go_wp2
      go_ret
      exact ⟨ret_int (by simp [szP, tot]; omega), hb⟩
  · unfold maxLen at hn
    by_cases h1 : (xs.length : Int) ≤ L
    rotate_left
    · go_enter Try.func15, Try.ntmps15
      go_wp2
      go_ret
      refine ⟨ret_int ?_, Below.refl _ _⟩
      simp only [szP]; rw [if_neg (by omega)]
    · go_enter Try.func15, Try.ntmps15
      go_wp2
      go_loopw [5, 1] (fun i l wr => ∃ k m : Nat, k ≤ xs.length ∧ i = .int .i64 k ∧ Hid (tot (xs.take k) = m) ∧ l = .int .i64 (L - xs.length - m) ∧ (xs.length : Int) + m ≤ L ∧ Below w.heap.size w wr) (fun i _ _ => xs.length - (intOf i).toNat)
      case atStart => exact ⟨0, 0, Nat.zero_le _, rfl, rfl, by simp, by simpa using h1, Below.refl _ _⟩
      case round =>
        obtain ⟨k, m, hk, rfl, hm, rfl, hle, hb⟩ := hrel
        by_cases hlt : k < xs.length
        · obtain ⟨c0, c1, z0, z1⟩ := hc k xs[k] (List.getElem?_eq_getElem hlt)
          have k0 := (hb.cell (lt_of_cell c0)).trans c0
          have k1 := (hb.cell (lt_of_cell c1)).trans c1
          have ht := tot_take xs k xs[k] (List.getElem?_eq_getElem hlt)
          have hle2 := tot_le xs (k + 1)
          have HB := hid hb
          generalize xs[k] = p at *
          obtain ⟨x, y⟩ := p
          clear hb c0 c1
          by_cases hf : (x.size : Int) + y.size ≤ L - xs.length - m
          · go_wp2_with (go_at_call 29; refine (szClass_ok x y _ _ (by omega) hf).mono ?_; rintro e w1 ⟨rfl, hb⟩; have HB1 := hid (HB.out.trans (hb.mono HB.out.size)); clear hb k0 k1)
            go_roundw
            case rel => exact ⟨k + 1, m + (x.size + y.size), by omega, by go_num, by show _ = _; rw [ht, hm.out], by congr 1; omega, by omega, HB1.out⟩
            case measure => simp [intOf]; omega
          · have hneg : szP xs L = -1 := by
              have h2 := hle2
              rw [ht, hm.out] at h2
              simp only at h2
              unfold szP
              rw [if_neg (by omega)]
            have HN := hid hneg
            clear ht hneg
            go_wp2_with (go_at_call 29; refine (szClass_no x y _ _ z0 z1 (by omega) (by omega) (by omega)).mono ?_; rintro e w1 ⟨rfl, hb⟩; have HB1 := hid (HB.out.trans (hb.mono HB.out.size)); clear hb k0 k1)
            go_ret
            exact ⟨ret_int HN.out.symm, HB1.out⟩
        · obtain rfl : k = xs.length := by omega
          have hm2 := hm.out
          rw [List.take_length] at hm2
          have HN : Hid (szP xs L = L - xs.length - m) := by
            show szP xs L = _
            unfold szP
            rw [hm2, if_pos hle]
          clear hm hm2
          go_wp2
          go_ret
          exact ⟨ret_int HN.out.symm, hb⟩

theorem toClass_any (a b : ByteArray) (w : World) :
    Calls Try.prog 36 #[.agg #[.string a, .string b]] w fun e w' => e = .returned (.agg #[.string a, .string b]) ∧ Below w.heap.size w w' := by
  go_enter Try.func36, Try.ntmps36
  go_wp2
  refine bodyPost_ret (v := .agg #[.string a, .string b]) (by simp [results, Try.results36, go_sem]) rfl ⟨rfl, ?_⟩
  exact (((Below.refl _ _).alloc (Nat.le_refl _) _).alloc (by simp) _).alloc (by simp; omega) _

theorem eqClass_same (a b : ByteArray) (w : World) :
    Calls Try.prog 44 #[.agg #[.string a, .string b], .agg #[.string a, .string b]] w fun e w' => e = .returned (.bool true) ∧ Below w.heap.size w w' := by
  go_enter Try.func44, Try.ntmps44
  go_wp2
  go_ret
  exact ⟨rfl, ((Below.refl _ _).alloc (Nat.le_refl _) _).alloc (by simp) _⟩

theorem toClassS_info : (Try.prog.info? 77).map (fun i => (i.zero, i.size, i.bytes)) = some (some (.agg #[.string ⟨#[]⟩, .string ⟨#[]⟩]), 2, 32) := by kernel_rfl
theorem toClassS_make (n : Nat) (h : n ≤ 1048576) (w : World) : (Instr.makeSlice 33 (.int .i64 (n : Int)) (.int .i64 (n : Int))).run Try.prog w = .ok (.slice (some ⟨w.heap.size, 0, none⟩) n n) (w.alloc (.cells (flat (List.replicate n (⟨#[]⟩, ⟨#[]⟩))).toArray 77)) := by
  obtain ⟨i, hi, hz⟩ := Option.map_eq_some_iff.1 toClassS_info
  simp only [Prod.mk.injEq] at hz
  have hr := run_make (P := Try.prog) w 33 77 i _ Try.underlying33 hi hz.1 .i64 .i64 n n (by omega) (Int.le_refl _) (by rw [hz.2.2]; omega) (by omega)
  rw [hr, ← made_rep]
  simp [hz.2.1, Value.cells]

theorem toClassS_any (v : Value) (xs : List BB) (w : World) (h0 : xs.length ≤ 1048576) (hs : SP w v xs) :
    Calls Try.prog 19 #[v] w (RowPost 77 w xs) := by
  have hsz := hs.sizes
  rcases hs with ⟨rfl, a, cap, rfl⟩ | ⟨b, off, cap, rfl, hn, hc⟩
  · have hmk : (Instr.makeSlice 33 (.int .i64 0) (.int .i64 0)).run Try.prog w = .ok (.slice (some ⟨w.heap.size, 0, none⟩) 0 0) (w.alloc (.cells #[] 77)) := toClassS_make 0 (by omega) w
    go_enter Try.func19, Try.ntmps19
    go_wp2
    go_loopw [4] (fun i wr => i = .int .i64 0 ∧ wr = w.alloc (.cells #[] 77)) (fun _ _ => 0)
    case atStart => exact ⟨rfl, rfl⟩
    case round =>
      obtain ⟨rfl, rfl⟩ := hrel
      go_wp2
      go_ret
      exact ⟨w.heap.size, rfl, Nat.le_refl _, heap_alloc_new _ _, .inl ⟨rfl, _, _, rfl⟩, (Below.refl _ _).alloc (Nat.le_refl _) _⟩
  · go_enter Try.func19, Try.ntmps19
    go_wp2
    rw [toClassS_make xs.length h0]
    go_wp2
    go_loopw [4] (fun i wr => ∃ k : Nat, k ≤ xs.length ∧ i = .int .i64 k ∧ wr.heap[w.heap.size]? = some (.cells (flat (fill xs k)).toArray 77 (0, 0)) ∧ Below w.heap.size w wr) (fun i _ => xs.length - (intOf i).toNat)
    case atStart => exact ⟨0, Nat.zero_le _, rfl, by rw [fill_zero]; exact heap_alloc_new _ _, (Below.refl _ _).alloc (Nat.le_refl _) _⟩
    case round =>
      obtain ⟨k, hk, rfl, hh, hb⟩ := hrel
      by_cases hlt : k < xs.length
      · obtain ⟨c0, c1, z0, z1⟩ := hc k xs[k] (List.getElem?_eq_getElem hlt)
        have k0 := (hb.cell (lt_of_cell c0)).trans c0
        have k1 := (hb.cell (lt_of_cell c1)).trans c1
        have hfs := fill_succ xs k hlt
        have hfl : (fill xs k).length = xs.length := by simp [fill]; omega
        generalize fill xs k = ys at *
        have hlt2 := lt_of_heap hh
        have HB := hid hb
        have HH := hid hh
        generalize xs[k] = p at *
        obtain ⟨x, y⟩ := p
        clear hb c0 c1 hh
        go_wp2_with fail
        refine (toClass_any x y _).mono ?_
        rintro e w1 ⟨rfl, hb⟩
        have h1 := below_heap hb hlt2 HH.out
        have m0 : w1.cell? ⟨w.heap.size, k * 2, none⟩ = (flat ys)[k * 2]? := by rw [heap_cell h1]; simp
        have m1 : w1.cell? ⟨w.heap.size, k * 2 + 1, none⟩ = (flat ys)[k * 2 + 1]? := by rw [heap_cell h1]; simp
        rw [List.getElem?_eq_getElem (by rw [flat_len]; omega)] at m0 m1
        have f0 := heap_free h1 (k * 2)
        have f1 := heap_free h1 (k * 2 + 1)
        have HB1 := hid (HB.out.trans (hb.mono HB.out.size))
        have H1 := hid h1
        generalize (flat ys)[k * 2]'_ = u0 at *
        generalize (flat ys)[k * 2 + 1]'_ = u1 at *
        clear hb h1 k0 k1
        go_wp2_with fail
        refine ⟨⟨k + 1, by omega, by go_num, ?_, (HB1.out.setCell (Nat.le_refl _) _).setCell (Nat.le_refl _) _⟩, by simp [intOf]; omega⟩
        rw [heap_set (heap_set H1.out (k * 2) (.string x)) (k * 2 + 1) (.string y), ← hfs, ← flat_set]
        simp
      · obtain rfl : k = xs.length := by omega
        rw [fill_all] at hh
        go_wp2
        go_ret
        exact ⟨w.heap.size, rfl, Nat.le_refl _, hh, SP.of_heap hh hsz.1 hsz.2, hb⟩

theorem eqClassS_same (v v' : Value) (xs : List BB) (w : World) (hs : SP w v xs) (hs' : SP w v' xs) :
    Calls Try.prog 25 #[v, v'] w fun e w' => e = .returned (.bool true) ∧ Below w.heap.size w w' := by
  obtain ⟨g, cap, rfl⟩ : ∃ g cap, v = .slice g xs.length cap := by
    rcases hs with ⟨rfl, a, cap, rfl⟩ | ⟨b, off, cap, rfl, hn, hc⟩ <;> exact ⟨_, _, rfl⟩
  obtain ⟨g', cap', rfl⟩ : ∃ g cap, v' = .slice g xs.length cap := by
    rcases hs' with ⟨rfl, a, cap, rfl⟩ | ⟨b, off, cap, rfl, hn, hc⟩ <;> exact ⟨_, _, rfl⟩
  have hn := hs.sizes.1
  unfold maxLen at hn
  go_enter Try.func25, Try.ntmps25
  go_wp2
  go_loopw [5] (fun i wr => ∃ k : Nat, k ≤ xs.length ∧ i = .int .i64 k ∧ Below w.heap.size w wr) (fun i _ => xs.length - (intOf i).toNat)
  case atStart => exact ⟨0, Nat.zero_le _, rfl, Below.refl _ _⟩
  case round =>
    obtain ⟨k, hk, rfl, hb⟩ := hrel
    by_cases hlt : k < xs.length
    · rcases hs with ⟨rfl, _⟩ | ⟨b, off, cap1, he, -, hc⟩
      · simp at hlt
      rcases hs' with ⟨rfl, _⟩ | ⟨b', off', cap2, he', -, hc'⟩
      · simp at hlt
      simp only [Value.slice.injEq] at he he'
      obtain ⟨rfl, -, rfl⟩ := he
      obtain ⟨rfl, -, rfl⟩ := he'
      obtain ⟨c0, c1, -, -⟩ := hc k xs[k] (List.getElem?_eq_getElem hlt)
      obtain ⟨d0, d1, -, -⟩ := hc' k xs[k] (List.getElem?_eq_getElem hlt)
      have k0 := (hb.cell (lt_of_cell c0)).trans c0
      have k1 := (hb.cell (lt_of_cell c1)).trans c1
      have l0 := (hb.cell (lt_of_cell d0)).trans d0
      have l1 := (hb.cell (lt_of_cell d1)).trans d1
      generalize xs[k] = p at *
      obtain ⟨x, y⟩ := p
      have HB := hid hb
      have HC := hid hc
      have HC' := hid hc'
      clear hb c0 c1 d0 d1 hc hc'
      go_wp2
      refine wp_region_any (by kernel_rfl) ?_
      change wpAny _ _ _ _ _ _ _ (World.drew _)
      refine wpAny_take (i := 0) (v := .slice (some ⟨b, off, none⟩) xs.length cap) rfl (by kernel_rfl) (by kernel_rfl) (by kernel_rfl) (fun _ _ _ h => h) (Or.inl ⟨by rfl, fun _ => by go_simp⟩) ?_
      refine wpAny_take (i := 1) (v := .int .i64 k) rfl (by kernel_rfl) (by kernel_rfl) (by kernel_rfl) (fun _ _ _ h => h) (Or.inl ⟨by rfl, fun _ => by go_simp⟩) ?_
      refine wpAny_take (i := 2) (v := .pointer (some ⟨b, off + k * 2, none⟩)) rfl (by kernel_rfl) (by kernel_rfl) (by kernel_rfl) (fun _ _ _ h => h) (Or.inl ⟨by rfl, fun _ => by go_simp⟩) ?_
      refine wpAny_take (i := 4) (v := .slice (some ⟨b', off', none⟩) xs.length cap') rfl (by kernel_rfl) (by kernel_rfl) (by kernel_rfl) (fun _ _ _ h => h) (Or.inl ⟨by rfl, fun _ => by go_simp⟩) ?_
      refine wpAny_take (i := 5) (v := .int .i64 k) rfl (by kernel_rfl) (by kernel_rfl) (by kernel_rfl) (fun _ _ _ h => h) (Or.inl ⟨by rfl, fun _ => by go_simp⟩) ?_
      refine wpAny_take (i := 6) (v := .pointer (some ⟨b', off' + k * 2, none⟩)) rfl (by kernel_rfl) (by kernel_rfl) (by kernel_rfl) (fun _ _ _ h => h) (Or.inl ⟨by rfl, fun _ => by go_simp⟩) ?_
      refine wpAny_of_T (S := fun X => X.cell? ⟨b, off + k * 2, none⟩ = some (.string x) ∧ X.cell? ⟨b, off + k * 2 + 1, none⟩ = some (.string y) ∧ X.cell? ⟨b', off' + k * 2, none⟩ = some (.string x) ∧ X.cell? ⟨b', off' + k * 2 + 1, none⟩ = some (.string y)) (m := 10) _ _ _ _ ?_
      refine wpAnyT_take (i := 3) (v := .agg #[.string x, .string y]) rfl (by kernel_rfl) (by kernel_rfl) (by kernel_rfl) (by kernel_rfl) (fun _ _ _ h => h) (Or.inl ⟨by rfl, fun X hS => by obtain ⟨e0, e1, e2, e3⟩ := hS; clear k0 k1 l0 l1; go_simp⟩) ⟨k0, k1, l0, l1⟩ ?_
      refine wpAnyT_take (i := 7) (v := .agg #[.string x, .string y]) rfl (by kernel_rfl) (by kernel_rfl) (by kernel_rfl) (by kernel_rfl) (fun _ _ _ h => h) (Or.inl ⟨by rfl, fun X hS => by obtain ⟨e0, e1, e2, e3⟩ := hS; clear k0 k1 l0 l1; go_simp⟩) ⟨k0, k1, l0, l1⟩ ?_
      refine wpAnyT_one 8 rfl (by kernel_rfl) (fun K hK => ?_)
      go_simp
      refine (eqClass_same x y _).mono ?_
      rintro e w2 ⟨rfl, hb⟩
      have S2 : w2.cell? ⟨b, off + k * 2, none⟩ = some (.string x) ∧ w2.cell? ⟨b, off + k * 2 + 1, none⟩ = some (.string y) ∧ w2.cell? ⟨b', off' + k * 2, none⟩ = some (.string x) ∧ w2.cell? ⟨b', off' + k * 2 + 1, none⟩ = some (.string y) := ⟨(hb.cell (lt_of_cell k0)).trans k0, (hb.cell (lt_of_cell k1)).trans k1, (hb.cell (lt_of_cell l0)).trans l0, (hb.cell (lt_of_cell l1)).trans l1⟩
      refine hK _ _ (fun _ => S2) ?_
      clear hK K
      refine wpAnyT_one 9 rfl (by kernel_rfl) (fun K hK => ?_)
      go_simp
      refine hK _ _ (fun _ => S2) ?_
      clear hK K
      refine wpAnyT_drop _ 10 _ _ _ (by decide) (by kernel_rfl) ?_
      change wpList _ _ _ [] _ _
      have HB2 : Hid (Below w.heap.size w w2) := hid (HB.out.drew.trans (hb.mono HB.out.size))
      clear hb k0 k1 l0 l1 S2
      go_wp2
      exact ⟨⟨k + 1, by omega, by go_num, HB2.out⟩, by simp [intOf]; omega⟩
    · go_wp2
      go_ret
      exact ⟨rfl, hb⟩

end Go.Proofs.Ytcjalnianamlaaa
