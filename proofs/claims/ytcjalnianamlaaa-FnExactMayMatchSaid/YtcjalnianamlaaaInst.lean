/- The laws' size, copy and comparison of instances. Conditions: those typed. -/
import Derived.Test.YtcjalnianamlaaaNeedS
set_option linter.unusedVariables false
set_option linter.unusedSimpArgs false
set_option maxRecDepth 100000
namespace Go.Proofs.Ytcjalnianamlaaa
open Go.RowKit

/-- what the laws' size of an instance returns -/
def szI (a b : ByteArray) (xs : List BB) (L : Int) : Int := if (a.size : Int) + b.size + xs.length + tot xs ≤ L then L - a.size - b.size - xs.length - tot xs else -1

theorem szInstance_any (a b : ByteArray) (v : Value) (xs : List BB) (L : Int) (w : World) (hL : 0 ≤ L) (h0 : L ≤ 1048576) (ha : a.size ≤ maxLen) (hb : b.size ≤ maxLen) (hs : SP w v xs) :
    Calls Try.prog 30 #[.agg #[.string a, .string b, v], .int .i64 L] w fun e w' => e = .returned (.int .i64 (szI a b xs L)) ∧ Below w.heap.size w w' := by
  obtain ⟨g, n, c, rfl⟩ : ∃ g n c, v = .slice g n c := by
    rcases hs with ⟨rfl, a, cap, rfl⟩ | ⟨b, off, cap, rfl, hn, hc⟩ <;> exact ⟨_, _, _, rfl⟩
  have hB0 : Hid (Below w.heap.size w (w.alloc (.cells #[.string a, .string b, .slice g n c] 66))) := (Below.refl _ _).alloc (Nat.le_refl _) _
  by_cases h : (a.size : Int) + b.size ≤ L
  · have hneg : ¬ (L - (a.size : Int) - b.size < 0) := by omega
    go_enter Try.func30, Try.ntmps30
    go_wp2_with fail
    refine (szNeed_ok a b L _ h0 h).mono ?_
    rintro e w1 ⟨rfl, hb1⟩
    have bx := below_heap hb1 (by simp) (heap_alloc_new _ _)
    have k2 : w1.cell? ⟨w.heap.size, 2, none⟩ = some (.slice g n c) := heap_cell bx 2
    have HB1 : Hid (Below w.heap.size w w1) := hB0.out.trans (hb1.mono (by simp))
    have S1 := hid (hs.below HB1.out)
    clear hb1 bx
    go_wp2_with fail
    refine (szNeedS_any _ xs _ _ (by omega) (by omega) S1.out).mono ?_
    rintro e w2 ⟨rfl, hb2⟩
    have HB2 : Hid (Below w.heap.size w w2) := HB1.out.trans (hb2.mono HB1.out.size)
    clear hb2 k2
    by_cases h2 : (xs.length : Int) + tot xs ≤ L - a.size - b.size
    · have hz : Hid (szP xs (L - a.size - b.size) = L - a.size - b.size - xs.length - tot xs) := by show _ = _; unfold szP; rw [if_pos h2]
      have hR : Hid (szI a b xs L = L - a.size - b.size - xs.length - tot xs) := by show _ = _; unfold szI; rw [if_pos (by omega)]
      rw [hz.out]
      have hnn : ¬ (L - (a.size : Int) - b.size - xs.length - tot xs < 0) := by omega
      go_wp2
      go_ret
      exact ⟨ret_int hR.out.symm, HB2.out⟩
    · have hz : Hid (szP xs (L - a.size - b.size) = -1) := by show _ = _; unfold szP; rw [if_neg h2]
      have hR : Hid (szI a b xs L = -1) := by show _ = _; unfold szI; rw [if_neg (by omega)]
      rw [hz.out]
      go_wp2
      go_ret
      exact ⟨ret_int hR.out.symm, HB2.out⟩
  · have hR : Hid (szI a b xs L = -1) := by show _ = _; unfold szI; rw [if_neg (by omega)]
    go_enter Try.func30, Try.ntmps30
    go_wp2_with fail
    refine (szNeed_no a b L _ ha hb hL h0 (by omega)).mono ?_
    rintro e w1 ⟨rfl, hb1⟩
    have HB1 : Hid (Below w.heap.size w w1) := hB0.out.trans (hb1.mono (by simp))
    clear hb1
    go_wp2
    go_ret
    exact ⟨ret_int hR.out.symm, HB1.out⟩

/-- a new instance: its texts, and a slice that holds its needs -/
def InstPost (w : World) (a b : ByteArray) (xs : List BB) (en : Ending) (w' : World) : Prop :=
  ∃ g, en = .returned (.agg #[.string a, .string b, .slice (some ⟨g, 0, none⟩) xs.length xs.length]) ∧ w.heap.size ≤ g ∧ w'.heap[g]? = some (.cells (flat xs).toArray 38 (0, 0)) ∧ SP w' (.slice (some ⟨g, 0, none⟩) xs.length xs.length) xs ∧ Below w.heap.size w w'

theorem hb_new3 (w : World) (A B C : Obj) : (((w.alloc A).alloc B).alloc C).heap[w.heap.size + 1 + 1]? = some C := by
  have := heap_alloc_new ((w.alloc A).alloc B) C
  simpa using this

theorem toInstance_any (a b : ByteArray) (v : Value) (xs : List BB) (w : World) (h0 : xs.length ≤ 1048576) (hs : SP w v xs) :
    Calls Try.prog 37 #[.agg #[.string a, .string b, v]] w (InstPost w a b xs) := by
  have hsz := hs.sizes
  obtain ⟨g, n, c, rfl⟩ : ∃ g n c, v = .slice g n c := by
    rcases hs with ⟨rfl, a, cap, rfl⟩ | ⟨b, off, cap, rfl, hn, hc⟩ <;> exact ⟨_, _, _, rfl⟩
  go_enter Try.func37, Try.ntmps37
  go_wp2_with fail
  refine (toNeed_any a b _).mono ?_
  rintro e w1 ⟨rfl, hb⟩
  have hz := hb.size
  simp only [World.size_alloc] at hz
  have x0 : w1.heap[w.heap.size]? = some (.cells #[.string a, .string b, .slice g n c] 66 (0, 0)) := below_heap hb (by simp; omega) (hb_alloc (hb_alloc (heap_alloc_new w _) _) _)
  have x1 : w1.heap[w.heap.size + 1]? = some (.cells #[.string ⟨#[]⟩, .string ⟨#[]⟩, .slice none 0 0] 50 (0, 0)) := below_heap hb (by simp) (hb_alloc (hb_new2 w _ _ _ rfl) _)
  have x2 : w1.heap[w.heap.size + 1 + 1]? = some (.cells #[.string ⟨#[]⟩, .string ⟨#[]⟩, .slice none 0 0] 50 (0, 0)) := below_heap hb (by simp) (hb_new3 w _ _ _)
  have k02 : w1.cell? ⟨w.heap.size, 2, none⟩ = some (.slice g n c) := heap_cell x0 2
  have k20 : w1.cell? ⟨w.heap.size + 1 + 1, 0, none⟩ = some (.string ⟨#[]⟩) := heap_cell x2 0
  have k21 : w1.cell? ⟨w.heap.size + 1 + 1, 1, none⟩ = some (.string ⟨#[]⟩) := heap_cell x2 1
  have f20 := heap_free x2 0
  have f21 := heap_free x2 1
  have HB1 : Hid (Below w.heap.size w w1) := ((((Below.refl _ _).alloc (Nat.le_refl _) _).alloc (by simp) _).alloc (by simp; omega) _).trans (hb.mono (by simp; omega))
  have X1 := hid x1
  have X2 := hid x2
  have HS := hid hs
  have hz1 : w.heap.size + 1 + 1 < w1.heap.size := by omega
  have hz2 : w.heap.size < w1.heap.size := by omega
  clear hb x0 x1 x2 hs
  go_wp2_with fail
  refine (toNeedS_any _ xs _ h0 (HS.out.below ((HB1.out.setCell (by simp; omega) _).setCell (by simp; omega) _))).mono ?_
  rintro e w2 ⟨g2, rfl, hg2, hh2, -, hb⟩
  have y2 : w2.heap[w.heap.size + 1 + 1]? = some (.cells #[.string a, .string b, .slice none 0 0] 50 (0, 0)) := below_heap hb (by simp; omega) (heap_set (heap_set X2.out 0 _) 1 _)
  have y1 : w2.heap[w.heap.size + 1]? = some (.cells #[.string ⟨#[]⟩, .string ⟨#[]⟩, .slice none 0 0] 50 (0, 0)) := below_heap hb (by simp; omega) (hb_set_ne (hb_set_ne X1.out _ _ (by simp)) _ _ (by simp))
  have k20 : w2.cell? ⟨w.heap.size + 1 + 1, 0, none⟩ = some (.string a) := heap_cell y2 0
  have k21 : w2.cell? ⟨w.heap.size + 1 + 1, 1, none⟩ = some (.string b) := heap_cell y2 1
  have k22 : w2.cell? ⟨w.heap.size + 1 + 1, 2, none⟩ = some (.slice none 0 0) := heap_cell y2 2
  have f22 := heap_free y2 2
  have k10 : w2.cell? ⟨w.heap.size + 1, 0, none⟩ = some (.string ⟨#[]⟩) := heap_cell y1 0
  have k11 : w2.cell? ⟨w.heap.size + 1, 1, none⟩ = some (.string ⟨#[]⟩) := heap_cell y1 1
  have k12 : w2.cell? ⟨w.heap.size + 1, 2, none⟩ = some (.slice none 0 0) := heap_cell y1 2
  have f10 := heap_free y1 0
  have f11 := heap_free y1 1
  have f12 := heap_free y1 2
  have hz3 := hb.size
  simp only [World.size_setCell] at hz3 hg2
  have HB2 : Hid (Below w.heap.size w w2) := ((HB1.out.setCell (by simp; omega) _).setCell (by simp; omega) _).trans (hb.mono (by simp; omega))
  have Y1 := hid y1
  have HH2 := hid hh2
  have hl1 : w.heap.size + 1 < w2.heap.size := by omega
  have hl2 : w.heap.size + 1 + 1 < w2.heap.size := by omega
  clear hb y1 y2 hh2
  go_wp2
  refine bodyPost_ret (results_cell_row rfl _ _ (w.heap.size + 1) 50 #[.string a, .string b, .slice (some ⟨g2, 0, none⟩) xs.length xs.length] (0, 0) _ rfl (heap_set (heap_set (heap_set (hb_set_ne Y1.out _ _ (by simp)) 0 _) 1 _) 2 _) Try.underlying50 rfl (by kernel_rfl)) rfl ?_
  have hh := hb_set_ne (hb_set_ne (hb_set_ne (hb_set_ne HH2.out ⟨w.heap.size + 1 + 1, 2, none⟩ (.slice (some ⟨g2, 0, none⟩) xs.length xs.length) (by simp; omega)) ⟨w.heap.size + 1, 0, none⟩ (.string a) (by simp; omega)) ⟨w.heap.size + 1, 1, none⟩ (.string b) (by simp; omega)) ⟨w.heap.size + 1, 2, none⟩ (.slice (some ⟨g2, 0, none⟩) xs.length xs.length) (by simp; omega)
  exact ⟨g2, rfl, by omega, hh, SP.of_heap hh hsz.1 hsz.2, (((HB2.out.setCell (by simp; omega) _).setCell (by simp) _).setCell (by simp) _).setCell (by simp) _⟩

theorem eqInstance_same (a b : ByteArray) (v v' : Value) (xs : List BB) (w : World) (hs : SP w v xs) (hs' : SP w v' xs) :
    Calls Try.prog 45 #[.agg #[.string a, .string b, v], .agg #[.string a, .string b, v']] w fun e w' => e = .returned (.bool true) ∧ Below w.heap.size w w' := by
  obtain ⟨g, n, c, rfl⟩ : ∃ g n c, v = .slice g n c := by
    rcases hs with ⟨rfl, a, cap, rfl⟩ | ⟨b, off, cap, rfl, hn, hc⟩ <;> exact ⟨_, _, _, rfl⟩
  obtain ⟨g', n', c', rfl⟩ : ∃ g n c, v' = .slice g n c := by
    rcases hs' with ⟨rfl, a, cap, rfl⟩ | ⟨b, off, cap, rfl, hn, hc⟩ <;> exact ⟨_, _, _, rfl⟩
  go_enter Try.func45, Try.ntmps45
  go_wp2_with fail
  refine (eqNeed_both a b _).mono ?_
  rintro e w1 ⟨rfl, hb⟩
  have x0 := below_heap hb (by simp; omega) (hb_alloc (heap_alloc_new w _) _)
  have x1 := below_heap hb (by simp) (hb_new2 w _ _ _ rfl)
  have k02 : w1.cell? ⟨w.heap.size, 2, none⟩ = some (.slice g n c) := heap_cell x0 2
  have k12 : w1.cell? ⟨w.heap.size + 1, 2, none⟩ = some (.slice g' n' c') := heap_cell x1 2
  have HB1 : Hid (Below w.heap.size w w1) := (((Below.refl _ _).alloc (Nat.le_refl _) _).alloc (by simp) _).trans (hb.mono (by simp; omega))
  have HS := hid (hs.below HB1.out)
  have HS' := hid (hs'.below HB1.out)
  have hz := hb.size
  simp only [World.size_alloc] at hz
  have hz1 : w.heap.size + 1 < w1.heap.size := by omega
  have hz2 : w.heap.size < w1.heap.size := by omega
  clear hb x0 x1 hs hs'
  go_wp2_with fail
  refine (eqNeedS_same _ _ xs _ HS.out HS'.out).mono ?_
  rintro e w2 ⟨rfl, hb⟩
  have HB2 : Hid (Below w.heap.size w w2) := HB1.out.trans (hb.mono HB1.out.size)
  clear hb
  go_wp2
  go_ret
  exact ⟨rfl, HB2.out⟩

end Go.Proofs.Ytcjalnianamlaaa
