/- The draws' source: how it is opened, its picks. Conditions: those typed. -/
import Derived.Test.YtaapdhacnbhohaaGreatRows
import Derived.Test.YtaapdhacnbhohaaGreatListS
import Derived.ProofKit
import Derived.SliceStrings
import Derived.Deep.Strs
import Derived.OpenShut
import Derived.ShutString
import Derived.ChangeSlices
set_option linter.unusedVariables false
set_option linter.unusedSimpArgs false
set_option maxRecDepth 100000
namespace Go.Proofs.YtaapdhacnbhohaaGreat
open Go.RowKit Go.ChangeShapes Go.WideShapes Go.Deep
namespace Draw
theorem lt_cell {w : World} {a : Addr} {v : Value} (h : w.cell? a = some v) : a.block < w.heap.size := by
  rcases Nat.lt_or_ge a.block w.heap.size with hlt | hge
  · exact hlt
  · have : w.heap[a.block]? = none := Array.getElem?_eq_none_iff.2 hge
    simp [World.cell?, this] at h
/-- the slice v holds these bytes -/
def SB (w : World) (v : Value) (xs : List Int) : Prop :=
  (xs = [] ∧ ∃ a cap, v = .slice a 0 cap) ∨ ∃ (b off cap : Nat), v = .slice (some ⟨b, off, none⟩) xs.length cap ∧ xs.length ≤ cap ∧ cap ≤ maxLen ∧
    ∀ (i : Nat) (x : Int), xs[i]? = some x → w.cell? ⟨b, off + i, none⟩ = some (.int .u8 x) ∧ 0 ≤ x ∧ x < 256
theorem SB.keep {w w' : World} {v : Value} {xs : List Int} (h : SB w v xs) (hb : ∀ (a : Addr) (u : Value) (x : Int), w.cell? a = some (.int .u8 x) → w'.cell? a = some (.int .u8 x)) : SB w' v xs := by
  rcases h with h | ⟨b, off, cap, hv, hn, hm, hc⟩
  · exact .inl h
  · exact .inr ⟨b, off, cap, hv, hn, hm, fun i x hx => ⟨hb _ v x (hc i x hx).1, (hc i x hx).2⟩⟩
theorem SB.below {w w' : World} {v : Value} {xs : List Int} (h : SB w v xs) (hb : Below w.heap.size w w') : SB w' v xs := by
  rcases h with h | ⟨b, off, cap, hv, hn, hm, hc⟩
  · exact .inl h
  · exact .inr ⟨b, off, cap, hv, hn, hm, fun i x hx => ⟨(hb.cell (lt_cell (hc i x hx).1)).trans (hc i x hx).1, (hc i x hx).2⟩⟩
theorem sb_slice {w : World} {v : Value} {xs : List Int} (h : SB w v xs) : ∃ a cap, v = .slice a xs.length cap := by
  rcases h with ⟨rfl, a, cap, rfl⟩ | ⟨b, off, cap, rfl, _⟩
  · exact ⟨a, cap, rfl⟩
  · exact ⟨_, cap, rfl⟩
section
variable {H : Type} {enc : TypeId × Value → H} {P : Program} {w : World} {base : Nat} {spare : Nat → Bool} {held : Bool}
theorem open_sb {r : Reach} {b0 : Nat} {t e : TypeId} {v : Value} {d : DataW H} {p : List MemPlace} (ht : P.underlying t = some (.slice e)) (he : P.underlying e = some (.int .u8)) (hc : P.cellsOf e = 1)
    (hv : Value.okWide P w r b0 t v) (h : DataW.Trod enc P w base spare held t v d p) : ∃ xs, SB w v xs := by
  obtain ⟨a, len, cap, rfl⟩ := okWide_slice ht hv
  obtain ⟨fuel, hf⟩ := h
  rcases open_ints ht he hc hf with ⟨hcs, hx⟩ | ⟨a, len', cap', zs, hcs, hb, hlc, hm, hmm, hx, hcell, hsz⟩
  · simp [Value.cells] at hcs
    obtain ⟨rfl, rfl, rfl⟩ := hcs
    exact ⟨[], .inl ⟨rfl, _, _, rfl⟩⟩
  · simp [Value.cells] at hcs
    obtain ⟨rfl, rfl, rfl⟩ := hcs
    have hlm : len ≤ zs.length := by rw [hmm]; split <;> omega
    by_cases hl0 : len = 0
    · subst hl0
      exact ⟨[], .inl ⟨rfl, _, _, rfl⟩⟩
    obtain ⟨b, off, spot⟩ := a
    obtain rfl : spot = none := by simpa [Addr.add] using World.cell?_spot (hcell 0 (by omega))
    have hadd : ∀ i, (⟨b, off, none⟩ : Addr).add i = ⟨b, off + i, none⟩ := fun i => by unfold Addr.add; split <;> simp_all
    simp only [hadd] at hcell
    refine ⟨zs.take len, .inr ⟨b, off, cap, by simp [Nat.min_eq_left hlm], by simp; omega, hm, fun i p hp => ?_⟩⟩
    have hi : i < len := by
      have := (List.getElem?_eq_some_iff.1 hp).1
      simp at this
      omega
    rw [List.getElem?_take_of_lt hi] at hp
    have e1 : zs.getD i 0 = p := by simp [List.getD_eq_getElem?_getD, hp]
    have e2 := hsz p (List.mem_of_getElem? hp)
    refine ⟨by rw [hcell i (by omega), e1], ?_⟩
    have e3 := bounds_u8 e2
    omega
end
/-- block a holds a source of draws, of which at most q were taken -/
def RD (w : World) (a q : Nat) : Prop := ∃ (v : Value) (xs : List Int) (p : Nat), w.heap[a]? = some (.cells #[v, .int .i64 p] 44 (0, 0)) ∧ p ≤ q ∧ SB w v xs ∧ xs.length ≤ 2000 ∧ (xs ≠ [] → ∀ ad n c, v = .slice (some ad) n c → ad.block < a)
theorem RD.mono {w : World} {a q q' : Nat} (h : RD w a q) (hq : q ≤ q') : RD w a q' := by
  obtain ⟨v, xs, p, h1, h2, h3⟩ := h
  exact ⟨v, xs, p, h1, by omega, h3⟩
theorem RD.below {w w' : World} {a q : Nat} (h : RD w a q) (hb : Below w.heap.size w w') : RD w' a q := by
  obtain ⟨v, xs, p, h1, h2, h3, h4⟩ := h
  exact ⟨v, xs, p, below_heap hb (lt_of_heap h1) h1, h2, h3.below hb, h4⟩
theorem gb0 {w w' : World} (h : Below w.heap.size w w') (row : Option Nat) : w.grownBy w' row := ⟨h.os, h.tape, h.output, h.size, fun k hk _ => h.block k hk⟩
theorem k2d {w : World} {b : Nat} {x y : Value} {e : TypeId} (h : w.heap[b]? = some (.cells #[x, y] e (0, 0))) : w.cell? ⟨b, 0, none⟩ = some x ∧ w.cell? ⟨b, 1, none⟩ = some y ∧ w.frozen? ⟨b, 0, none⟩ = false ∧ w.frozen? ⟨b, 1, none⟩ = false :=
  ⟨heap_cell h 0, heap_cell h 1, heap_free h 0, heap_free h 1⟩
theorem RD.lt {w : World} {a q : Nat} (h : RD w a q) : a < w.heap.size := by
  obtain ⟨v, xs, p, h1, -⟩ := h
  exact lt_of_heap h1
theorem RD.grown {w w' : World} {a q : Nat} {row : Option Nat} (h : RD w a q) (hg : w.grownBy w' row) (hr : ∀ g, row = some g → a < g) : RD w' a q := by
  obtain ⟨v, xs, p, h1, h2, h3, h4, h5⟩ := h
  refine ⟨v, xs, p, grown_keep hg h1 (fun e => by have := hr a e.symm; omega), h2, ?_, h4, h5⟩
  rcases h3 with h3 | ⟨b, off, cap, hv, hn, hm, hc⟩
  · exact .inl h3
  · refine .inr ⟨b, off, cap, hv, hn, hm, fun i x hx => ⟨?_, (hc i x hx).2⟩⟩
    have hb : b < a := h5 (by rintro rfl; simp at hx) _ _ _ hv
    have h6 := (hc i x hx).1
    have h7 := hg.block b (lt_cell h6) (fun e => by have := hr b e.symm; omega)
    unfold World.cell? at h6 ⊢
    rw [h7]
    exact h6
theorem bits_xor_i64 (a b : Nat) (ha : a < 4611686018427387904) (hb : b < 4611686018427387904) : bits .xor .i64 (a : Int) (b : Int) = ((a ^^^ b : Nat) : Int) := by
  have hx : a ^^^ b < 4611686018427387904 := Nat.xor_lt_two_pow (n := 62) ha hb
  have h1 : (BitVec.ofInt 64 (a : Int)).toNat = a := by
    rw [BitVec.ofInt_natCast, BitVec.toNat_ofNat]; exact Nat.mod_eq_of_lt (by omega)
  have h2 : (BitVec.ofInt 64 (b : Int)).toNat = b := by
    rw [BitVec.ofInt_natCast, BitVec.toNat_ofNat]; exact Nat.mod_eq_of_lt (by omega)
  show IntKind.i64.wrap ((BitVec.ofInt 64 (a : Int) ^^^ BitVec.ofInt 64 (b : Int)).toNat : Int) = _
  rw [BitVec.toNat_xor, h1, h2, IntKind.wrap_i64]
  omega
theorem RD.step {w w' : World} {a q : Nat} {v : Value} {xs : List Int} {p : Nat} (hh : w.heap[a]? = some (.cells #[v, .int .i64 p] 44 (0, 0))) (hp : p ≤ q) (hs : SB w v xs) (hl : xs.length ≤ 2000 ∧ (xs ≠ [] → ∀ ad n c, v = .slice (some ad) n c → ad.block < a)) (hw : w' = w.setCell ⟨a, 1, none⟩ (.int .i64 ((p + 1 : Nat) : Int)) ∨ ∃ n, w' = (w.setCell ⟨a, 1, none⟩ (.int .i64 ((p + 1 : Nat) : Int))).drewN n) : RD w' a (q + 1) ∧ w.grownBy w' (some a) := by
  have key : RD (w.setCell ⟨a, 1, none⟩ (.int .i64 ((p + 1 : Nat) : Int))) a (q + 1) := by
    refine ⟨v, xs, p + 1, heap_set hh 1 _, by omega, hs.keep fun ad u x hx => ?_, hl⟩
    obtain ⟨b, off, sp⟩ := ad
    obtain rfl : sp = none := World.cell?_spot hx
    by_cases e : b = a
    · subst e
      rw [heap_cell hh] at hx
      match off, hx with
      | 0, hx =>
        simp at hx
        rw [World.cell?_setCell_other _ _ _ _ (by simp)]
        rw [heap_cell hh]
        simpa using hx
      | 1, hx => simp at hx
      | k + 2, hx => simp at hx
    · rw [World.cell?_setCell_other _ _ _ _ (fun h => e (by rw [Addr.mk.injEq] at h; exact h.1.symm))]
      exact hx
  rcases hw with rfl | ⟨n, rfl⟩
  · exact ⟨key, grown_set _ _ _ _⟩
  · exact ⟨key.below (below_drewN (Below.refl _ _) n), grown_trans (grown_set _ _ _ _) (gb0 (below_drewN (Below.refl _ _) n) _)⟩
set_option maxHeartbeats 4000000 in
theorem pick_any (a q n : Nat) (w : World) (hn : 1 ≤ n) (hn2 : n ≤ 1000000) (hq : q ≤ 1000000) (h : RD w a q) :
    Calls Tryz.prog 24 #[.pointer (some ⟨a, 0, none⟩), .int .i64 n] w fun e w' => ∃ i : Nat, i < n ∧ e = .returned (.int .i64 i) ∧ RD w' a (q + 1) ∧ w.grownBy w' (some a) := by
  obtain ⟨v, xs, p, hh, hp, hs, hl⟩ := h
  have HH := hid hh
  have HS := hid hs
  have hal := lt_of_heap hh
  obtain ⟨c0, c1, z0, z1⟩ := k2d hh
  have HP := hid hp
  have HL := hid hl
  replace hl := hl.1
  have hp6 : p ≤ 1000000 := by omega
  have hn0 : ¬ ((n : Int) < 1) := by omega
  rcases hs with ⟨rfl, ad, cap, rfl⟩ | ⟨b, off, cap, rfl, hlc, hcm, hc⟩
  · clear hh hp hl
    go_enter Tryz.func24, Tryz.ntmps24
    go_wp2
    go_ret
    exact ⟨0, by omega, rfl, RD.step HH.out HP.out HS.out HL.out (.inl rfl)⟩
  · have HC := hid hc
    clear hh hp hc
    by_cases h0 : xs.length = 0
    · go_enter Tryz.func24, Tryz.ntmps24
      go_wp2
      go_ret
      exact ⟨0, by omega, rfl, RD.step HH.out HP.out HS.out HL.out (.inl rfl)⟩
    · have hln : ((xs.length : Int) == 0) = false := by rw [beq_eq_false_iff_ne]; omega
      have hnz : ¬ (n : Int) = 0 := by omega
      have hlz : ¬ (xs.length : Int) = 0 := by omega
      have hab : ∀ (k : Nat) (x : Int), xs[k]? = some x → w.cell? ⟨b, off + k, none⟩ = some (.int .u8 x) ∧ (w.setCell ⟨a, 1, none⟩ (.int .i64 ((p : Int) + 1))).cell? ⟨b, off + k, none⟩ = some (.int .u8 x) ∧ 0 ≤ x ∧ x < 256 := by
        intro k x hx
        obtain ⟨q1, q2, q3⟩ := HC.out k x hx
        refine ⟨q1, ?_, q2, q3⟩
        by_cases e : b = a
        · subst e
          have q4 := q1
          rw [heap_cell HH.out] at q4
          rcases Nat.lt_or_ge (off + k) 2 with hlt | hge
          · rcases (by omega : off + k = 0 ∨ off + k = 1) with h | h
            · rw [h] at q4; simp at q4
            · rw [h] at q4; simp at q4
          · rw [Array.getElem?_eq_none (by simpa using hge)] at q4
            simp at q4
        · rw [World.cell?_setCell_other _ _ _ _ (fun h => e (by rw [Addr.mk.injEq] at h; exact h.1.symm))]
          exact q1
      have HAB := hid hab
      clear hab
      by_cases hpl : p < xs.length
      · obtain ⟨y, hy⟩ : ∃ y, xs[p]? = some y := ⟨_, List.getElem?_eq_getElem hpl⟩
        obtain ⟨-, hcy, hy0, hy1⟩ := HAB.out p y hy
        have hw64 : wrap64 y = y := IntWalk.wrap64_in _ ⟨by omega, by omega⟩
        clear hy
        go_enter Tryz.func24, Tryz.ntmps24
        go_wp2
        go_ret
        exact ⟨(y % (n : Int)).toNat, by have h1 := Int.emod_lt_of_pos y (b := (n : Int)) (by omega); have h2 := Int.emod_nonneg y hnz; omega, by rw [Int.toNat_of_nonneg (Int.emod_nonneg _ hnz)]; rfl, RD.step HH.out HP.out HS.out HL.out (.inl rfl)⟩
      · obtain ⟨y, hy⟩ : ∃ y, xs[p % xs.length]? = some y := ⟨_, List.getElem?_eq_getElem (Nat.mod_lt _ (by omega))⟩
        obtain ⟨z, hz⟩ : ∃ z, xs[(p * 7 + 3) % xs.length]? = some z := ⟨_, List.getElem?_eq_getElem (Nat.mod_lt _ (by omega))⟩
        obtain ⟨-, hcy, hy0, hy1⟩ := HAB.out _ y hy
        obtain ⟨-, hcz, hz2, hz3⟩ := HAB.out _ z hz
        have hw64 : wrap64 y = y := IntWalk.wrap64_in _ ⟨by omega, by omega⟩
        have hw65 : wrap64 z = z := IntWalk.wrap64_in _ ⟨by omega, by omega⟩
        have hi1 : 0 ≤ (p : Int) % xs.length ∧ (p : Int) % xs.length < xs.length := ⟨Int.emod_nonneg _ hlz, Int.emod_lt_of_pos _ (by omega)⟩
        have hi2 : 0 ≤ ((p : Int) * 7 + 3) % xs.length ∧ ((p : Int) * 7 + 3) % xs.length < xs.length := ⟨Int.emod_nonneg _ hlz, Int.emod_lt_of_pos _ (by omega)⟩
        have hq0 : 0 ≤ (p : Int) / xs.length ∧ (p : Int) / xs.length ≤ 1000000 := by
          have h1 : ((p / xs.length : Nat) : Int) = (p : Int) / xs.length := Int.natCast_ediv ..
          rw [← h1]
          exact ⟨Int.natCast_nonneg _, (Int.ofNat_le (n := 1000000)).2 (Nat.le_trans (Nat.div_le_self _ _) hp6)⟩
        clear hy hz
        go_enter Tryz.func24, Tryz.ntmps24
        go_wp2_with fail
        go_region
        have hX : ∃ X : Nat, (X : Int) = y * 131 + z * 1117 + ↑p * 29 + ↑p / ↑xs.length * 53 ∧ X ≤ 1000000000 := ⟨(y * 131 + z * 1117 + ↑p * 29 + ↑p / ↑xs.length * 53).toNat, by omega, by omega⟩
        obtain ⟨X, hX, hX2⟩ := hX
        rw [← hX]
        have hxor : bits .xor .i64 (X : Int) ((X : Int) / 64) = ((X ^^^ X / 64 : Nat) : Int) := by
          have := bits_xor_i64 X (X / 64) (by omega) (by omega)
          rw [Int.natCast_ediv] at this
          exact this
        obtain ⟨V, hV⟩ : ∃ V, V = X ^^^ X / 64 := ⟨_, rfl⟩
        rw [← hV] at hxor
        have hV2 : V ≤ 4611686018427387904 := by
          rw [hV]
          exact Nat.le_of_lt (Nat.xor_lt_two_pow (n := 62) (by omega) (by omega))
        clear hV hX hcy hcz hw64 hw65 hi1 hi2 hq0
        go_wp2
        go_ret
        exact ⟨((V : Int) % (n : Int)).toNat, by have h1 := Int.emod_lt_of_pos (V : Int) (b := (n : Int)) (by omega); have h2 := Int.emod_nonneg (V : Int) hnz; omega, by rw [Int.toNat_of_nonneg (Int.emod_nonneg _ hnz)]; rfl, RD.step HH.out HP.out HS.out HL.out (.inr ⟨1, rfl⟩)⟩
end Draw
end Go.Proofs.YtaapdhacnbhohaaGreat
