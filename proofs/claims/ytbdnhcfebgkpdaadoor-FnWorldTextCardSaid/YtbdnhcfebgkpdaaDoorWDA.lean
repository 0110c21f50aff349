/- The draws' source: how it is opened, its picks. Conditions: those typed. -/
import Derived.Test.YtbdnhcfebgkpdaaDoorRows
import Derived.Test.YtbdnhcfebgkpdaaDoorListS
import Derived.ProofKit
import Derived.SliceStrings
import Derived.Deep.Strs
import Derived.OpenShut
import Derived.ShutString
import Derived.ChangeSlices
import Derived.Test.YtbdnhcfebgkpdaaDoorVarsI
import Derived.Test.YtbdnhcfebgkpdaaDoorPWoP
import Derived.Test.YtbdnhcfebgkpdaaDoorTail
import Derived.Test.YtbdnhcfebgkpdaaDoorOwnL
import Derived.Test.YtbdnhcfebgkpdaaDoorReg2
import Derived.Deep.AppendLies
set_option linter.unusedVariables false
set_option linter.unusedSimpArgs false
set_option maxRecDepth 100000
namespace Go.Proofs.YtbdnhcfebgkpdaaDoor
open Go.RowKit Go.ChangeShapes Go.WideShapes Go.Deep
namespace Draw
theorem lt_cell {w : World} {a : Addr} {v : Value} (h : w.cell? a = some v) : a.block < w.heap.size := by
  rcases Nat.lt_or_ge a.block w.heap.size with hlt | hge
  · exact hlt
  · have : w.heap[a.block]? = none := Array.getElem?_eq_none_iff.2 hge
    simp [World.cell?, this] at h
/-- the slice v holds these bytes -/
def SB (w : World) (v : Value) (xs : List Int) : Prop :=
  (xs = [] ∧ ∃ a cap, v = .slice a 0 cap) ∨ ∃ (b off cap : Nat), v = .slice (some ⟨b, off, none⟩) xs.length cap ∧ xs.length ≤ cap ∧ cap ≤ maxLen ∧
    ∀ (i : Nat) (x : Int), xs[i]? = some x → w.cell? ⟨b, off + i, none⟩ = some (.int .u8 x) ∧ 0 ≤ x ∧ x < 256
theorem SB.keep {w w' : World} {v : Value} {xs : List Int} (h : SB w v xs) (hb : ∀ (a : Addr) (u : Value) (x : Int), w.cell? a = some (.int .u8 x) → w'.cell? a = some (.int .u8 x)) : SB w' v xs := by
  rcases h with h | ⟨b, off, cap, hv, hn, hm, hc⟩
  · exact .inl h
  · exact .inr ⟨b, off, cap, hv, hn, hm, fun i x hx => ⟨hb _ v x (hc i x hx).1, (hc i x hx).2⟩⟩
theorem SB.below {w w' : World} {v : Value} {xs : List Int} (h : SB w v xs) (hb : Below w.heap.size w w') : SB w' v xs := by
  rcases h with h | ⟨b, off, cap, hv, hn, hm, hc⟩
  · exact .inl h
  · exact .inr ⟨b, off, cap, hv, hn, hm, fun i x hx => ⟨(hb.cell (lt_cell (hc i x hx).1)).trans (hc i x hx).1, (hc i x hx).2⟩⟩
theorem sb_slice {w : World} {v : Value} {xs : List Int} (h : SB w v xs) : ∃ a cap, v = .slice a xs.length cap := by
  rcases h with ⟨rfl, a, cap, rfl⟩ | ⟨b, off, cap, rfl, _⟩
  · exact ⟨a, cap, rfl⟩
  · exact ⟨_, cap, rfl⟩
section
variable {H : Type} {enc : TypeId × Value → H} {P : Program} {w : World} {base : Nat} {spare : Nat → Bool} {held : Bool}
theorem open_sb {r : Reach} {b0 : Nat} {t e : TypeId} {v : Value} {d : DataW H} {p : List MemPlace} (ht : P.underlying t = some (.slice e)) (he : P.underlying e = some (.int .u8)) (hc : P.cellsOf e = 1)
    (hv : Value.okWide P w r b0 t v) (h : DataW.Trod enc P w base spare held t v d p) : ∃ xs, SB w v xs := by
  obtain ⟨a, len, cap, rfl⟩ := okWide_slice ht hv
  obtain ⟨fuel, hf⟩ := h
  rcases open_ints ht he hc hf with ⟨hcs, hx⟩ | ⟨a, len', cap', zs, hcs, hb, hlc, hm, hmm, hx, hcell, hsz⟩
  · simp [Value.cells] at hcs
    obtain ⟨rfl, rfl, rfl⟩ := hcs
    exact ⟨[], .inl ⟨rfl, _, _, rfl⟩⟩
  · simp [Value.cells] at hcs
    obtain ⟨rfl, rfl, rfl⟩ := hcs
    have hlm : len ≤ zs.length := by rw [hmm]; split <;> omega
    by_cases hl0 : len = 0
    · subst hl0
      exact ⟨[], .inl ⟨rfl, _, _, rfl⟩⟩
    obtain ⟨b, off, spot⟩ := a
    obtain rfl : spot = none := by simpa [Addr.add] using World.cell?_spot (hcell 0 (by omega))
    have hadd : ∀ i, (⟨b, off, none⟩ : Addr).add i = ⟨b, off + i, none⟩ := fun i => by unfold Addr.add; split <;> simp_all
    simp only [hadd] at hcell
    refine ⟨zs.take len, .inr ⟨b, off, cap, by simp [Nat.min_eq_left hlm], by simp; omega, hm, fun i p hp => ?_⟩⟩
    have hi : i < len := by
      have := (List.getElem?_eq_some_iff.1 hp).1
      simp at this
      omega
    rw [List.getElem?_take_of_lt hi] at hp
    have e1 : zs.getD i 0 = p := by simp [List.getD_eq_getElem?_getD, hp]
    have e2 := hsz p (List.mem_of_getElem? hp)
    refine ⟨by rw [hcell i (by omega), e1], ?_⟩
    have e3 := bounds_u8 e2
    omega
end
/-- block a holds a source of draws, of which at most q were taken -/
def RD (w : World) (a q : Nat) : Prop := ∃ (v : Value) (xs : List Int) (p : Nat), w.heap[a]? = some (.cells #[v, .int .i64 p] 76 (0, 0)) ∧ p ≤ q ∧ SB w v xs ∧ xs.length ≤ 2000 ∧ (xs ≠ [] → ∀ ad n c, v = .slice (some ad) n c → ad.block < a)
theorem RD.mono {w : World} {a q q' : Nat} (h : RD w a q) (hq : q ≤ q') : RD w a q' := by
  obtain ⟨v, xs, p, h1, h2, h3⟩ := h
  exact ⟨v, xs, p, h1, by omega, h3⟩
theorem RD.below {w w' : World} {a q : Nat} (h : RD w a q) (hb : Below w.heap.size w w') : RD w' a q := by
  obtain ⟨v, xs, p, h1, h2, h3, h4⟩ := h
  exact ⟨v, xs, p, below_heap hb (lt_of_heap h1) h1, h2, h3.below hb, h4⟩
theorem gb0 {w w' : World} (h : Below w.heap.size w w') (row : Option Nat) : w.grownBy w' row := ⟨h.os, h.tape, h.output, h.size, fun k hk _ => h.block k hk⟩
theorem k2d {w : World} {b : Nat} {x y : Value} {e : TypeId} (h : w.heap[b]? = some (.cells #[x, y] e (0, 0))) : w.cell? ⟨b, 0, none⟩ = some x ∧ w.cell? ⟨b, 1, none⟩ = some y ∧ w.frozen? ⟨b, 0, none⟩ = false ∧ w.frozen? ⟨b, 1, none⟩ = false :=
  ⟨heap_cell h 0, heap_cell h 1, heap_free h 0, heap_free h 1⟩
theorem RD.lt {w : World} {a q : Nat} (h : RD w a q) : a < w.heap.size := by
  obtain ⟨v, xs, p, h1, -⟩ := h
  exact lt_of_heap h1
theorem RD.grown {w w' : World} {a q : Nat} {row : Option Nat} (h : RD w a q) (hg : w.grownBy w' row) (hr : ∀ g, row = some g → a < g) : RD w' a q := by
  obtain ⟨v, xs, p, h1, h2, h3, h4, h5⟩ := h
  refine ⟨v, xs, p, grown_keep hg h1 (fun e => by have := hr a e.symm; omega), h2, ?_, h4, h5⟩
  rcases h3 with h3 | ⟨b, off, cap, hv, hn, hm, hc⟩
  · exact .inl h3
  · refine .inr ⟨b, off, cap, hv, hn, hm, fun i x hx => ⟨?_, (hc i x hx).2⟩⟩
    have hb : b < a := h5 (by rintro rfl; simp at hx) _ _ _ hv
    have h6 := (hc i x hx).1
    have h7 := hg.block b (lt_cell h6) (fun e => by have := hr b e.symm; omega)
    unfold World.cell? at h6 ⊢
    rw [h7]
    exact h6
theorem bits_xor_i64 (a b : Nat) (ha : a < 4611686018427387904) (hb : b < 4611686018427387904) : bits .xor .i64 (a : Int) (b : Int) = ((a ^^^ b : Nat) : Int) := by
  have hx : a ^^^ b < 4611686018427387904 := Nat.xor_lt_two_pow (n := 62) ha hb
  have h1 : (BitVec.ofInt 64 (a : Int)).toNat = a := by
    rw [BitVec.ofInt_natCast, BitVec.toNat_ofNat]; exact Nat.mod_eq_of_lt (by omega)
  have h2 : (BitVec.ofInt 64 (b : Int)).toNat = b := by
    rw [BitVec.ofInt_natCast, BitVec.toNat_ofNat]; exact Nat.mod_eq_of_lt (by omega)
  show IntKind.i64.wrap ((BitVec.ofInt 64 (a : Int) ^^^ BitVec.ofInt 64 (b : Int)).toNat : Int) = _
  rw [BitVec.toNat_xor, h1, h2, IntKind.wrap_i64]
  omega
theorem RD.step {w w' : World} {a q : Nat} {v : Value} {xs : List Int} {p : Nat} (hh : w.heap[a]? = some (.cells #[v, .int .i64 p] 76 (0, 0))) (hp : p ≤ q) (hs : SB w v xs) (hl : xs.length ≤ 2000 ∧ (xs ≠ [] → ∀ ad n c, v = .slice (some ad) n c → ad.block < a)) (hw : w' = w.setCell ⟨a, 1, none⟩ (.int .i64 ((p + 1 : Nat) : Int)) ∨ ∃ n, w' = (w.setCell ⟨a, 1, none⟩ (.int .i64 ((p + 1 : Nat) : Int))).drewN n) : RD w' a (q + 1) ∧ w.grownBy w' (some a) := by
  have key : RD (w.setCell ⟨a, 1, none⟩ (.int .i64 ((p + 1 : Nat) : Int))) a (q + 1) := by
    refine ⟨v, xs, p + 1, heap_set hh 1 _, by omega, hs.keep fun ad u x hx => ?_, hl⟩
    obtain ⟨b, off, sp⟩ := ad
    obtain rfl : sp = none := World.cell?_spot hx
    by_cases e : b = a
    · subst e
      rw [heap_cell hh] at hx
      match off, hx with
      | 0, hx =>
        simp at hx
        rw [World.cell?_setCell_other _ _ _ _ (by simp)]
        rw [heap_cell hh]
        simpa using hx
      | 1, hx => simp at hx
      | k + 2, hx => simp at hx
    · rw [World.cell?_setCell_other _ _ _ _ (fun h => e (by rw [Addr.mk.injEq] at h; exact h.1.symm))]
      exact hx
  rcases hw with rfl | ⟨n, rfl⟩
  · exact ⟨key, grown_set _ _ _ _⟩
  · exact ⟨key.below (below_drewN (Below.refl _ _) n), grown_trans (grown_set _ _ _ _) (gb0 (below_drewN (Below.refl _ _) n) _)⟩
set_option maxHeartbeats 4000000 in
theorem pick_any (a q n : Nat) (w : World) (hn : 1 ≤ n) (hn2 : n ≤ 1000000) (hq : q ≤ 1000000) (h : RD w a q) :
    Calls Tryd.prog 30 #[.pointer (some ⟨a, 0, none⟩), .int .i64 n] w fun e w' => ∃ i : Nat, i < n ∧ e = .returned (.int .i64 i) ∧ RD w' a (q + 1) ∧ w.grownBy w' (some a) := by
  obtain ⟨v, xs, p, hh, hp, hs, hl⟩ := h
  have HH := hid hh
  have HS := hid hs
  have hal := lt_of_heap hh
  obtain ⟨c0, c1, z0, z1⟩ := k2d hh
  have HP := hid hp
  have HL := hid hl
  replace hl := hl.1
  have hp6 : p ≤ 1000000 := by omega
  have hn0 : ¬ ((n : Int) < 1) := by omega
  rcases hs with ⟨rfl, ad, cap, rfl⟩ | ⟨b, off, cap, rfl, hlc, hcm, hc⟩
  · clear hh hp hl
    go_enter Tryd.func30, Tryd.ntmps30
    go_wp2
    go_ret
    exact ⟨0, by omega, rfl, RD.step HH.out HP.out HS.out HL.out (.inl rfl)⟩
  · have HC := hid hc
    clear hh hp hc
    by_cases h0 : xs.length = 0
    · go_enter Tryd.func30, Tryd.ntmps30
      go_wp2
      go_ret
      exact ⟨0, by omega, rfl, RD.step HH.out HP.out HS.out HL.out (.inl rfl)⟩
    · have hln : ((xs.length : Int) == 0) = false := by rw [beq_eq_false_iff_ne]; omega
      have hnz : ¬ (n : Int) = 0 := by omega
      have hlz : ¬ (xs.length : Int) = 0 := by omega
      have hab : ∀ (k : Nat) (x : Int), xs[k]? = some x → w.cell? ⟨b, off + k, none⟩ = some (.int .u8 x) ∧ (w.setCell ⟨a, 1, none⟩ (.int .i64 ((p : Int) + 1))).cell? ⟨b, off + k, none⟩ = some (.int .u8 x) ∧ 0 ≤ x ∧ x < 256 := by
        intro k x hx
        obtain ⟨q1, q2, q3⟩ := HC.out k x hx
        refine ⟨q1, ?_, q2, q3⟩
        by_cases e : b = a
        · subst e
          have q4 := q1
          rw [heap_cell HH.out] at q4
          rcases Nat.lt_or_ge (off + k) 2 with hlt | hge
          · rcases (by omega : off + k = 0 ∨ off + k = 1) with h | h
            · rw [h] at q4; simp at q4
            · rw [h] at q4; simp at q4
          · rw [Array.getElem?_eq_none (by simpa using hge)] at q4
            simp at q4
        · rw [World.cell?_setCell_other _ _ _ _ (fun h => e (by rw [Addr.mk.injEq] at h; exact h.1.symm))]
          exact q1
      have HAB := hid hab
      clear hab
      by_cases hpl : p < xs.length
      · obtain ⟨y, hy⟩ : ∃ y, xs[p]? = some y := ⟨_, List.getElem?_eq_getElem hpl⟩
        obtain ⟨-, hcy, hy0, hy1⟩ := HAB.out p y hy
        have hw64 : wrap64 y = y := IntWalk.wrap64_in _ ⟨by omega, by omega⟩
        clear hy
        go_enter Tryd.func30, Tryd.ntmps30
        go_wp2
        go_ret
        exact ⟨(y % (n : Int)).toNat, by have h1 := Int.emod_lt_of_pos y (b := (n : Int)) (by omega); have h2 := Int.emod_nonneg y hnz; omega, by rw [Int.toNat_of_nonneg (Int.emod_nonneg _ hnz)]; rfl, RD.step HH.out HP.out HS.out HL.out (.inl rfl)⟩
      · obtain ⟨y, hy⟩ : ∃ y, xs[p % xs.length]? = some y := ⟨_, List.getElem?_eq_getElem (Nat.mod_lt _ (by omega))⟩
        obtain ⟨z, hz⟩ : ∃ z, xs[(p * 7 + 3) % xs.length]? = some z := ⟨_, List.getElem?_eq_getElem (Nat.mod_lt _ (by omega))⟩
        obtain ⟨-, hcy, hy0, hy1⟩ := HAB.out _ y hy
        obtain ⟨-, hcz, hz2, hz3⟩ := HAB.out _ z hz
        have hw64 : wrap64 y = y := IntWalk.wrap64_in _ ⟨by omega, by omega⟩
        have hw65 : wrap64 z = z := IntWalk.wrap64_in _ ⟨by omega, by omega⟩
        have hi1 : 0 ≤ (p : Int) % xs.length ∧ (p : Int) % xs.length < xs.length := ⟨Int.emod_nonneg _ hlz, Int.emod_lt_of_pos _ (by omega)⟩
        have hi2 : 0 ≤ ((p : Int) * 7 + 3) % xs.length ∧ ((p : Int) * 7 + 3) % xs.length < xs.length := ⟨Int.emod_nonneg _ hlz, Int.emod_lt_of_pos _ (by omega)⟩
        have hq0 : 0 ≤ (p : Int) / xs.length ∧ (p : Int) / xs.length ≤ 1000000 := by
          have h1 : ((p / xs.length : Nat) : Int) = (p : Int) / xs.length := Int.natCast_ediv ..
          rw [← h1]
          exact ⟨Int.natCast_nonneg _, (Int.ofNat_le (n := 1000000)).2 (Nat.le_trans (Nat.div_le_self _ _) hp6)⟩
        clear hy hz
        go_enter Tryd.func30, Tryd.ntmps30
        go_wp2_with fail
        go_region
        have hX : ∃ X : Nat, (X : Int) = y * 131 + z * 1117 + ↑p * 29 + ↑p / ↑xs.length * 53 ∧ X ≤ 1000000000 := ⟨(y * 131 + z * 1117 + ↑p * 29 + ↑p / ↑xs.length * 53).toNat, by omega, by omega⟩
        obtain ⟨X, hX, hX2⟩ := hX
        rw [← hX]
        have hxor : bits .xor .i64 (X : Int) ((X : Int) / 64) = ((X ^^^ X / 64 : Nat) : Int) := by
          have := bits_xor_i64 X (X / 64) (by omega) (by omega)
          rw [Int.natCast_ediv] at this
          exact this
        obtain ⟨V, hV⟩ : ∃ V, V = X ^^^ X / 64 := ⟨_, rfl⟩
        rw [← hV] at hxor
        have hV2 : V ≤ 4611686018427387904 := by
          rw [hV]
          exact Nat.le_of_lt (Nat.xor_lt_two_pow (n := 62) (by omega) (by omega))
        clear hV hX hcy hcz hw64 hw65 hi1 hi2 hq0
        go_wp2
        go_ret
        exact ⟨((V : Int) % (n : Int)).toNat, by have h1 := Int.emod_lt_of_pos (V : Int) (b := (n : Int)) (by omega); have h2 := Int.emod_nonneg (V : Int) hnz; omega, by rw [Int.toNat_of_nonneg (Int.emod_nonneg _ hnz)]; rfl, RD.step HH.out HP.out HS.out HL.out (.inr ⟨1, rfl⟩)⟩
end Draw
end Go.Proofs.YtbdnhcfebgkpdaaDoor
set_option linter.unusedVariables false
set_option linter.unusedSimpArgs false
set_option maxRecDepth 100000
namespace Go.Proofs.YtbdnhcfebgkpdaaDoor
open Go.RowKit
namespace Draw
theorem bsz (xs : Array UInt8) : (ByteArray.mk xs).size = xs.size := rfl
/-- a text of lo to hi bytes is drawn -/
def SPost (w : World) (a q lo hi : Nat) (e : Ending) (w' : World) : Prop := ∃ s : ByteArray, e = .returned (.string s) ∧ lo ≤ s.size ∧ s.size ≤ hi ∧ RD w' a q ∧ w.grownBy w' (some a)
def okS (lo hi : Nat) (cs : List Value) : Bool := cs.all fun v => match v with | .string s => decide (lo ≤ s.size) && decide (s.size ≤ hi) | _ => false
theorem okS_mem {lo hi : Nat} {cs : List Value} (h : okS lo hi cs = true) {u : Value} (hu : u ∈ cs) : ∃ s : ByteArray, u = .string s ∧ lo ≤ s.size ∧ s.size ≤ hi := by
  have h1 := List.all_eq_true.1 h u hu
  split at h1
  · rename_i s
    simp only [Bool.and_eq_true, decide_eq_true_eq] at h1
    exact ⟨s, rfl, h1⟩
  · simp at h1
theorem of_any (a q g n : Nat) (cs : Array Value) (w : World) (hq : q ≤ 100000) (h0 : 0 < n) (hs : n ≤ 1000) (hn : cs.size = n) (hg : w.heap[g]? = some (.cells cs 9 (0, 0))) (h : RD w a q) :
    Calls Tryd.prog 31 #[.pointer (some ⟨a, 0, none⟩), .slice (some ⟨g, 0, none⟩) n n] w fun e w' => ∃ u, u ∈ cs.toList ∧ e = .returned u ∧ RD w' a (q + 1) ∧ w.grownBy w' (some a) := by
  have HG := hid hg
  have hne : g ≠ a := by
    obtain ⟨v, xs, p, h1, -⟩ := h
    exact heap_ne hg h1 (by decide)
  have HN := hid hn
  clear hg hn
  go_enter Tryd.func31, Tryd.ntmps31
  go_wp2_with fail
  refine (pick_any a q n w h0 (by omega) (by omega) h).mono ?_
  rintro e w1 ⟨i, hi, rfl, hr, hgr⟩
  have hk := grown_keep hgr HG.out (by simp; omega)
  have hc : w1.cell? ⟨g, i, none⟩ = some (cs[i]'(by have := HN.out; omega)) := by rw [heap_cell hk, Array.getElem?_eq_getElem (by have := HN.out; omega)]
  have HM : Hid ((cs[i]'(by have := HN.out; omega)) ∈ cs.toList) := by show _ ∈ _; simp
  generalize cs[i]'_ = u at *
  have HR := hid hr
  have HGR := hid hgr
  clear hk hr hgr
  go_wp2
  go_ret
  exact ⟨u, HM.out, rfl, HR.out, HGR.out⟩
theorem ofS_any (a q g n lo hi : Nat) (cs : Array Value) (w : World) (hq : q ≤ 100000) (h0 : 0 < n) (hs : n ≤ 1000) (hn : cs.size = n) (hg : w.heap[g]? = some (.cells cs 9 (0, 0))) (hok : okS lo hi cs.toList = true) (h : RD w a q) :
    Calls Tryd.prog 31 #[.pointer (some ⟨a, 0, none⟩), .slice (some ⟨g, 0, none⟩) n n] w (SPost w a (q + 1) lo hi) := by
  refine (of_any a q g n cs w hq h0 hs hn hg h).mono ?_
  rintro e w' ⟨u, hu, rfl, hr, hgr⟩
  obtain ⟨s, rfl, h1, h2⟩ := okS_mem hok hu
  exact ⟨s, rfl, h1, h2, hr, hgr⟩
def OPost (w : World) (e : Ending) (w' : World) : Prop := ∃ a, e = .returned (.pointer (some ⟨a, 0, none⟩)) ∧ w.heap.size ≤ a ∧ RD w' a 0 ∧ Below w.heap.size w w'
theorem open_any (v : Value) (xs : List Int) (w : World) (h : SB w v xs) : Calls Tryd.prog 27 #[v] w (OPost w) := by
  rcases h with ⟨rfl, a, cap, rfl⟩ | ⟨b, off, cap, rfl, hlc, hcm, hc⟩
  · go_enter Tryd.func27, Tryd.ntmps27
    go_wp2
    go_ret
    exact ⟨w.heap.size, rfl, Nat.le_refl _, ⟨_, [], 0, heap_alloc_new _ _, by omega, .inl ⟨rfl, _, _, rfl⟩, by simp, fun h => absurd rfl h⟩, (Below.refl _ _).alloc (Nat.le_refl _) _⟩
  · have HC := hid hc
    clear hc
    have hcm2 : cap ≤ 9223372036854775807 := by unfold maxLen at hcm; omega
    by_cases hl : 2000 < xs.length
    · go_enter Tryd.func27, Tryd.ntmps27
      go_wp2
      go_ret
      refine ⟨w.heap.size, rfl, Nat.le_refl _, ⟨_, xs.take 2000, 0, heap_alloc_new _ _, by omega, .inr ⟨b, off, cap, by rw [List.length_take, Nat.min_eq_left (by omega)], by rw [List.length_take]; omega, hcm, fun i x hx => ?_⟩, by rw [List.length_take]; omega, fun hne ad n c he => ?_⟩, (Below.refl _ _).alloc (Nat.le_refl _) _⟩
      rotate_left
      · cases he
        have h1 := (HC.out 0 (xs[0]'(by omega)) (List.getElem?_eq_getElem _)).1
        exact lt_cell h1
      have hx2 : xs[i]? = some x := by
        have hi := (List.getElem?_eq_some_iff.1 hx).1
        rw [List.length_take] at hi
        rwa [List.getElem?_take_of_lt (by omega)] at hx
      have := HC.out i x hx2
      exact ⟨(((Below.refl _ _).alloc (Nat.le_refl _) _).cell (lt_cell this.1)).trans this.1, this.2⟩
    · go_enter Tryd.func27, Tryd.ntmps27
      go_wp2
      go_ret
      refine ⟨w.heap.size, rfl, Nat.le_refl _, ⟨_, xs, 0, heap_alloc_new _ _, by omega, .inr ⟨b, off, cap, rfl, hlc, hcm, fun i x hx => ?_⟩, by omega, fun hne ad n c he => ?_⟩, (Below.refl _ _).alloc (Nat.le_refl _) _⟩
      rotate_left
      · cases he
        obtain ⟨x, r, hx⟩ := List.exists_cons_of_ne_nil hne
        have h1 := (HC.out 0 x (by rw [hx]; rfl)).1
        exact lt_cell h1
      have := HC.out i x hx
      exact ⟨(((Below.refl _ _).alloc (Nat.le_refl _) _).cell (lt_cell this.1)).trans this.1, this.2⟩
/-- the longest text of a depth, and the most picks for it -/
def LB : Nat → Nat
  | 0 => 1
  | d + 1 => 2 * LB d + 4
set_option maxHeartbeats 4000000 in
theorem l1Draw_any (a : Nat) (gr : Bool) : ∀ (d : Nat), d ≤ 3 → ∀ (q : Nat) (w : World), q + 40 * d ≤ 90000 → RD w a q → Calls Tryd.prog 76 #[.pointer (some ⟨a, 0, none⟩), .int .i64 d, .bool gr] w (SPost w a (q + LB d) 1 (LB d))
  | 0, _, q, w, hq, h => by
    have HR := hid h
    clear h
    cases gr with
    | true =>
      go_enter Tryd.func76, Tryd.ntmps76
      go_wp2_with fail
      refine (ofS_any a (q) w.heap.size 4 1 1 _ _ (by omega) (by decide) (by decide) rfl (heap_alloc_new w _) (by decide) (HR.out.below ((Below.refl _ _).alloc (Nat.le_refl _) _))).mono ?_
      rintro e w9 ⟨s, rfl, h1, h2, hr9, hg9⟩
      go_wp2
      go_ret
      exact ⟨s, rfl, h1, h2, hr9, grown_trans (gb0 ((Below.refl _ _).alloc (Nat.le_refl _) _) _) hg9⟩
    | false =>
      go_enter Tryd.func76, Tryd.ntmps76
      go_wp2_with fail
      refine (ofS_any a (q) w.heap.size 7 1 1 _ _ (by omega) (by decide) (by decide) rfl (heap_alloc_new w _) (by decide) (HR.out.below ((Below.refl _ _).alloc (Nat.le_refl _) _))).mono ?_
      rintro e w9 ⟨s, rfl, h1, h2, hr9, hg9⟩
      go_wp2
      go_ret
      exact ⟨s, rfl, h1, h2, hr9, grown_trans (gb0 ((Below.refl _ _).alloc (Nat.le_refl _) _) _) hg9⟩
  | d + 1, hd, q, w, hq, h => by
    have HR := hid h
    have IH := hid (l1Draw_any a gr d (by omega))
    have hb : LB d ≤ 16 := by
      rcases (by omega : d = 0 ∨ d = 1 ∨ d = 2) with rfl | rfl | rfl <;> decide
    have HLB : Hid (LB (d + 1) = 2 * LB d + 4) := rfl
    have hb1 : 1 ≤ LB d := by
      rcases (by omega : d = 0 ∨ d = 1 ∨ d = 2) with rfl | rfl | rfl <;> decide
    obtain ⟨L, hL⟩ : ∃ L, L = LB d := ⟨_, rfl⟩
    rw [← hL] at HLB IH hb hb1
    obtain ⟨M, hM⟩ : ∃ M, M = LB (d + 1) := ⟨_, rfl⟩
    rw [← hM] at HLB ⊢
    obtain ⟨D, hD⟩ : ∃ D, D = d + 1 := ⟨_, rfl⟩
    rw [← hD]
    have hD0 : ((D : Int) == 0) = false := by rw [beq_eq_false_iff_ne]; omega
    have hDs : (D : Int) - 1 = (d : Int) := by omega
    have hD3 : D ≤ 3 := by omega
    have HDs := hid hDs
    clear h hL hM hD hDs
    go_enter Tryd.func76, Tryd.ntmps76
    go_wp2_with fail
    refine (pick_any a q 3 w (by decide) (by decide) (by omega) HR.out).mono ?_
    rintro e w1 ⟨i, hi, rfl, hr, hgr⟩
    have HR1 := hid hr
    have HG1 := hid hgr
    clear hr hgr
    by_cases hi0 : i = 0
    · subst hi0
      cases gr with
      | true =>
        go_wp2_with fail
        refine (ofS_any a (q + 1) w1.heap.size 4 1 1 _ _ (by omega) (by decide) (by decide) rfl (heap_alloc_new w1 _) (by decide) (HR1.out.below ((Below.refl _ _).alloc (Nat.le_refl _) _))).mono ?_
        rintro e w9 ⟨s, rfl, h1, h2, hr9, hg9⟩
        go_wp2
        go_ret
        exact ⟨s, rfl, h1, by have := HLB.out; omega, hr9.mono (by have := HLB.out; omega), grown_trans HG1.out (grown_trans (gb0 ((Below.refl _ _).alloc (Nat.le_refl _) _) _) hg9)⟩
      | false =>
        go_wp2_with fail
        refine (ofS_any a (q + 1) w1.heap.size 7 1 1 _ _ (by omega) (by decide) (by decide) rfl (heap_alloc_new w1 _) (by decide) (HR1.out.below ((Below.refl _ _).alloc (Nat.le_refl _) _))).mono ?_
        rintro e w9 ⟨s, rfl, h1, h2, hr9, hg9⟩
        go_wp2
        go_ret
        exact ⟨s, rfl, h1, by have := HLB.out; omega, hr9.mono (by have := HLB.out; omega), grown_trans HG1.out (grown_trans (gb0 ((Below.refl _ _).alloc (Nat.le_refl _) _) _) hg9)⟩
    · have hi1 : ((i : Int) == 0) = false := by rw [beq_eq_false_iff_ne]; omega
      go_wp2_with fail
      refine (pick_any a (q + 1) 4 w1 (by decide) (by decide) (by omega) HR1.out).mono ?_
      rintro e w2 ⟨j, hj, rfl, hr, hgr⟩
      have HR2 := hid hr
      have HG2 := hid (grown_trans HG1.out hgr)
      clear hr hgr
      by_cases hj0 : j = 0
      · subst hj0
        go_wp2_with fail
        refine (show Calls Tryd.prog _ #[_, .int .i64 ((D : Int) - 1), _] w2 _ from by rw [HDs.out]; exact IH.out (q + 1 + 1) w2 (by omega) HR2.out).mono ?_
        rintro e w3 ⟨s, rfl, h1, h2, hr, hgr⟩
        have HR3 := hid hr
        have HG3 := hid (grown_trans HG2.out hgr)
        clear hr hgr
        go_wp2_with fail
        refine (show Calls Tryd.prog _ #[_, .int .i64 ((D : Int) - 1), _] w3 _ from by rw [HDs.out]; exact IH.out (q + 1 + 1 + L) w3 (by omega) HR3.out).mono ?_
        rintro e w4 ⟨s', rfl, h3, h4, hr, hgr⟩
        have HR4 := hid hr
        have HG4 := hid (grown_trans HG3.out hgr)
        clear hr hgr
        go_wp2
        go_ret
        exact ⟨_, rfl, by (first | omega | (simp [ByteArray.size_append, bsz]; done) | (simp [ByteArray.size_append, bsz]; omega)), by have := HLB.out; simp [ByteArray.size_append, bsz]; omega, HR4.out.mono (by have := HLB.out; omega), HG4.out⟩
      · have hj1 : ((j : Int) == 0) = false := by rw [beq_eq_false_iff_ne]; omega
        by_cases hj2 : j = 1
        · subst hj2
          go_wp2_with fail
          refine (show Calls Tryd.prog _ #[_, .int .i64 ((D : Int) - 1), _] w2 _ from by rw [HDs.out]; exact IH.out (q + 1 + 1) w2 (by omega) HR2.out).mono ?_
          rintro e w3 ⟨s, rfl, h1, h2, hr, hgr⟩
          have HR3 := hid hr
          have HG3 := hid (grown_trans HG2.out hgr)
          clear hr hgr
          go_wp2
          go_ret
          exact ⟨_, rfl, by (first | omega | (simp [ByteArray.size_append, bsz]; done) | (simp [ByteArray.size_append, bsz]; omega)), by have := HLB.out; simp [ByteArray.size_append, bsz]; omega, HR3.out.mono (by have := HLB.out; omega), HG3.out⟩
        · have hj3 : ((j : Int) == 1) = false := by rw [beq_eq_false_iff_ne]; omega
          go_wp2_with fail
          refine (show Calls Tryd.prog _ #[_, .int .i64 ((D : Int) - 1), _] w2 _ from by rw [HDs.out]; exact IH.out (q + 1 + 1) w2 (by omega) HR2.out).mono ?_
          rintro e w3 ⟨s, rfl, h1, h2, hr, hgr⟩
          have HR3 := hid hr
          have HG3 := hid (grown_trans HG2.out hgr)
          clear hr hgr
          go_wp2
          go_ret
          exact ⟨_, rfl, by (first | omega | (simp [ByteArray.size_append, bsz]; done) | (simp [ByteArray.size_append, bsz]; omega)), by have := HLB.out; simp [ByteArray.size_append, bsz]; omega, HR3.out.mono (by have := HLB.out; omega), HG3.out⟩
set_option maxHeartbeats 8000000 in
theorem l1Any_any (a q : Nat) (w : World) (hq : q ≤ 80000) (h : RD w a q) : Calls Tryd.prog 58 #[.pointer (some ⟨a, 0, none⟩)] w (SPost w a (q + 60) 0 40) := by
  have HR := hid h
  clear h
  go_enter Tryd.func58, Tryd.ntmps58
  go_wp2_with fail
  refine (pick_any a q 4 w (by decide) (by decide) (by omega) HR.out).mono ?_
  rintro e w1 ⟨i, hi, rfl, hr, hgr⟩
  have HR1 := hid hr
  have HG1 := hid hgr
  clear hr hgr
  go_wp2_with fail
  refine (pick_any a (q + 1) 2 w1 (by decide) (by decide) (by omega) HR1.out).mono ?_
  rintro e w2 ⟨j, hj, rfl, hr, hgr⟩
  have HR2 := hid hr
  have HG2 := hid (grown_trans HG1.out hgr)
  clear hr hgr
  obtain ⟨gr, hgr⟩ : ∃ b, b = ((j : Int) == 0) := ⟨_, rfl⟩
  go_wp2_with fail
  rw [← hgr]
  refine (l1Draw_any a gr i (by omega) (q + 1 + 1) w2 (by omega) HR2.out).mono ?_
  rintro e w3 ⟨s, rfl, h1, h2, hr, hgr⟩
  have hb : LB i ≤ 36 := by
    rcases (by omega : i = 0 ∨ i = 1 ∨ i = 2 ∨ i = 3) with rfl | rfl | rfl | rfl <;> decide
  have HR3 : Hid (RD w3 a (q + 38)) := hr.mono (by omega)
  have HG3 := hid (grown_trans HG2.out hgr)
  clear hr hgr
  have hs36 : s.size ≤ 36 := by omega
  clear h2 hb
  go_wp2_with fail
  refine (pick_any a (q + 38) 16 w3 (by decide) (by decide) (by omega) HR3.out).mono ?_
  rintro e w4 ⟨k, hk, rfl, hr, hgr⟩
  have HR4 := hid hr
  have HG4 := hid (grown_trans HG3.out hgr)
  clear hr hgr
  by_cases hk0 : 0 < k
  · have hk1 : (k : Int) > 0 := by omega
    go_wp2
    go_ret
    exact ⟨s, rfl, by omega, by omega, HR4.out.mono (by omega), HG4.out⟩
  · have hk1 : ¬ (k : Int) > 0 := by omega
    go_wp2_with fail
    refine (pick_any a (q + 38 + 1) s.size w4 h1 (by omega) (by omega) HR4.out).mono ?_
    rintro e w5 ⟨m, hm, rfl, hr, hgr⟩
    have HR5 := hid hr
    have HG5 := hid (grown_trans HG4.out hgr)
    clear hr hgr
    go_wp2_with fail
    have hw5 : Below w5.heap.size w5 w5.drew := (Below.refl _ _).drew
    have HR6 := hid (HR5.out.below hw5)
    have HG6 := hid (grown_trans HG5.out (gb0 hw5 _))
    clear hw5
    have hms : (m : Int) ≤ s.size := by omega
    refine wp_region_any (by kernel_rfl) ?_
    change wpAny _ _ _ _ _ _ _ (World.drew _)
    have SX : True := trivial
    refine wpAny_of_T (S := fun X => True) (m := 15) _ _ _ _ ?_
    generalize w5.drew = w6 at *
    refine wpAnyT_take (i := 0) (v := .string s) rfl (by kernel_rfl) (by kernel_rfl) (by kernel_rfl) (by kernel_rfl) (fun _ _ _ h => h) (Or.inl ⟨by kernel_rfl, fun X hS => by clear hS; go_simp⟩) trivial ?_
    try go_simp
    refine wpAnyT_take (i := 1) (v := .int .i64 m) rfl (by kernel_rfl) (by kernel_rfl) (by kernel_rfl) (by kernel_rfl) (fun _ _ _ h => h) (Or.inl ⟨by kernel_rfl, fun X hS => by clear hS; go_simp⟩) trivial ?_
    try go_simp
    refine wpAnyT_take (i := 2) (v := .string (s.extract 0 m)) rfl (by kernel_rfl) (by kernel_rfl) (by kernel_rfl) (by kernel_rfl) (fun _ _ _ h => h) (Or.inl ⟨by kernel_rfl, fun X hS => by clear hS; go_simp⟩) trivial ?_
    try go_simp
    refine wpAnyT_take (i := 3) (v := .pointer (some ⟨a, 0, none⟩)) rfl (by kernel_rfl) (by kernel_rfl) (by kernel_rfl) (by kernel_rfl) (fun _ _ _ h => h) (Or.inl ⟨by kernel_rfl, fun X hS => by clear hS; go_simp⟩) trivial ?_
    try go_simp
    refine wpAnyT_take (i := 7) (v := .string s) rfl (by kernel_rfl) (by kernel_rfl) (by kernel_rfl) (by kernel_rfl) (fun _ _ _ h => h) (Or.inl ⟨by kernel_rfl, fun X hS => by clear hS; go_simp⟩) trivial ?_
    try go_simp
    refine wpAnyT_take (i := 8) (v := .int .i64 m) rfl (by kernel_rfl) (by kernel_rfl) (by kernel_rfl) (by kernel_rfl) (fun _ _ _ h => h) (Or.inl ⟨by kernel_rfl, fun X hS => by clear hS; go_simp⟩) trivial ?_
    try go_simp
    refine wpAnyT_take (i := 9) (v := .pointer (some ⟨a, 0, none⟩)) rfl (by kernel_rfl) (by kernel_rfl) (by kernel_rfl) (by kernel_rfl) (fun _ _ _ h => h) (Or.inl ⟨by kernel_rfl, fun X hS => by clear hS; go_simp⟩) trivial ?_
    try go_simp
    refine wpAnyT_one 4 rfl (by kernel_rfl) (fun K hK => ?_)
    go_simp
    refine hK _ _ (fun _ => trivial) ?_
    clear hK K
    refine wpAnyT_one 5 rfl (by kernel_rfl) (fun K hK => ?_)
    go_simp
    refine (ofS_any a (q + 40) w6.heap.size 7 0 1 _ _ (by omega) (by decide) (by decide) rfl (heap_alloc_new w6 _) (by decide) ((HR6.out.below ((Below.refl _ _).alloc (Nat.le_refl _) _)).mono (by omega))).mono ?_
    rintro e w7 ⟨u, rfl, hu1, hu2, hr, hgr⟩
    have HR7 := hid hr
    have HG7 := hid (grown_trans HG6.out (grown_trans (gb0 ((Below.refl _ _).alloc (Nat.le_refl _) _) _) hgr))
    clear hr hgr
    refine hK _ _ (fun _ => trivial) ?_
    clear hK K
    refine wpAnyT_take (i := 6) (v := .string (s.extract 0 m ++ u)) rfl (by kernel_rfl) (by kernel_rfl) (by kernel_rfl) (by kernel_rfl) (fun _ _ _ h => h) (Or.inl ⟨by kernel_rfl, fun X hS => by clear hS; go_simp; omega⟩) trivial ?_
    try go_simp
    refine wpAnyT_one 10 rfl (by kernel_rfl) (fun K hK => ?_)
    go_simp
    refine (pick_any a (q + 40 + 1) 2 w7 (by decide) (by decide) (by omega) HR7.out).mono ?_
    rintro e w8 ⟨o, ho, rfl, hr, hgr⟩
    have HR8 := hid hr
    have HG8 := hid (grown_trans HG7.out hgr)
    clear hr hgr
    have hmo : (m : Int) + o ≤ s.size := by omega
    refine hK _ _ (fun _ => trivial) ?_
    clear hK K
    have hmo2 : m + o ≤ s.size := by omega
    have hmo3 : 0 ≤ (m : Int) + (o : Int) := by omega
    refine wpAnyT_take (i := 11) (v := .int .i64 ((m : Int) + (o : Int))) rfl (by kernel_rfl) (by kernel_rfl) (by kernel_rfl) (by kernel_rfl) (fun _ _ _ h => h) (Or.inl ⟨by kernel_rfl, fun X hS => by clear hS; go_simp; rw [IntKind.wrap_i64]; omega⟩) trivial ?_
    try go_simp
    refine wpAnyT_take (i := 12) (v := .string (s.extract ((m : Int) + (o : Int)).toNat s.size)) rfl (by kernel_rfl) (by kernel_rfl) (by kernel_rfl) (by kernel_rfl) (fun _ _ _ h => h) (Or.inl ⟨by kernel_rfl, fun X hS => by clear hS; go_simp⟩) trivial ?_
    try go_simp
    refine wpAnyT_take (i := 13) (v := .string (s.extract 0 m ++ u ++ s.extract ((m : Int) + (o : Int)).toNat s.size)) rfl (by kernel_rfl) (by kernel_rfl) (by kernel_rfl) (by kernel_rfl) (fun _ _ _ h => h) (Or.inl ⟨by kernel_rfl, fun X hS => by clear hS; go_simp; omega⟩) trivial ?_
    try go_simp
    refine wpAnyT_take (i := 14) (v := .string (s.extract 0 m ++ u ++ s.extract ((m : Int) + (o : Int)).toNat s.size)) rfl (by kernel_rfl) (by kernel_rfl) (by kernel_rfl) (by kernel_rfl) (fun _ _ _ h => h) (Or.inl ⟨by kernel_rfl, fun X hS => by clear hS; go_simp⟩) trivial ?_
    try go_simp
    refine wpAnyT_drop _ 15 _ _ _ (by decide) (by kernel_rfl) ?_
    change wpList _ _ _ [] _ _
    go_wp2
    go_ret
    exact ⟨_, rfl, by omega, by simp [ByteArray.size_append, ByteArray.size_extract]; omega, HR8.out.mono (by omega), HG8.out⟩
end Draw
end Go.Proofs.YtbdnhcfebgkpdaaDoor
set_option linter.unusedVariables false
set_option linter.unusedSimpArgs false
set_option maxRecDepth 100000
namespace Go.Proofs.YtbdnhcfebgkpdaaDoor
open Go.RowKit
namespace Draw
def TPost (w : World) (lo hi : Nat) (e : Ending) (w' : World) : Prop := ∃ s : ByteArray, e = .returned (.string s) ∧ lo ≤ s.size ∧ s.size ≤ hi ∧ Below w.heap.size w w'
theorem slice_one (l : List UInt8) (k : Nat) (c : UInt8) (h : l[k]? = some c) : (ByteArray.mk l.toArray).extract k (k + 1) = ⟨#[c]⟩ := by
  obtain ⟨hlt, rfl⟩ := List.getElem?_eq_some_iff.1 h
  apply ByteArray.ext
  simp [ByteArray.data_extract]
  rw [List.drop_eq_getElem_cons hlt]
  rfl
/-- the text of one letter of a text -/
theorem run_one (l : List UInt8) (k : Nat) (c : UInt8) (h : l[k]? = some c) (x : World) : (Instr.slice 9 (.string ⟨l.toArray⟩) (some (.int .i64 (k : Int))) (some (.int .i64 ((k : Int) + 1))) none).run Tryd.prog x = .ok (.string ⟨#[c]⟩) x := by
  have hlt := (List.getElem?_eq_some_iff.1 h).1
  have hsz : (ByteArray.mk l.toArray).size = l.length := by simp [ByteArray.size]
  rw [run_slice_string x 9 ⟨l.toArray⟩ .i64 .i64 (k : Int) ((k : Int) + 1) Tryd.underlying9 (by omega) (by omega) (by rw [hsz]; omega)]
  rw [show ((k : Int)).toNat = k by omega, show ((k : Int) + 1).toNat = k + 1 by omega, slice_one l k c h]
end Draw
end Go.Proofs.YtbdnhcfebgkpdaaDoor
set_option linter.unusedVariables false
set_option linter.unusedSimpArgs false
set_option maxRecDepth 100000
namespace Go.Proofs.YtbdnhcfebgkpdaaDoor
open Go.RowKit ListS
namespace Draw
def okN (hi : Nat) (cs : List Value) : Bool := cs.all fun v => match v with | .int .i64 x => decide (0 ≤ x) && decide (x ≤ hi) | _ => false
theorem okN_mem {hi : Nat} {cs : List Value} (h : okN hi cs = true) {u : Value} (hu : u ∈ cs) : ∃ k : Nat, u = .int .i64 k ∧ k ≤ hi := by
  have h1 := List.all_eq_true.1 h u hu
  split at h1
  · rename_i x
    simp only [Bool.and_eq_true, decide_eq_true_eq] at h1
    exact ⟨x.toNat, by rw [Int.toNat_of_nonneg h1.1], by omega⟩
  · simp at h1
theorem num_any (a q g n hi : Nat) (cs : Array Value) (w : World) (hq : q ≤ 100000) (h0 : 0 < n) (hs : n ≤ 1000) (hn : cs.size = n) (hg : w.heap[g]? = some (.cells cs 3 (0, 0))) (hok : okN hi cs.toList = true) (h : RD w a q) :
    Calls Tryd.prog 53 #[.pointer (some ⟨a, 0, none⟩), .slice (some ⟨g, 0, none⟩) n n] w fun e w' => ∃ k : Nat, e = .returned (.int .i64 k) ∧ k ≤ hi ∧ RD w' a (q + 1) ∧ w.grownBy w' (some a) := by
  have HG := hid hg
  have hne : g ≠ a := by
    obtain ⟨v, xs, p, h1, -⟩ := h
    exact heap_ne hg h1 (by decide)
  have HN := hid hn
  have HOK := hid hok
  clear hg hn hok
  go_enter Tryd.func53, Tryd.ntmps53
  go_wp2_with fail
  refine (pick_any a q n w h0 (by omega) (by omega) h).mono ?_
  rintro e w1 ⟨i, hi, rfl, hr, hgr⟩
  have hk := grown_keep hgr HG.out (by simp; omega)
  have hc : w1.cell? ⟨g, i, none⟩ = some (cs[i]'(by have := HN.out; omega)) := by rw [heap_cell hk, Array.getElem?_eq_getElem (by have := HN.out; omega)]
  obtain ⟨k, hk1, hk2⟩ := okN_mem HOK.out (show (cs[i]'(by have := HN.out; omega)) ∈ cs.toList by simp)
  rw [hk1] at hc
  have HR := hid hr
  have HGR := hid hgr
  clear hk hr hgr hk1
  go_wp2
  go_ret
  exact ⟨k, rfl, hk2, HR.out, HGR.out⟩
theorem RD.row {w w' : World} {a q base size n : Nat} {e : TypeId} {v : Value} {xs : List Value} (h : RD w a q) (ho : w.ownsRow base e size v n xs) (hne : e ≠ 76) (hg : w.grownBy w' (some a)) : w'.ownsRow base e size v n xs := by
  refine row_grown hg ho fun g hg1 hg2 => ?_
  obtain rfl : a = g := by simpa using hg2
  obtain ⟨v', ys, p, h1, -⟩ := h
  rcases ho.2 with ⟨rfl, -⟩ | ⟨g', cap, cur, rfl, hb, hgg, rest⟩
  · simp [Value.ownBlock] at hg1
  · simp [Value.ownBlock] at hg1
    subst hg1
    rw [h1] at hgg
    cases hgg
    exact hne rfl
end Draw
end Go.Proofs.YtbdnhcfebgkpdaaDoor
set_option linter.unusedVariables false
set_option linter.unusedSimpArgs false
set_option maxRecDepth 100000
namespace Go.Proofs.YtbdnhcfebgkpdaaDoor
open Go.RowKit Ty SplP PInP Known Classes IV WV PWoP PWo
namespace KnP
abbrev CT := UInt8 × List UInt8
def fc (p : CT) : BB := (⟨#[p.1]⟩, ⟨p.2.toArray⟩)
def tcl (x : List UInt8) : Option CT := match x with | [c] => some (c, []) | c :: d :: e :: r => if d = 60 then some (c, e :: r) else none | _ => none
def clT : List (List UInt8) → Option (List CT)
  | [] => some []
  | x :: ps => match tcl x, clT ps with | some p, some T => some (p :: T) | _, _ => none
theorem tcl_ok {x : List UInt8} {p : CT} (h : tcl x = some p) : clsS x = fc p := by
  unfold tcl at h
  split at h
  · cases h; rfl
  · rename_i c d e r
    split at h
    · rename_i hd
      cases h
      unfold clsS fc
      simp [hd]
    · simp at h
  · simp at h
theorem clT_ok : ∀ {ps : List (List UInt8)} {T : List CT}, clT ps = some T → ps.map clsS = T.map fc
  | [], T, h => by simp [clT] at h; subst h; rfl
  | x :: ps, T, h => by
    unfold clT at h
    split at h
    · rename_i p T' h1 h2
      cases h
      simp only [List.map_cons]
      rw [tcl_ok h1, clT_ok h2]
    · simp at h
theorem clT_len : ∀ {ps : List (List UInt8)} {T : List CT}, clT ps = some T → T.length = ps.length := fun h => by
  have := congrArg List.length (clT_ok h)
  simpa using this.symm
def knT (T : List CT) (x : ByteArray) : Bool := match x.data.toList with | [c] => T.any (fun q => q.1 == c) | _ => false
theorem any_kn {T : List CT} {c : UInt8} (h : T.any (fun q => q.1 == c) = true) : knownB (T.map fc) ⟨#[c]⟩ = true := by
  rw [List.any_eq_true] at h
  obtain ⟨q, hq, he⟩ := h
  have he : q.1 = c := by simpa using he
  unfold knownB
  rw [List.any_eq_true]
  exact ⟨fc q, List.mem_map.2 ⟨q, hq, rfl⟩, by rw [decide_eq_true_eq]; unfold fc; rw [he]⟩
theorem knT_ok {T : List CT} {x : ByteArray} (h : knT T x = true) : knownB (T.map fc) x = true := by
  unfold knT at h
  split at h
  · rename_i c hc
    have : x = ⟨#[c]⟩ := by
      apply ByteArray.ext
      apply Array.ext'
      simpa using hc
    rw [this]
    exact any_kn h
  · simp at h
def okS (T : List CT) (s : List UInt8) (k : Nat) : Bool := match s[k]? with | some c => T.any (fun q => q.1 == c) && (match k with | 0 => true | j + 1 => match s[j]? with | some d => decide (d.toNat < c.toNat) | none => false) | none => false
def okC (T : List CT) (i : Nat) : Bool := match T[i]? with | some (c, s) => isCap c && ((match i with | 0 => true | j + 1 => match T[j]? with | some (d, _) => decide (d.toNat < c.toNat) | none => false) && (List.range s.length).all (okS (T.take i) s)) | none => false
def okT (T : List CT) : Bool := (List.range T.length).all (okC T) && (decide (1 ≤ T.length) && decide (T.length ≤ 4))
theorem okS_good {T : List CT} {s : List UInt8} {k : Nat} (h : okS T s k = true) : goodS (T.map fc) s k := by
  unfold okS at h
  split at h
  · rename_i c hc
    rw [Bool.and_eq_true] at h
    refine ⟨c, hc, any_kn h.1, fun j d hk hd => ?_⟩
    subst hk
    have h2 := h.2
    simp only [hd] at h2
    simpa using h2
  · simp at h
theorem okC_good {T : List CT} {i : Nat} (h : okC T i = true) : goodC (T.map fc) i := by
  unfold okC at h
  split at h
  · rename_i c s hc
    simp only [Bool.and_eq_true] at h
    obtain ⟨h1, h2, h3⟩ := h
    refine ⟨c, s, by rw [List.getElem?_map, hc]; rfl, h1, fun j hi => ?_, fun k hk => ?_⟩
    · subst hi
      simp only at h2
      split at h2
      · rename_i d z hd
        exact ⟨d, ⟨z.toArray⟩, by rw [List.getElem?_map, hd]; rfl, by simpa using h2⟩
      · simp at h2
    · rw [← List.map_take]
      exact okS_good (List.all_eq_true.1 h3 k (List.mem_range.2 hk))
  · simp at h
theorem okT_cl {T : List CT} (h : okT T = true) : clB (T.map fc) = true := by
  unfold okT at h
  simp only [Bool.and_eq_true, decide_eq_true_eq] at h
  obtain ⟨h1, h2, h3⟩ := h
  refine clB_yes (fun i hi => okC_good (List.all_eq_true.1 h1 i (List.mem_range.2 (by simpa using hi)))) (by simpa using h2) (by simpa using h3)
def ndT (T : List CT) (t : List UInt8) (p : BB) : Bool := knT T p.1 && ((ty p.2.data.toList).isSome && (decide (p.2.data.toList.length ≤ 20) && (varsI p.2.data.toList).all (fun v => t.contains v)))
def ivT (T : List CT) (p : II) : Bool := knT T p.1 && ((ty p.2.1.data.toList).isSome && (decide (p.2.1.data.toList.length ≤ 20) && (!isVarL p.2.1.data.toList && (decide (p.2.2.length ≤ 3) && p.2.2.all (ndT T p.2.1.data.toList)))))
theorem ndT_ok {T : List CT} {t : List UInt8} {p : BB} (h : ndT T t p = true) : IV.needB (T.map fc) t p = true := by
  unfold ndT at h
  rw [Bool.and_eq_true] at h
  unfold IV.needB
  rw [knT_ok h.1, h.2]
  rfl
theorem ivT_ok {T : List CT} (hT : okT T = true) {p : II} (h : ivT T p = true) : ivB (T.map fc) p = true := by
  unfold ivT at h
  simp only [Bool.and_eq_true] at h
  obtain ⟨h1, h2, h3, h4, h5, h6⟩ := h
  unfold ivB
  have h7 : p.2.2.all (IV.needB (T.map fc) p.2.1.data.toList) = true := by
    rw [List.all_eq_true] at h6 ⊢
    exact fun q hq => ndT_ok (h6 q hq)
  rw [okT_cl hT, knT_ok h1, h2, h3, h4, h5, h7]
  rfl
/-- the text spells a valid world, of small size -/
def chk (n : Nat) (l : List UInt8) : Bool := match splitC 59 l with
  | p0 :: ps => (match clT (splitC 32 p0), instsL ps with
    | some T, some is => okT T && (is.all (ivT T) && (decide (is.length ≤ 10) && (decide (tot (T.map fc) + T.length ≤ 200) && (decide (itot is + is.length ≤ 200) && decide (n ≤ is.length)))))
    | _, _ => false)
  | [] => false
def Good (n : Nat) (l : List UInt8) : Prop := ∃ cs is, rW (specW l) = (cs, is, true) ∧ 1 ≤ cs.length ∧ n ≤ is.length ∧ tot cs + cs.length ≤ 200 ∧ itot is + is.length ≤ 200 ∧ l.length ≤ 1048576
theorem chk_good {n : Nat} {l : List UInt8} (h : chk n l = true) (hl : l.length ≤ 1048576) : Good n l := by
  unfold chk at h
  split at h
  · rename_i p0 ps hs
    split at h
    · rename_i T is hT hi
      simp only [Bool.and_eq_true, decide_eq_true_eq] at h
      obtain ⟨h1, h2, h3, h4, h5, h10⟩ := h
      have h6 : is.all (ivB (T.map fc)) = true := by
        rw [List.all_eq_true] at h2 ⊢
        exact fun q hq => ivT_ok h1 (h2 q hq)
      have h7 : wvB (T.map fc) is = true := wv4 (okT_cl h1) h3 h6
      have h8 : specW l = some (T.map fc, is) := by
        unfold specW
        rw [hs]
        dsimp only
        rw [hi]
        dsimp only
        rw [clT_ok hT, if_pos h7]
      refine ⟨T.map fc, is, by rw [h8]; rfl, ?_, h10, by simpa using h4, h5, hl⟩
      have h9 := h1
      unfold okT at h9
      simp only [Bool.and_eq_true, decide_eq_true_eq] at h9
      simpa using h9.2.1
    · simp at h
  · simp at h
def okW (n : Nat) (cs : List Value) : Bool := cs.all fun v => match v with | .string s => chk n s.data.toList && decide (s.data.toList.length ≤ 1048576) | _ => false
theorem okW_mem {n : Nat} {cs : List Value} (h : okW n cs = true) {u : Value} (hu : u ∈ cs) : ∃ l : List UInt8, u = .string ⟨l.toArray⟩ ∧ Good n l := by
  have h1 := List.all_eq_true.1 h u hu
  split at h1
  · rename_i s
    simp only [Bool.and_eq_true, decide_eq_true_eq] at h1
    exact ⟨s.data.toList, rfl, chk_good h1.1 h1.2⟩
  · simp at h1
end KnP
end Go.Proofs.YtbdnhcfebgkpdaaDoor
set_option linter.unusedVariables false
set_option linter.unusedSimpArgs false
set_option maxRecDepth 100000
namespace Go.Proofs.YtbdnhcfebgkpdaaDoor
open Go.RowKit ListS IRow PWo
namespace Draw
/-- blocks below w's but a's are as they were -/
theorem grown_rowR {w w1 w2 : World} {a base size n : Nat} {e : TypeId} {v : Value} {xs : List Value} (h : w.grownBy w1 (some a)) (ho : w1.ownsRow base e size v n xs) (hb : w.heap.size ≤ base) (hg : w1.grownBy w2 v.ownBlock) : w.grownBy w2 (some a) := by
  refine ⟨hg.os.trans h.os, hg.tape.trans h.tape, hg.output.trans h.output, Nat.le_trans h.size hg.size, fun k hk hne => ?_⟩
  exact (hg.block k (Nat.lt_of_lt_of_le hk h.size) (fun e => by have := (row_own ho k e.symm).1; omega)).trans (h.block k hk hne)
theorem grown_setR {w w1 : World} {a k : Nat} (h : w.grownBy w1 (some a)) (hk : w.heap.size ≤ k) (o : Nat) (u : Value) : w.grownBy (w1.setCell ⟨k, o, none⟩ u) (some a) := by
  refine ⟨h.os, h.tape, h.output, by simp; exact h.size, fun j hj hne => ?_⟩
  exact (Below.heap_setCell _ _ _ _ (by show j ≠ k; omega)).trans (h.block j hj hne)
theorem RD.box {w w' : World} {a q k : Nat} {cs : Array Value} {e : TypeId} {fr : Nat × Nat} (h : RD w a q) (hk : w.heap[k]? = some (.cells cs e fr)) (he : e ≠ 76) (hg : w.grownBy w' (some a)) : w'.heap[k]? = some (.cells cs e fr) := by
  refine grown_keep hg hk fun e' => ?_
  have e2 : k = a := by simpa using e'
  subst e2
  obtain ⟨v, ys, p, h1, -⟩ := h
  rw [h1] at hk
  cases hk
  exact he rfl
theorem RD.ir {w w' : World} {a q b : Nat} {u : Value} {is : List II} (h : RD w a q) (hi : IR w b u is) (hg : w.grownBy w' (some a)) : IR w' b u is := by
  obtain ⟨vs, h1, h2, h3, h4⟩ := hi
  exact ⟨vs, h.row h1 (by decide) hg, h2, fun i p u hp hu => h.row (h3 i p u hp hu) (by decide) hg, h4⟩
theorem RD.set {w : World} {a q k : Nat} {cs : Array Value} {e : TypeId} {fr : Nat × Nat} (h : RD w a q) (hk : w.heap[k]? = some (.cells cs e fr)) (he : e ≠ 76) (he2 : a < k) (o : Nat) (u : Value) : RD (w.setCell ⟨k, o, none⟩ u) a q :=
  h.grown (grown_set _ _ _ _) (fun g hg => by cases hg; exact he2)
theorem name_size {cs : List BB} {n k : Nat} {p : BB} (h : tot cs + cs.length ≤ n) (hp : cs[k]? = some p) : p.1.size ≤ n := by
  have := tot_at cs k p hp
  omega
theorem row_some {w : World} {b n c size : Nat} {e : TypeId} {a : Option Addr} {xs : List Value} (h : w.ownsRow b e size (.slice a n c) n xs) (hn : 1 ≤ n) : ∃ g, a = some ⟨g, 0, none⟩ := by
  rcases h.2 with ⟨h9, h8⟩ | ⟨g, c', cur, h9, -⟩
  · omega
  · cases h9; exact ⟨g, rfl⟩
theorem pick_z {α : Type} {x : α} {l : List α} {k : Nat} (h : l[k]? = some x) : k < l.length := (List.getElem?_eq_some_iff.1 h).1
theorem run_oneW (l : List UInt8) (k : Nat) (c : UInt8) (h : l[k]? = some c) (x : World) : (Instr.slice 9 (.string ⟨l.toArray⟩) (some (.int .i64 (k : Int))) (some (.int .i64 ((k : Int) + 1))) none).run Tryd.prog x = .ok (.string ⟨#[c]⟩) x := by
  have hlt := (List.getElem?_eq_some_iff.1 h).1
  have hsz : (ByteArray.mk l.toArray).size = l.length := by simp [ByteArray.size]
  have h1 : (ByteArray.mk l.toArray).extract k (k + 1) = ⟨#[c]⟩ := by
    obtain ⟨hlt, rfl⟩ := List.getElem?_eq_some_iff.1 h
    apply ByteArray.ext
    simp [ByteArray.data_extract]
    rw [List.drop_eq_getElem_cons hlt]
    rfl
  rw [run_slice_string x 9 ⟨l.toArray⟩ .i64 .i64 (k : Int) ((k : Int) + 1) Tryd.underlying9 (by omega) (by omega) (by rw [hsz]; omega)]
  rw [show ((k : Int)).toNat = k by omega, show ((k : Int) + 1).toNat = k + 1 by omega, h1]
theorem row_boxR {w w' : World} {k base size n : Nat} {e e' : TypeId} {v : Value} {xs : List Value} {cs : Array Value} {fr : Nat × Nat} (hk : w.heap[k]? = some (.cells cs e fr)) (ho : w.ownsRow base e' size v n xs) (hne : e' ≠ e) (hg : w.grownBy w' (some k)) : w'.ownsRow base e' size v n xs := by
  refine row_grown hg ho fun g hg1 hg2 => ?_
  have e1 : k = g := by simpa using hg2
  subst e1
  rcases ho.2 with ⟨rfl, -⟩ | ⟨g', cap, cur, rfl, hb, hgg, rest⟩
  · simp [Value.ownBlock] at hg1
  · simp [Value.ownBlock] at hg1
    subst hg1
    rw [hk] at hgg
    cases hgg
    exact hne rfl
theorem ir_boxR {w w' : World} {k b : Nat} {e : TypeId} {u : Value} {is : List II} {cs : Array Value} {fr : Nat × Nat} (hk : w.heap[k]? = some (.cells cs e fr)) (hi : IR w b u is) (h1 : 28 ≠ e) (h2 : 25 ≠ e) (hg : w.grownBy w' (some k)) : IR w' b u is := by
  obtain ⟨vs, a1, a2, a3, a4⟩ := hi
  exact ⟨vs, row_boxR hk a1 h1 hg, a2, fun i p u hp hu => row_boxR hk (a3 i p u hp hu) h2 hg, a4⟩
theorem grown_boxR {w w1 w2 : World} {a k : Nat} (h : w.grownBy w1 (some a)) (hg : w1.grownBy w2 (some k)) (hk : w.heap.size ≤ k) : w.grownBy w2 (some a) := by
  refine ⟨hg.os.trans h.os, hg.tape.trans h.tape, hg.output.trans h.output, Nat.le_trans h.size hg.size, fun j hj hne => ?_⟩
  exact (hg.block j (Nat.lt_of_lt_of_le hj h.size) (fun e => by
    have : j = k := by simpa using e
    omega)).trans (h.block j hj hne)
theorem heap_boxR {w w' : World} {k j : Nat} {o : Obj} (hj : w.heap[j]? = some o) (hg : w.grownBy w' (some k)) (hne : j ≠ k) : w'.heap[j]? = some o := grown_keep hg hj (by simpa using hne)
theorem ownsRow_built {base size : Nat} {e : TypeId} (w : World) (cur : Array Value) (n : Nat) (hb : base ≤ w.heap.size) (hm : n ≤ maxLen) (hs : cur.size = n * size) :
    (w.alloc (.cells cur e)).ownsRow base e size (.slice (some ⟨w.heap.size, 0, none⟩) n n) n cur.toList :=
  ⟨by rw [Array.length_toList]; exact hs, .inr ⟨w.heap.size, n, cur, rfl, hb, heap_alloc_new w _, Nat.le_refl _, hm, hs, by rw [← hs, ← Array.length_toList]; exact List.take_length⟩⟩
theorem set3_boxR (w : World) (k : Nat) (x y z : Value) : w.grownBy (((w.setCell ⟨k, 0, none⟩ x).setCell ⟨k, 1, none⟩ y).setCell ⟨k, 2, none⟩ z) (some k) := grown_trans (grown_trans (grown_set _ _ _ _) (grown_set _ _ _ _)) (grown_set _ _ _ _)
theorem set2_boxR (w : World) (k : Nat) (x y : Value) : w.grownBy ((w.setCell ⟨k, 0, none⟩ x).setCell ⟨k, 1, none⟩ y) (some k) := grown_trans (grown_set _ _ _ _) (grown_set _ _ _ _)
set_option maxHeartbeats 8000000 in
theorem l3DrawNeed_any (a q b vc un uc : Nat) (va ua : Option Addr) (cs : List BB) (s : List UInt8) (w : World) (hq : q ≤ 60000) (hcs : 1 ≤ cs.length) (hct : tot cs + cs.length ≤ 200) (hsl : s.length ≤ 200) (h : RD w a q) (ho : w.ownsRow b 69 2 (.slice va cs.length vc) cs.length (flat cs)) :
    Calls Tryd.prog 55 #[.pointer (some ⟨a, 0, none⟩), .agg #[.slice va cs.length vc, .slice ua un uc], .string ⟨s.toArray⟩] w fun e w' => ∃ x y : ByteArray, e = .returned (.agg #[.string x, .string y]) ∧ x.size ≤ 200 ∧ y.size ≤ 40 ∧ RD w' a (q + 40) ∧ w.grownBy w' (some a) := by
  obtain ⟨g, rfl⟩ := row_some ho hcs
  have HO := hid ho
  have HR := hid h
  have hal := h.lt
  have HCT := hid hct
  have hcl : cs.length ≤ 200 := by omega
  clear ho h hct
  go_enter Tryd.func55, Tryd.ntmps55
  have HX : Hid ((((w.alloc (.cells #[.slice (some ⟨g, 0, none⟩) cs.length vc, .slice ua un uc] 42)).alloc (.cells #[.string ⟨#[]⟩, .string ⟨#[]⟩] 25))).heap[w.heap.size]? = some (.cells #[.slice (some ⟨g, 0, none⟩) cs.length vc, .slice ua un uc] 42 (0, 0))) := hb_alloc (heap_alloc_new _ _) _
  have HN : Hid ((((w.alloc (.cells #[.slice (some ⟨g, 0, none⟩) cs.length vc, .slice ua un uc] 42)).alloc (.cells #[.string ⟨#[]⟩, .string ⟨#[]⟩] 25))).heap[w.heap.size + 1]? = some (.cells #[.string ⟨#[]⟩, .string ⟨#[]⟩] 25 (0, 0))) := heap_alloc2_new _ _ _
  have hbl : Below w.heap.size w ((w.alloc (.cells #[.slice (some ⟨g, 0, none⟩) cs.length vc, .slice ua un uc] 42)).alloc (.cells #[.string ⟨#[]⟩, .string ⟨#[]⟩] 25)) := ((Below.refl _ _).alloc (Nat.le_refl _) _).alloc (by simp) _
  have HR0 : Hid (RD ((w.alloc (.cells #[.slice (some ⟨g, 0, none⟩) cs.length vc, .slice ua un uc] 42)).alloc (.cells #[.string ⟨#[]⟩, .string ⟨#[]⟩] 25)) a q) := HR.out.below hbl
  have HO0 : Hid (((w.alloc (.cells #[.slice (some ⟨g, 0, none⟩) cs.length vc, .slice ua un uc] 42)).alloc (.cells #[.string ⟨#[]⟩, .string ⟨#[]⟩] 25)).ownsRow b 69 2 (.slice (some ⟨g, 0, none⟩) cs.length vc) cs.length (flat cs)) := row_below hbl HO.out
  have HG0 : Hid (w.grownBy ((w.alloc (.cells #[.slice (some ⟨g, 0, none⟩) cs.length vc, .slice ua un uc] 42)).alloc (.cells #[.string ⟨#[]⟩, .string ⟨#[]⟩] 25)) (some a)) := gb0 hbl _
  clear hbl HR HO
  go_wp2_with fail
  generalize ((w.alloc (.cells #[.slice (some ⟨g, 0, none⟩) cs.length vc, .slice ua un uc] 42)).alloc (.cells #[.string ⟨#[]⟩, .string ⟨#[]⟩] 25)) = w0 at *
  have hw0 : Below w0.heap.size w0 w0.drew := (Below.refl _ _).drew
  have HX1 := hid (below_heap hw0 (lt_of_heap HX.out) HX.out)
  have HN1 := hid (below_heap hw0 (lt_of_heap HN.out) HN.out)
  have HR1 := hid (HR0.out.below hw0)
  have HO1 := hid (row_below hw0 HO0.out)
  have HG1 := hid (grown_trans HG0.out (gb0 hw0 _))
  clear hw0 HX HN HR0 HO0 HG0
  refine wp_region_any (by kernel_rfl) ?_
  change wpAny _ _ _ _ _ _ _ (World.drew _)
  have SX : w0.drew.cell? ⟨w.heap.size, 0, none⟩ = some (.slice (some ⟨g, 0, none⟩) cs.length vc) ∧ w0.drew.ownsRow b 69 2 (.slice (some ⟨g, 0, none⟩) cs.length vc) cs.length (flat cs) := ⟨heap_cell HX1.out 0, HO1.out⟩
  refine wpAny_of_T (S := fun X => X.cell? ⟨w.heap.size, 0, none⟩ = some (.slice (some ⟨g, 0, none⟩) cs.length vc) ∧ X.ownsRow b 69 2 (.slice (some ⟨g, 0, none⟩) cs.length vc) cs.length (flat cs)) (m := 11) _ _ _ _ ?_
  generalize w0.drew = w1 at *
  refine wpAnyT_take (i := 0) (v := .pointer (some ⟨w.heap.size, 0, none⟩)) rfl (by kernel_rfl) (by kernel_rfl) (by kernel_rfl) (by kernel_rfl) (fun _ _ _ h => h) (Or.inl ⟨by kernel_rfl, fun X hS => by obtain ⟨e0, e1⟩ := hS; go_simp⟩) SX ?_
  try go_simp
  refine wpAnyT_take (i := 1) (v := .slice (some ⟨g, 0, none⟩) cs.length vc) rfl (by kernel_rfl) (by kernel_rfl) (by kernel_rfl) (by kernel_rfl) (fun _ _ _ h => h) (Or.inl ⟨by kernel_rfl, fun X hS => by obtain ⟨e0, e1⟩ := hS; go_simp⟩) SX ?_
  try go_simp
  refine wpAnyT_take (i := 2) (v := .pointer (some ⟨a, 0, none⟩)) rfl (by kernel_rfl) (by kernel_rfl) (by kernel_rfl) (by kernel_rfl) (fun _ _ _ h => h) (Or.inl ⟨by kernel_rfl, fun X hS => by obtain ⟨e0, e1⟩ := hS; go_simp⟩) SX ?_
  try go_simp
  refine wpAnyT_take (i := 3) (v := .pointer (some ⟨w.heap.size, 0, none⟩)) rfl (by kernel_rfl) (by kernel_rfl) (by kernel_rfl) (by kernel_rfl) (fun _ _ _ h => h) (Or.inl ⟨by kernel_rfl, fun X hS => by obtain ⟨e0, e1⟩ := hS; go_simp⟩) SX ?_
  try go_simp
  refine wpAnyT_take (i := 4) (v := .slice (some ⟨g, 0, none⟩) cs.length vc) rfl (by kernel_rfl) (by kernel_rfl) (by kernel_rfl) (by kernel_rfl) (fun _ _ _ h => h) (Or.inl ⟨by kernel_rfl, fun X hS => by obtain ⟨e0, e1⟩ := hS; go_simp⟩) SX ?_
  try go_simp
  refine wpAnyT_take (i := 5) (v := .int .i64 cs.length) rfl (by kernel_rfl) (by kernel_rfl) (by kernel_rfl) (by kernel_rfl) (fun _ _ _ h => h) (Or.inl ⟨by kernel_rfl, fun X hS => by obtain ⟨e0, e1⟩ := hS; go_simp⟩) SX ?_
  try go_simp
  clear SX
  refine wpAnyT_one 6 rfl (by kernel_rfl) (fun K hK => ?_)
  go_simp
  refine (pick_any a q cs.length w1 hcs (by omega) (by omega) HR1.out).mono ?_
  rintro e w2 ⟨k, hk, rfl, hr, hgr⟩
  have HR2 := hid hr
  have HX2 := hid (HR1.out.box HX1.out (by decide) hgr)
  have HN2 := hid (HR1.out.box HN1.out (by decide) hgr)
  have HO2 := hid (HR1.out.row HO1.out (by decide) hgr)
  have HG2 := hid (grown_trans HG1.out hgr)
  clear hr hgr HR1 HX1 HN1 HO1 HG1
  obtain ⟨⟨nm, sp⟩, hp⟩ : ∃ p, cs[k]? = some p := ⟨_, List.getElem?_eq_getElem hk⟩
  have hnm : nm.size ≤ 200 := name_size HCT.out hp
  have HF := hid (flat_get cs k _ hp).1
  clear hp
  have SX : w2.cell? ⟨w.heap.size, 0, none⟩ = some (.slice (some ⟨g, 0, none⟩) cs.length vc) ∧ w2.ownsRow b 69 2 (.slice (some ⟨g, 0, none⟩) cs.length vc) cs.length (flat cs) := ⟨heap_cell HX2.out 0, HO2.out⟩
  refine hK _ _ (fun _ => SX) ?_
  clear hK K
  refine wpAnyT_take (i := 7) (v := .pointer (some ⟨g, k * 2, none⟩)) rfl (by kernel_rfl) (by kernel_rfl) (by kernel_rfl) (by kernel_rfl) (fun _ _ _ h => h) (Or.inl ⟨by kernel_rfl, fun X hS => by obtain ⟨e0, e1⟩ := hS; go_simp⟩) SX ?_
  try go_simp
  refine wpAnyT_take (i := 8) (v := .pointer (some ⟨g, k * 2, none⟩)) rfl (by kernel_rfl) (by kernel_rfl) (by kernel_rfl) (by kernel_rfl) (fun _ _ _ h => h) (Or.inl ⟨by kernel_rfl, fun X hS => by obtain ⟨e0, e1⟩ := hS; go_simp⟩) SX ?_
  try go_simp
  refine wpAnyT_take (i := 9) (v := .string nm) rfl (by kernel_rfl) (by kernel_rfl) (by kernel_rfl) (by kernel_rfl) (fun _ _ _ h => h) (Or.inl ⟨by kernel_rfl, fun X hS => by obtain ⟨e0, e1⟩ := hS; have e2 := row_cell e1 _ HF.out; go_simp⟩) SX ?_
  try go_simp
  refine wpAnyT_take (i := 10) (v := .string nm) rfl (by kernel_rfl) (by kernel_rfl) (by kernel_rfl) (by kernel_rfl) (fun _ _ _ h => h) (Or.inl ⟨by kernel_rfl, fun X hS => by obtain ⟨e0, e1⟩ := hS; go_simp⟩) SX ?_
  try go_simp
  refine wpAnyT_drop _ 11 _ _ _ (by decide) (by kernel_rfl) ?_
  change wpList _ _ _ [] _ _
  clear SX HF
  by_cases hs0 : s = []
  · have hse : s.isEmpty = true := by subst hs0; rfl
    go_wp2_with fail
    refine (pick_any a (q + 1) 2 w2 (by decide) (by decide) (by omega) HR2.out).mono ?_
    rintro e w3 ⟨d, hd, rfl, hr, hgr⟩
    have HR3 := hid hr
    have HN3 := hid (HR2.out.box HN2.out (by decide) hgr)
    have HG3 := hid (grown_trans HG2.out hgr)
    clear hr hgr
    go_wp2_with fail
    refine (l1Draw_any a true d (by omega) (q + 1 + 1) w3 (by omega) HR3.out).mono ?_
    rintro e w4 ⟨y, rfl, hs1, hs2, hr, hgr⟩
    have hlb : LB d ≤ 36 := by
      rcases (by omega : d = 0 ∨ d = 1) with rfl | rfl <;> decide
    have HR4 : Hid (RD w4 a (q + 40)) := hr.mono (by omega)
    have HN4 := hid (HR3.out.box HN3.out (by decide) hgr)
    have HG4 := hid (grown_trans HG3.out hgr)
    have hal4 := hr.lt
    clear hr hgr
    obtain ⟨n0, n1, f0, f1⟩ := k2 HN4.out
    have hln := lt_of_heap HN4.out
    go_wp2
    refine bodyPost_ret (results_cell_row rfl _ _ (w.heap.size + 1) 25 #[.string nm, .string y] (0, 0) _ rfl (heap_set (heap_set HN4.out 0 _) 1 _) Tryd.underlying25 rfl (by kernel_rfl)) rfl ?_
    exact ⟨nm, y, rfl, hnm, by omega, (HR4.out.set HN4.out (by decide) (by omega) _ _).set (heap_set HN4.out 0 _) (by decide) (by omega) _ _, grown_setR (grown_setR HG4.out (Nat.le_succ _) _ _) (Nat.le_succ _) _ _⟩
  · have hse : s.isEmpty = false := by
      cases s with
      | nil => exact absurd rfl hs0
      | cons c r => rfl
    have hsz : 1 ≤ s.length := by cases s with | nil => exact absurd rfl hs0 | cons c r => simp
    go_wp2_with fail
    refine (show Calls Tryd.prog _ #[_, .int .i64 (s.length : Nat)] w2 _ from pick_any a (q + 1) s.length w2 hsz (by omega) (by omega) HR2.out).mono ?_
    rintro e w3 ⟨j, hj, rfl, hr, hgr⟩
    have HR3 := hid hr
    have HN3 := hid (HR2.out.box HN2.out (by decide) hgr)
    have HG3 := hid (grown_trans HG2.out hgr)
    clear hr hgr
    obtain ⟨cc, hcc⟩ : ∃ cc, s[j]? = some cc := ⟨_, List.getElem?_eq_getElem hj⟩
    have hsl2 : (Instr.slice 9 (.string ⟨s.toArray⟩) (some (.int .i64 (j : Int))) (some (.int .i64 ((j : Int) + 1))) none).run Tryd.prog w3 = .ok (.string ⟨#[cc]⟩) w3 := run_oneW s j cc hcc w3
    clear hcc
    go_wp2_with fail
    clear hsl2
    have hln := lt_of_heap HN3.out
    have hbl : Below w3.heap.size w3 (w3.alloc (.cells #[.string ⟨#[cc]⟩, .string ⟨#[cc]⟩, .string ⟨#[cc]⟩, .string ⟨#[108, 40, cc, 41]⟩, .string ⟨#[cc]⟩] 9)) := (Below.refl _ _).alloc (Nat.le_refl _) _
    refine (ofS_any a (q + 1 + 1) w3.heap.size 5 1 4 _ _ (by omega) (by decide) (by decide) rfl (heap_alloc_new w3 _) (by rfl) (HR3.out.below hbl)).mono ?_
    rintro e w4 ⟨y, rfl, hs1, hs2, hr, hgr⟩
    have HR4 : Hid (RD w4 a (q + 40)) := hr.mono (by omega)
    have HN4 := hid ((HR3.out.below hbl).box (below_heap hbl hln HN3.out) (by decide) hgr)
    have HG4 := hid (grown_trans (grown_trans HG3.out (gb0 hbl _)) hgr)
    clear hr hgr hbl hln
    obtain ⟨n0, n1, f0, f1⟩ := k2 HN4.out
    have hln := lt_of_heap HN4.out
    go_wp2
    refine bodyPost_ret (results_cell_row rfl _ _ (w.heap.size + 1) 25 #[.string nm, .string y] (0, 0) _ rfl (heap_set (heap_set HN4.out 0 _) 1 _) Tryd.underlying25 rfl (by kernel_rfl)) rfl ?_
    exact ⟨nm, y, rfl, hnm, by omega, (HR4.out.set HN4.out (by decide) (by omega) _ _).set (heap_set HN4.out 0 _) (by decide) (by omega) _ _, grown_setR (grown_setR HG4.out (Nat.le_succ _) _ _) (Nat.le_succ _) _ _⟩
/-- a known world -/
def KPost (n : Nat) (w : World) (v u : Value) (cs : List BB) (is : List II) (w' : World) : Prop := w'.ownsRow w.heap.size 69 2 v cs.length (flat cs) ∧ IR w' w.heap.size u is ∧ 1 ≤ cs.length ∧ n ≤ is.length ∧ tot cs + cs.length ≤ 200 ∧ itot is + is.length ≤ 200 ∧ Below w.heap.size w w'
theorem PW_good (n : Nat) (s : ByteArray) (w : World) (h : KnP.okW n [.string s] = true) :
    Calls Tryd.prog 26 #[.string s] w fun e w' => ∃ v u cs is, e = .returned (.tuple #[.agg #[v, u], .bool true]) ∧ KPost n w v u cs is w' := by
  obtain ⟨l, hl, cs, is, h1, h2, h3, h4, h5, h6⟩ := KnP.okW_mem h (List.mem_singleton.2 rfl)
  cases hl
  refine (ParseWorld_spec l w h6).mono ?_
  rintro e w' ⟨v, u, rfl, hv, hu, hb⟩
  rw [h1] at hv hu ⊢
  exact ⟨v, u, cs, is, rfl, hv, hu, h2, h3, h4, h5, hb⟩
set_option maxHeartbeats 16000000 in
theorem l3Known_any (k : Nat) (w : World) (hk : k < 9) :
    Calls Tryd.prog 29 #[.int .i64 k] w fun e w' => ∃ v u cs is, e = .returned (.agg #[v, u]) ∧ KPost 1 w v u cs is w' := by
  have go : ∀ j : Fin 9, Calls Tryd.prog 29 #[.int .i64 (j.val : Int)] w fun e w' => ∃ v u cs is, e = .returned (.agg #[v, u]) ∧ KPost 1 w v u cs is w' := by
    intro j
    match j with
    | ⟨0, _⟩ =>
      go_enter Tryd.func29, Tryd.ntmps29
      go_wp2_with fail
      refine (PW_good 1 _ _ (by kernel_rfl)).mono ?_
      rintro e w1 ⟨v, u, cs, is, rfl, hv, hu, h1, h2, h3, h4, hb⟩
      obtain ⟨va, vc, rfl⟩ := row_slice hv
      obtain ⟨ua, uc, rfl⟩ := ir_slice hu
      have hz : w.heap.size + 1 + 1 ≤ w1.heap.size := by have := hb.size; simp at this; omega
      have HR := hid (below_heap hb (by simp; omega) (hb_alloc (heap_alloc_new w (.cells #[.slice none 0 0, .slice none 0 0] 42)) _))
      have HB : Hid (Below w.heap.size w w1) := (((Below.refl _ _).alloc (Nat.le_refl _) _).alloc (by simp) _).trans (hb.mono (by simp; omega))
      have HV : Hid (w1.ownsRow w.heap.size 69 2 (.slice va cs.length vc) cs.length (flat cs)) := row_mono hv (by simp; omega)
      have HU : Hid (IR w1 w.heap.size (.slice ua is.length uc) is) := IR_mono hu (by simp; omega)
      clear hv hu hb
      obtain ⟨r0, r1, z0, z1⟩ := k2 HR.out
      have hlr := lt_of_heap HR.out
      go_wp2
      have hg := set2_boxR w1 w.heap.size (.slice va cs.length vc) (.slice ua is.length uc)
      refine bodyPost_ret (results_cell_row rfl _ _ w.heap.size 42 #[.slice va cs.length vc, .slice ua is.length uc] (0, 0) _ rfl (hb_alloc (heap_set (heap_set HR.out 0 _) 1 _) _) Tryd.underlying42 rfl (by kernel_rfl)) rfl ?_
      exact ⟨.slice va cs.length vc, .slice ua is.length uc, cs, is, rfl, World.ownsRow.alloc (row_boxR HR.out HV.out (by decide) hg) _, (ir_boxR HR.out HU.out (by decide) (by decide) hg).below ((Below.refl _ _).alloc (Nat.le_refl _) _), h1, h2, h3, h4, ((HB.out.setCell (Nat.le_refl _) _).setCell (Nat.le_refl _) _).alloc (by simp; omega) _⟩
    | ⟨1, _⟩ =>
      go_enter Tryd.func29, Tryd.ntmps29
      go_wp2_with fail
      refine (PW_good 1 _ _ (by kernel_rfl)).mono ?_
      rintro e w1 ⟨v, u, cs, is, rfl, hv, hu, h1, h2, h3, h4, hb⟩
      obtain ⟨va, vc, rfl⟩ := row_slice hv
      obtain ⟨ua, uc, rfl⟩ := ir_slice hu
      have hz : w.heap.size + 1 + 1 ≤ w1.heap.size := by have := hb.size; simp at this; omega
      have HR := hid (below_heap hb (by simp; omega) (hb_alloc (heap_alloc_new w (.cells #[.slice none 0 0, .slice none 0 0] 42)) _))
      have HB : Hid (Below w.heap.size w w1) := (((Below.refl _ _).alloc (Nat.le_refl _) _).alloc (by simp) _).trans (hb.mono (by simp; omega))
      have HV : Hid (w1.ownsRow w.heap.size 69 2 (.slice va cs.length vc) cs.length (flat cs)) := row_mono hv (by simp; omega)
      have HU : Hid (IR w1 w.heap.size (.slice ua is.length uc) is) := IR_mono hu (by simp; omega)
      clear hv hu hb
      obtain ⟨r0, r1, z0, z1⟩ := k2 HR.out
      have hlr := lt_of_heap HR.out
      go_wp2
      have hg := set2_boxR w1 w.heap.size (.slice va cs.length vc) (.slice ua is.length uc)
      refine bodyPost_ret (results_cell_row rfl _ _ w.heap.size 42 #[.slice va cs.length vc, .slice ua is.length uc] (0, 0) _ rfl (hb_alloc (heap_set (heap_set HR.out 0 _) 1 _) _) Tryd.underlying42 rfl (by kernel_rfl)) rfl ?_
      exact ⟨.slice va cs.length vc, .slice ua is.length uc, cs, is, rfl, World.ownsRow.alloc (row_boxR HR.out HV.out (by decide) hg) _, (ir_boxR HR.out HU.out (by decide) (by decide) hg).below ((Below.refl _ _).alloc (Nat.le_refl _) _), h1, h2, h3, h4, ((HB.out.setCell (Nat.le_refl _) _).setCell (Nat.le_refl _) _).alloc (by simp; omega) _⟩
    | ⟨2, _⟩ =>
      go_enter Tryd.func29, Tryd.ntmps29
      go_wp2_with fail
      refine (PW_good 1 _ _ (by kernel_rfl)).mono ?_
      rintro e w1 ⟨v, u, cs, is, rfl, hv, hu, h1, h2, h3, h4, hb⟩
      obtain ⟨va, vc, rfl⟩ := row_slice hv
      obtain ⟨ua, uc, rfl⟩ := ir_slice hu
      have hz : w.heap.size + 1 + 1 ≤ w1.heap.size := by have := hb.size; simp at this; omega
      have HR := hid (below_heap hb (by simp; omega) (hb_alloc (heap_alloc_new w (.cells #[.slice none 0 0, .slice none 0 0] 42)) _))
      have HB : Hid (Below w.heap.size w w1) := (((Below.refl _ _).alloc (Nat.le_refl _) _).alloc (by simp) _).trans (hb.mono (by simp; omega))
      have HV : Hid (w1.ownsRow w.heap.size 69 2 (.slice va cs.length vc) cs.length (flat cs)) := row_mono hv (by simp; omega)
      have HU : Hid (IR w1 w.heap.size (.slice ua is.length uc) is) := IR_mono hu (by simp; omega)
      clear hv hu hb
      obtain ⟨r0, r1, z0, z1⟩ := k2 HR.out
      have hlr := lt_of_heap HR.out
      go_wp2
      have hg := set2_boxR w1 w.heap.size (.slice va cs.length vc) (.slice ua is.length uc)
      refine bodyPost_ret (results_cell_row rfl _ _ w.heap.size 42 #[.slice va cs.length vc, .slice ua is.length uc] (0, 0) _ rfl (hb_alloc (heap_set (heap_set HR.out 0 _) 1 _) _) Tryd.underlying42 rfl (by kernel_rfl)) rfl ?_
      exact ⟨.slice va cs.length vc, .slice ua is.length uc, cs, is, rfl, World.ownsRow.alloc (row_boxR HR.out HV.out (by decide) hg) _, (ir_boxR HR.out HU.out (by decide) (by decide) hg).below ((Below.refl _ _).alloc (Nat.le_refl _) _), h1, h2, h3, h4, ((HB.out.setCell (Nat.le_refl _) _).setCell (Nat.le_refl _) _).alloc (by simp; omega) _⟩
    | ⟨3, _⟩ =>
      go_enter Tryd.func29, Tryd.ntmps29
      go_wp2_with fail
      refine (PW_good 1 _ _ (by kernel_rfl)).mono ?_
      rintro e w1 ⟨v, u, cs, is, rfl, hv, hu, h1, h2, h3, h4, hb⟩
      obtain ⟨va, vc, rfl⟩ := row_slice hv
      obtain ⟨ua, uc, rfl⟩ := ir_slice hu
      have hz : w.heap.size + 1 + 1 ≤ w1.heap.size := by have := hb.size; simp at this; omega
      have HR := hid (below_heap hb (by simp; omega) (hb_alloc (heap_alloc_new w (.cells #[.slice none 0 0, .slice none 0 0] 42)) _))
      have HB : Hid (Below w.heap.size w w1) := (((Below.refl _ _).alloc (Nat.le_refl _) _).alloc (by simp) _).trans (hb.mono (by simp; omega))
      have HV : Hid (w1.ownsRow w.heap.size 69 2 (.slice va cs.length vc) cs.length (flat cs)) := row_mono hv (by simp; omega)
      have HU : Hid (IR w1 w.heap.size (.slice ua is.length uc) is) := IR_mono hu (by simp; omega)
      clear hv hu hb
      obtain ⟨r0, r1, z0, z1⟩ := k2 HR.out
      have hlr := lt_of_heap HR.out
      go_wp2
      have hg := set2_boxR w1 w.heap.size (.slice va cs.length vc) (.slice ua is.length uc)
      refine bodyPost_ret (results_cell_row rfl _ _ w.heap.size 42 #[.slice va cs.length vc, .slice ua is.length uc] (0, 0) _ rfl (hb_alloc (heap_set (heap_set HR.out 0 _) 1 _) _) Tryd.underlying42 rfl (by kernel_rfl)) rfl ?_
      exact ⟨.slice va cs.length vc, .slice ua is.length uc, cs, is, rfl, World.ownsRow.alloc (row_boxR HR.out HV.out (by decide) hg) _, (ir_boxR HR.out HU.out (by decide) (by decide) hg).below ((Below.refl _ _).alloc (Nat.le_refl _) _), h1, h2, h3, h4, ((HB.out.setCell (Nat.le_refl _) _).setCell (Nat.le_refl _) _).alloc (by simp; omega) _⟩
    | ⟨4, _⟩ =>
      go_enter Tryd.func29, Tryd.ntmps29
      go_wp2_with fail
      refine (PW_good 1 _ _ (by kernel_rfl)).mono ?_
      rintro e w1 ⟨v, u, cs, is, rfl, hv, hu, h1, h2, h3, h4, hb⟩
      obtain ⟨va, vc, rfl⟩ := row_slice hv
      obtain ⟨ua, uc, rfl⟩ := ir_slice hu
      have hz : w.heap.size + 1 + 1 ≤ w1.heap.size := by have := hb.size; simp at this; omega
      have HR := hid (below_heap hb (by simp; omega) (hb_alloc (heap_alloc_new w (.cells #[.slice none 0 0, .slice none 0 0] 42)) _))
      have HB : Hid (Below w.heap.size w w1) := (((Below.refl _ _).alloc (Nat.le_refl _) _).alloc (by simp) _).trans (hb.mono (by simp; omega))
      have HV : Hid (w1.ownsRow w.heap.size 69 2 (.slice va cs.length vc) cs.length (flat cs)) := row_mono hv (by simp; omega)
      have HU : Hid (IR w1 w.heap.size (.slice ua is.length uc) is) := IR_mono hu (by simp; omega)
      clear hv hu hb
      obtain ⟨r0, r1, z0, z1⟩ := k2 HR.out
      have hlr := lt_of_heap HR.out
      go_wp2
      have hg := set2_boxR w1 w.heap.size (.slice va cs.length vc) (.slice ua is.length uc)
      refine bodyPost_ret (results_cell_row rfl _ _ w.heap.size 42 #[.slice va cs.length vc, .slice ua is.length uc] (0, 0) _ rfl (hb_alloc (heap_set (heap_set HR.out 0 _) 1 _) _) Tryd.underlying42 rfl (by kernel_rfl)) rfl ?_
      exact ⟨.slice va cs.length vc, .slice ua is.length uc, cs, is, rfl, World.ownsRow.alloc (row_boxR HR.out HV.out (by decide) hg) _, (ir_boxR HR.out HU.out (by decide) (by decide) hg).below ((Below.refl _ _).alloc (Nat.le_refl _) _), h1, h2, h3, h4, ((HB.out.setCell (Nat.le_refl _) _).setCell (Nat.le_refl _) _).alloc (by simp; omega) _⟩
    | ⟨5, _⟩ =>
      go_enter Tryd.func29, Tryd.ntmps29
      go_wp2_with fail
      refine (PW_good 1 _ _ (by kernel_rfl)).mono ?_
      rintro e w1 ⟨v, u, cs, is, rfl, hv, hu, h1, h2, h3, h4, hb⟩
      obtain ⟨va, vc, rfl⟩ := row_slice hv
      obtain ⟨ua, uc, rfl⟩ := ir_slice hu
      have hz : w.heap.size + 1 + 1 ≤ w1.heap.size := by have := hb.size; simp at this; omega
      have HR := hid (below_heap hb (by simp; omega) (hb_alloc (heap_alloc_new w (.cells #[.slice none 0 0, .slice none 0 0] 42)) _))
      have HB : Hid (Below w.heap.size w w1) := (((Below.refl _ _).alloc (Nat.le_refl _) _).alloc (by simp) _).trans (hb.mono (by simp; omega))
      have HV : Hid (w1.ownsRow w.heap.size 69 2 (.slice va cs.length vc) cs.length (flat cs)) := row_mono hv (by simp; omega)
      have HU : Hid (IR w1 w.heap.size (.slice ua is.length uc) is) := IR_mono hu (by simp; omega)
      clear hv hu hb
      obtain ⟨r0, r1, z0, z1⟩ := k2 HR.out
      have hlr := lt_of_heap HR.out
      go_wp2
      have hg := set2_boxR w1 w.heap.size (.slice va cs.length vc) (.slice ua is.length uc)
      refine bodyPost_ret (results_cell_row rfl _ _ w.heap.size 42 #[.slice va cs.length vc, .slice ua is.length uc] (0, 0) _ rfl (hb_alloc (heap_set (heap_set HR.out 0 _) 1 _) _) Tryd.underlying42 rfl (by kernel_rfl)) rfl ?_
      exact ⟨.slice va cs.length vc, .slice ua is.length uc, cs, is, rfl, World.ownsRow.alloc (row_boxR HR.out HV.out (by decide) hg) _, (ir_boxR HR.out HU.out (by decide) (by decide) hg).below ((Below.refl _ _).alloc (Nat.le_refl _) _), h1, h2, h3, h4, ((HB.out.setCell (Nat.le_refl _) _).setCell (Nat.le_refl _) _).alloc (by simp; omega) _⟩
    | ⟨6, _⟩ =>
      go_enter Tryd.func29, Tryd.ntmps29
      go_wp2_with fail
      refine (PW_good 1 _ _ (by kernel_rfl)).mono ?_
      rintro e w1 ⟨v, u, cs, is, rfl, hv, hu, h1, h2, h3, h4, hb⟩
      obtain ⟨va, vc, rfl⟩ := row_slice hv
      obtain ⟨ua, uc, rfl⟩ := ir_slice hu
      have hz : w.heap.size + 1 + 1 ≤ w1.heap.size := by have := hb.size; simp at this; omega
      have HR := hid (below_heap hb (by simp; omega) (hb_alloc (heap_alloc_new w (.cells #[.slice none 0 0, .slice none 0 0] 42)) _))
      have HB : Hid (Below w.heap.size w w1) := (((Below.refl _ _).alloc (Nat.le_refl _) _).alloc (by simp) _).trans (hb.mono (by simp; omega))
      have HV : Hid (w1.ownsRow w.heap.size 69 2 (.slice va cs.length vc) cs.length (flat cs)) := row_mono hv (by simp; omega)
      have HU : Hid (IR w1 w.heap.size (.slice ua is.length uc) is) := IR_mono hu (by simp; omega)
      clear hv hu hb
      obtain ⟨r0, r1, z0, z1⟩ := k2 HR.out
      have hlr := lt_of_heap HR.out
      go_wp2
      have hg := set2_boxR w1 w.heap.size (.slice va cs.length vc) (.slice ua is.length uc)
      refine bodyPost_ret (results_cell_row rfl _ _ w.heap.size 42 #[.slice va cs.length vc, .slice ua is.length uc] (0, 0) _ rfl (hb_alloc (heap_set (heap_set HR.out 0 _) 1 _) _) Tryd.underlying42 rfl (by kernel_rfl)) rfl ?_
      exact ⟨.slice va cs.length vc, .slice ua is.length uc, cs, is, rfl, World.ownsRow.alloc (row_boxR HR.out HV.out (by decide) hg) _, (ir_boxR HR.out HU.out (by decide) (by decide) hg).below ((Below.refl _ _).alloc (Nat.le_refl _) _), h1, h2, h3, h4, ((HB.out.setCell (Nat.le_refl _) _).setCell (Nat.le_refl _) _).alloc (by simp; omega) _⟩
    | ⟨7, _⟩ =>
      go_enter Tryd.func29, Tryd.ntmps29
      go_wp2_with fail
      refine (PW_good 1 _ _ (by kernel_rfl)).mono ?_
      rintro e w1 ⟨v, u, cs, is, rfl, hv, hu, h1, h2, h3, h4, hb⟩
      obtain ⟨va, vc, rfl⟩ := row_slice hv
      obtain ⟨ua, uc, rfl⟩ := ir_slice hu
      have hz : w.heap.size + 1 + 1 ≤ w1.heap.size := by have := hb.size; simp at this; omega
      have HR := hid (below_heap hb (by simp; omega) (hb_alloc (heap_alloc_new w (.cells #[.slice none 0 0, .slice none 0 0] 42)) _))
      have HB : Hid (Below w.heap.size w w1) := (((Below.refl _ _).alloc (Nat.le_refl _) _).alloc (by simp) _).trans (hb.mono (by simp; omega))
      have HV : Hid (w1.ownsRow w.heap.size 69 2 (.slice va cs.length vc) cs.length (flat cs)) := row_mono hv (by simp; omega)
      have HU : Hid (IR w1 w.heap.size (.slice ua is.length uc) is) := IR_mono hu (by simp; omega)
      clear hv hu hb
      obtain ⟨r0, r1, z0, z1⟩ := k2 HR.out
      have hlr := lt_of_heap HR.out
      go_wp2
      have hg := set2_boxR w1 w.heap.size (.slice va cs.length vc) (.slice ua is.length uc)
      refine bodyPost_ret (results_cell_row rfl _ _ w.heap.size 42 #[.slice va cs.length vc, .slice ua is.length uc] (0, 0) _ rfl (hb_alloc (heap_set (heap_set HR.out 0 _) 1 _) _) Tryd.underlying42 rfl (by kernel_rfl)) rfl ?_
      exact ⟨.slice va cs.length vc, .slice ua is.length uc, cs, is, rfl, World.ownsRow.alloc (row_boxR HR.out HV.out (by decide) hg) _, (ir_boxR HR.out HU.out (by decide) (by decide) hg).below ((Below.refl _ _).alloc (Nat.le_refl _) _), h1, h2, h3, h4, ((HB.out.setCell (Nat.le_refl _) _).setCell (Nat.le_refl _) _).alloc (by simp; omega) _⟩
    | ⟨8, _⟩ =>
      go_enter Tryd.func29, Tryd.ntmps29
      go_wp2_with fail
      refine (PW_good 1 _ _ (by kernel_rfl)).mono ?_
      rintro e w1 ⟨v, u, cs, is, rfl, hv, hu, h1, h2, h3, h4, hb⟩
      obtain ⟨va, vc, rfl⟩ := row_slice hv
      obtain ⟨ua, uc, rfl⟩ := ir_slice hu
      have hz : w.heap.size + 1 + 1 ≤ w1.heap.size := by have := hb.size; simp at this; omega
      have HR := hid (below_heap hb (by simp; omega) (hb_alloc (heap_alloc_new w (.cells #[.slice none 0 0, .slice none 0 0] 42)) _))
      have HB : Hid (Below w.heap.size w w1) := (((Below.refl _ _).alloc (Nat.le_refl _) _).alloc (by simp) _).trans (hb.mono (by simp; omega))
      have HV : Hid (w1.ownsRow w.heap.size 69 2 (.slice va cs.length vc) cs.length (flat cs)) := row_mono hv (by simp; omega)
      have HU : Hid (IR w1 w.heap.size (.slice ua is.length uc) is) := IR_mono hu (by simp; omega)
      clear hv hu hb
      obtain ⟨r0, r1, z0, z1⟩ := k2 HR.out
      have hlr := lt_of_heap HR.out
      go_wp2
      have hg := set2_boxR w1 w.heap.size (.slice va cs.length vc) (.slice ua is.length uc)
      refine bodyPost_ret (results_cell_row rfl _ _ w.heap.size 42 #[.slice va cs.length vc, .slice ua is.length uc] (0, 0) _ rfl (hb_alloc (heap_set (heap_set HR.out 0 _) 1 _) _) Tryd.underlying42 rfl (by kernel_rfl)) rfl ?_
      exact ⟨.slice va cs.length vc, .slice ua is.length uc, cs, is, rfl, World.ownsRow.alloc (row_boxR HR.out HV.out (by decide) hg) _, (ir_boxR HR.out HU.out (by decide) (by decide) hg).below ((Below.refl _ _).alloc (Nat.le_refl _) _), h1, h2, h3, h4, ((HB.out.setCell (Nat.le_refl _) _).setCell (Nat.le_refl _) _).alloc (by simp; omega) _⟩
  exact go ⟨k, hk⟩
end Draw
end Go.Proofs.YtbdnhcfebgkpdaaDoor
