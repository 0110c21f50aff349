/- The laws' marks in a list of bindings. Conditions: those typed. -/
import Derived.Test.YtlhildfiddphcaaPairs
import Derived.Test.YtlhildfiddphcaaListS
import Derived.Test.YtlhildfiddphcaaReg2
set_option linter.unusedVariables false
set_option linter.unusedSimpArgs false
set_option maxRecDepth 100000
namespace Go.Proofs.Ytlhildfiddphcaa
open Go.RowKit ListS
namespace Marks
theorem vint {a b : Int} (h : a = b) : Value.int .i64 a = Value.int .i64 b := by rw [h]
theorem below_drew1 {B : Nat} {w w' : World} (h : Below B w w') : Below B w w'.drew := ⟨h.os, h.tape, h.output, h.size, h.block⟩
/-- a block whose first n pairs are marks from k on -/
def MC (w : World) (g : Nat) (e : TypeId) (cs : Array Value) (n k : Nat) : Prop := ∃ cs', w.heap[g]? = some (.cells cs' e (0, 0)) ∧ cs'.size = cs.size ∧ (∀ j, j < n → cs'[j * 2]? = some (.string (mt (k + j * 2))) ∧ cs'[j * 2 + 1]? = some (.string (mt (k + j * 2 + 1)))) ∧ ∀ j, n * 2 ≤ j → cs'[j]? = cs[j]?
theorem MC.below {w w' : World} {g : Nat} {e : TypeId} {cs : Array Value} {n k : Nat} (h : MC w g e cs n k) (hb : Below w.heap.size w w') : MC w' g e cs n k := by
  obtain ⟨cs', h1, h2, h3, h4⟩ := h
  exact ⟨cs', below_heap hb (lt_of_heap h1) h1, h2, h3, h4⟩
theorem gb {w w' : World} (h : Below w.heap.size w w') (row : Option Nat) : w.grownBy w' row := ⟨h.os, h.tape, h.output, h.size, fun k hk _ => h.block k hk⟩
theorem MC.step {w w2 : World} {g : Nat} {e : TypeId} {cs : Array Value} {n k : Nat} (h : MC w g e cs n k) (hs : n * 2 + 2 ≤ cs.size) (hb : Below (w.setCell ⟨g, n * 2, none⟩ (.string (mt (k + n * 2)))).heap.size (w.setCell ⟨g, n * 2, none⟩ (.string (mt (k + n * 2)))) w2) : MC (w2.setCell ⟨g, n * 2 + 1, none⟩ (.string (mt (k + n * 2 + 1)))) g e cs (n + 1) k := by
  obtain ⟨cs', h1, h2, h3, h4⟩ := h
  refine ⟨_, heap_set (below_heap hb (lt_of_heap (heap_set h1 _ _)) (heap_set h1 _ _)) _ _, by simp [h2], fun j hj => ?_, fun j hj => ?_⟩
  · by_cases e : j = n
    · subst e
      refine ⟨?_, ?_⟩
      · rw [Array.getElem?_setIfInBounds_ne (by omega), Array.getElem?_setIfInBounds_self_of_lt (by omega)]
      · rw [Array.getElem?_setIfInBounds_self_of_lt (by simp; omega)]
    · obtain ⟨q1, q2⟩ := h3 j (by omega)
      refine ⟨?_, ?_⟩
      · rw [Array.getElem?_setIfInBounds_ne (by omega), Array.getElem?_setIfInBounds_ne (by omega)]; exact q1
      · rw [Array.getElem?_setIfInBounds_ne (by omega), Array.getElem?_setIfInBounds_ne (by omega)]; exact q2
  · rw [Array.getElem?_setIfInBounds_ne (by omega), Array.getElem?_setIfInBounds_ne (by omega)]
    exact h4 j (by omega)
def MPost (w : World) (g : Nat) (ty : TypeId) (cs : Array Value) (n k : Nat) (e : Ending) (w' : World) : Prop := e = .returned (.int .i64 ((k + n * 2 : Nat) : Int)) ∧ MC w' g ty cs n k ∧ w.grownBy w' (some g)
set_option maxHeartbeats 2000000 in
theorem markBindingS_any (g cap n k : Nat) (cs : Array Value) (w : World) (hk0 : 1 ≤ k) (hk : k ≤ 1099511627776) (hn : n ≤ 1099511627776) (hh : w.heap[g]? = some (.cells cs 45 (0, 0))) (hsz : n * 2 ≤ cs.size) :
    Calls Try.prog 8 #[.slice (some ⟨g, 0, none⟩) n cap, .int .i64 k] w (MPost w g 45 cs n k) := by
  have HH := hid hh
  clear hh
  go_enter Try.func8, Try.ntmps8
  go_wp2_with fail
  go_loopg [1, 5] n (fun q m i wr => ∃ j : Nat, j ≤ n ∧ n - j ≤ q ∧ i = .int .i64 j ∧ m = .int .i64 ((k + j * 2 : Nat) : Int) ∧ Hid (MC wr g 45 cs j k) ∧ w.grownBy wr (some g))
  case atStart => exact ⟨0, Nat.zero_le _, by simp, rfl, rfl, ⟨cs, HH.out, rfl, fun j h => by omega, fun _ _ => rfl⟩, World.grownBy.refl _ _⟩
  case round =>
    obtain ⟨j, hj, hq, rfl, rfl, hm, hg⟩ := hrel
    have HM := hid hm.out
    have HG := hid hg
    clear hm hg
    by_cases hlt : j < n
    · go_wp2_with fail
      refine (markText_any (k + j * 2) wr (by omega) (by omega)).mono ?_
      rintro e w1 ⟨rfl, hb⟩
      have HM1 := hid (HM.out.below hb)
      have HG1 := hid (grown_trans HG.out (gb hb _))
      clear hb
      obtain ⟨c1, h1, h2, -, -⟩ := HM1.out
      have k0 : w1.cell? ⟨g, j * 2, none⟩ = some (c1[j * 2]'(by omega)) := by rw [heap_cell h1, Array.getElem?_eq_getElem (by omega)]
      have f0 := heap_free h1 (j * 2)
      have H1 := hid h1
      generalize c1[j * 2]'_ = u0 at *
      clear h1
      go_wp2_with fail
      refine (markText_any (k + j * 2 + 1) _ (by omega) (by omega)).mono ?_
      rintro e w2 ⟨rfl, hb⟩
      have HB2 := hid hb
      have h2' := below_heap hb (lt_of_heap (heap_set H1.out (j * 2) (.string (mt (k + j * 2))))) (heap_set H1.out (j * 2) (.string (mt (k + j * 2))))
      have hsz1 : j * 2 + 1 < (c1.setIfInBounds (j * 2) (.string (mt (k + j * 2)))).size := by simp; omega
      have k1 : w2.cell? ⟨g, j * 2 + 1, none⟩ = some ((c1.setIfInBounds (j * 2) (.string (mt (k + j * 2))))[j * 2 + 1]'hsz1) := by rw [heap_cell h2', Array.getElem?_eq_getElem hsz1]
      have f1 := heap_free h2' (j * 2 + 1)
      generalize (c1.setIfInBounds (j * 2) (.string (mt (k + j * 2))))[j * 2 + 1]'hsz1 = u1 at *
      clear hb h2' k0 f0 hsz1
      go_wp2_with fail
      go_roundg (n - (j + 1))
      case measure => omega
      case rel =>
        refine ⟨j + 1, by omega, by omega, by go_num, by go_num, ?_, ?_⟩
        · exact HM1.out.step (by omega) HB2.out
        · exact grown_trans HG1.out (grown_trans (grown_set _ _ _ _) (grown_trans (gb HB2.out _) (grown_set _ _ _ _)))
    · have hke : j = n := by omega
      subst hke
      go_wp2
      go_ret
      exact ⟨rfl, HM.out, HG.out⟩
end Marks
namespace BMk
open Marks
/-- the slice v holds n marked pairs, from k on -/
def HM (w : World) (v : Value) (n k : Nat) : Prop := (n = 0 ∧ ∃ a cap, v = .slice a 0 cap) ∨ ∃ g cap cs, v = .slice (some ⟨g, 0, none⟩) n cap ∧ Marks.MC w g 45 cs n k
theorem HM.below {w w' : World} {v : Value} {n k : Nat} (h : HM w v n k) (hb : Below w.heap.size w w') : HM w' v n k := by
  rcases h with h | ⟨g, cap, cs, h1, h2⟩
  · exact .inl h
  · exact .inr ⟨g, cap, cs, h1, h2.below hb⟩
def MkPost (w : World) (v : Value) (n k : Nat) (e : Ending) (w' : World) : Prop := e = .returned (.int .i64 ((k + n * 2 : Nat) : Int)) ∧ HM w' v n k ∧ w.grownBy w' v.ownBlock
theorem mark_zero (a : Option Addr) (cap k : Nat) (w : World) : Calls Try.prog 8 #[.slice a 0 cap, .int .i64 k] w fun e w' => e = .returned (.int .i64 (k : Int)) ∧ w = w' := by
  go_enter Try.func8, Try.ntmps8
  go_wp2
  go_loop [1, 5] (fun m i => m = .int .i64 k ∧ i = .int .i64 0) (fun _ _ => 0)
  case atStart => exact ⟨rfl, rfl⟩
  case round =>
    obtain ⟨rfl, rfl⟩ := hrel
    go_wp2
    go_ret
    exact ⟨rfl, rfl⟩
theorem held_zero (a : Option Addr) (cap k : Nat) (w : World) : Calls Try.prog 9 #[.slice a 0 cap, .int .i64 k] w fun e w' => e = .returned (.int .i64 (k : Int)) ∧ w = w' := by
  go_enter Try.func9, Try.ntmps9
  go_wp2
  go_loop [1, 5] (fun m i => m = .int .i64 k ∧ i = .int .i64 0) (fun _ _ => 0)
  case atStart => exact ⟨rfl, rfl⟩
  case round =>
    obtain ⟨rfl, rfl⟩ := hrel
    go_wp2
    go_ret
    exact ⟨rfl, rfl⟩
theorem mark_v (v : Value) (xs : List BB) (k : Nat) (w : World) (b : Nat) (hk0 : 1 ≤ k) (hk : k ≤ 1099511627776) (hn : xs.length ≤ 1099511627776) (ho : w.ownsRow b 45 2 v xs.length (flat xs)) :
    Calls Try.prog 8 #[v, .int .i64 k] w (MkPost w v xs.length k) := by
  rcases ho.2 with ⟨rfl, h0⟩ | ⟨g, cap, cur, rfl, hb, hg, h1, -, h2, -⟩
  · rw [h0]
    exact (mark_zero none 0 k w).mono (by rintro e w' ⟨rfl, rfl⟩; exact ⟨by simp, .inl ⟨rfl, _, _, rfl⟩, World.grownBy.refl _ _⟩)
  · refine (Marks.markBindingS_any g cap xs.length k cur w hk0 hk hn hg ?_).mono ?_
    · exact Nat.le_trans (Nat.mul_le_mul_right 2 h1) (by have := h2; omega)
    · rintro e w' ⟨rfl, hm, hr⟩
      exact ⟨rfl, .inr ⟨g, cap, cur, rfl, hm⟩, by simpa [Value.ownBlock] using hr⟩
set_option maxHeartbeats 8000000 in
theorem held_row (g cap n k : Nat) (cs : Array Value) (w : World) (hk0 : 1 ≤ k) (hk : k ≤ 1099511627776) (hn : n ≤ 1099511627776) (hm : Marks.MC w g 45 cs n k) :
    Calls Try.prog 9 #[.slice (some ⟨g, 0, none⟩) n cap, .int .i64 k] w fun e w' => e = .returned (.int .i64 ((k + n * 2 : Nat) : Int)) ∧ Below w.heap.size w w' := by
  have HMM := hid hm
  clear hm
  go_enter Try.func9, Try.ntmps9
  go_wp2_with fail
  go_loopg [1, 5] n (fun q m i wr => ∃ j : Nat, j ≤ n ∧ n - j ≤ q ∧ i = .int .i64 j ∧ m = .int .i64 ((k + j * 2 : Nat) : Int) ∧ Below w.heap.size w wr)
  case atStart => exact ⟨0, Nat.zero_le _, by simp, rfl, rfl, Below.refl _ _⟩
  case round =>
    obtain ⟨j, hj, hq, rfl, rfl, hb⟩ := hrel
    have HB := hid hb
    clear hb
    obtain ⟨kk, hkk⟩ : ∃ kk, kk = k + j * 2 := ⟨_, rfl⟩
    rw [← hkk]
    by_cases hlt : j < n
    · obtain ⟨c', h1, -, h3, -⟩ := HMM.out
      obtain ⟨q1, q2⟩ := h3 j hlt
      rw [← hkk] at q1 q2
      have hc0 : w.cell? ⟨g, j * 2, none⟩ = some (.string (mt kk)) := (heap_cell h1 _).trans q1
      have hc1 : w.cell? ⟨g, j * 2 + 1, none⟩ = some (.string (mt (kk + 1))) := (heap_cell h1 _).trans q2
      have kc : wr.cell? ⟨g, j * 2, none⟩ = some (.string (mt kk)) := (HB.out.cell (lt_of_cell hc0)).trans hc0
      have HC1 := hid hc1
      have hk1 : 1 ≤ kk := by omega
      have hk2 : kk ≤ 4398046511104 := by omega
      have HKK := hid hkk
      obtain ⟨wx, hwx⟩ : ∃ x, x = wr := ⟨_, rfl⟩
      subst hwx
      clear h1 h3 q1 q2 hc0 hc1 hkk
      go_wp2_with fail
      refine wp_region_any (by kernel_rfl) ?_
      change wpAny _ _ _ _ _ _ _ (World.drew _)
      have SX : wx.drew.cell? ⟨g, j * 2, none⟩ = some (.string (mt kk)) := kc
      refine wpAny_of_T (S := fun X => X.cell? ⟨g, j * 2, none⟩ = some (.string (mt kk))) (m := 8) _ _ _ _ ?_
      refine wpAnyT_take (i := 0) (v := .slice (some ⟨g, 0, none⟩) n cap) rfl (by kernel_rfl) (by kernel_rfl) (by kernel_rfl) (by kernel_rfl) (fun _ _ _ h => h) (Or.inl ⟨by kernel_rfl, fun X hS => by clear hS; go_simp⟩) SX ?_
      try go_simp
      refine wpAnyT_take (i := 1) (v := .int .i64 j) rfl (by kernel_rfl) (by kernel_rfl) (by kernel_rfl) (by kernel_rfl) (fun _ _ _ h => h) (Or.inl ⟨by kernel_rfl, fun X hS => by clear hS; go_simp⟩) SX ?_
      try go_simp
      refine wpAnyT_take (i := 2) (v := .pointer (some ⟨g, j * 2, none⟩)) rfl (by kernel_rfl) (by kernel_rfl) (by kernel_rfl) (by kernel_rfl) (fun _ _ _ h => h) (Or.inl ⟨by kernel_rfl, fun X hS => by clear hS; go_simp⟩) SX ?_
      try go_simp
      refine wpAnyT_take (i := 3) (v := .pointer (some ⟨g, j * 2, none⟩)) rfl (by kernel_rfl) (by kernel_rfl) (by kernel_rfl) (by kernel_rfl) (fun _ _ _ h => h) (Or.inl ⟨by kernel_rfl, fun X hS => by clear hS; go_simp⟩) SX ?_
      try go_simp
      refine wpAnyT_take (i := 4) (v := .string (mt kk)) rfl (by kernel_rfl) (by kernel_rfl) (by kernel_rfl) (by kernel_rfl) (fun _ _ _ h => h) (Or.inl ⟨by kernel_rfl, fun X hS => by go_simp⟩) SX ?_
      try go_simp
      refine wpAnyT_take (i := 5) (v := .int .i64 kk) rfl (by kernel_rfl) (by kernel_rfl) (by kernel_rfl) (by kernel_rfl) (fun _ _ _ h => h) (Or.inl ⟨by kernel_rfl, fun X hS => by clear hS; go_simp⟩) SX ?_
      try go_simp
      refine wpAnyT_one 6 rfl (by kernel_rfl) (fun K hK => ?_)
      go_simp
      refine (markText_any kk wx.drew hk1 hk2).mono ?_
      rintro e w5 ⟨rfl, hb⟩
      have HB5 : Hid (Below wx.heap.size wx w5) := (below_drew1 (Below.refl _ wx)).trans hb
      have SX5 : w5.cell? ⟨g, j * 2, none⟩ = some (.string (mt kk)) := (hb.cell (lt_of_cell kc)).trans kc
      clear hb
      refine hK _ _ (fun _ => SX5) ?_
      clear hK K
      clear SX
      refine wpAnyT_take (i := 7) (v := .bool false) rfl (by kernel_rfl) (by kernel_rfl) (by kernel_rfl) (by kernel_rfl) (fun _ _ _ h => h) (Or.inl ⟨by kernel_rfl, fun X hS => by clear hS; go_simp⟩) SX5 ?_
      try go_simp
      refine wpAnyT_drop _ 8 _ _ _ (by decide) (by kernel_rfl) ?_
      change wpList _ _ _ [] _ _
      clear SX5 kc
      go_wp2_with fail
      have HB6 : Hid (Below w.heap.size w w5) := HB.out.trans (HB5.out.mono HB.out.size)
      have kc : w5.cell? ⟨g, j * 2 + 1, none⟩ = some (.string (mt (kk + 1))) := (HB6.out.cell (lt_of_cell HC1.out)).trans HC1.out
      obtain ⟨k1, hk1e⟩ : ∃ x, x = kk + 1 := ⟨_, rfl⟩
      have hcast : (kk : Int) + 1 = (k1 : Int) := by omega
      rw [← hk1e] at kc
      rw [hcast]
      have HK1 := hid hk1e
      clear hcast hk1e HB5 hk1 hk2
      have hk1 : 1 ≤ k1 := by have := HK1.out; omega
      have hk2 : k1 ≤ 4398046511104 := by have := HK1.out; have := HKK.out; omega
      clear HB HC1
      generalize w5 = wx at *
      generalize hkkx : kk = kk0 at *
      obtain ⟨kk, hkk⟩ : ∃ x, x = k1 := ⟨_, rfl⟩
      subst hkk
      refine wp_region_any (by kernel_rfl) ?_
      change wpAny _ _ _ _ _ _ _ (World.drew _)
      have SX : wx.drew.cell? ⟨g, j * 2 + 1, none⟩ = some (.string (mt kk)) := kc
      refine wpAny_of_T (S := fun X => X.cell? ⟨g, j * 2 + 1, none⟩ = some (.string (mt kk))) (m := 8) _ _ _ _ ?_
      refine wpAnyT_take (i := 0) (v := .slice (some ⟨g, 0, none⟩) n cap) rfl (by kernel_rfl) (by kernel_rfl) (by kernel_rfl) (by kernel_rfl) (fun _ _ _ h => h) (Or.inl ⟨by kernel_rfl, fun X hS => by clear hS; go_simp⟩) SX ?_
      try go_simp
      refine wpAnyT_take (i := 1) (v := .int .i64 j) rfl (by kernel_rfl) (by kernel_rfl) (by kernel_rfl) (by kernel_rfl) (fun _ _ _ h => h) (Or.inl ⟨by kernel_rfl, fun X hS => by clear hS; go_simp⟩) SX ?_
      try go_simp
      refine wpAnyT_take (i := 2) (v := .pointer (some ⟨g, j * 2, none⟩)) rfl (by kernel_rfl) (by kernel_rfl) (by kernel_rfl) (by kernel_rfl) (fun _ _ _ h => h) (Or.inl ⟨by kernel_rfl, fun X hS => by clear hS; go_simp⟩) SX ?_
      try go_simp
      refine wpAnyT_take (i := 3) (v := .pointer (some ⟨g, j * 2 + 1, none⟩)) rfl (by kernel_rfl) (by kernel_rfl) (by kernel_rfl) (by kernel_rfl) (fun _ _ _ h => h) (Or.inl ⟨by kernel_rfl, fun X hS => by clear hS; go_simp⟩) SX ?_
      try go_simp
      refine wpAnyT_take (i := 4) (v := .string (mt kk)) rfl (by kernel_rfl) (by kernel_rfl) (by kernel_rfl) (by kernel_rfl) (fun _ _ _ h => h) (Or.inl ⟨by kernel_rfl, fun X hS => by go_simp⟩) SX ?_
      try go_simp
      refine wpAnyT_take (i := 5) (v := .int .i64 kk) rfl (by kernel_rfl) (by kernel_rfl) (by kernel_rfl) (by kernel_rfl) (fun _ _ _ h => h) (Or.inl ⟨by kernel_rfl, fun X hS => by clear hS; go_simp⟩) SX ?_
      try go_simp
      refine wpAnyT_one 6 rfl (by kernel_rfl) (fun K hK => ?_)
      go_simp
      refine (markText_any kk wx.drew hk1 hk2).mono ?_
      rintro e w5 ⟨rfl, hb⟩
      have HB5 : Hid (Below wx.heap.size wx w5) := (below_drew1 (Below.refl _ wx)).trans hb
      have SX5 : w5.cell? ⟨g, j * 2 + 1, none⟩ = some (.string (mt kk)) := (hb.cell (lt_of_cell kc)).trans kc
      clear hb
      refine hK _ _ (fun _ => SX5) ?_
      clear hK K
      clear SX
      refine wpAnyT_take (i := 7) (v := .bool false) rfl (by kernel_rfl) (by kernel_rfl) (by kernel_rfl) (by kernel_rfl) (fun _ _ _ h => h) (Or.inl ⟨by kernel_rfl, fun X hS => by clear hS; go_simp⟩) SX5 ?_
      try go_simp
      refine wpAnyT_drop _ 8 _ _ _ (by decide) (by kernel_rfl) ?_
      change wpList _ _ _ [] _ _
      clear SX5 kc
      go_wp2_with fail
      have HB7 : Hid (Below w.heap.size w w5) := HB6.out.trans (HB5.out.mono HB6.out.size)
      go_roundg (n - (j + 1))
      case measure => omega
      case rel => exact ⟨j + 1, by omega, by omega, by go_num, Marks.vint (by have := HK1.out; have := HKK.out; omega), HB7.out⟩
    · have hke : j = n := by omega
      subst hke
      have HKK := hid hkk
      clear hkk
      go_wp2
      go_ret
      exact ⟨by rw [← HKK.out]; rfl, HB.out⟩
theorem held_v (v : Value) (n k : Nat) (w : World) (hk0 : 1 ≤ k) (hk : k ≤ 1099511627776) (hn : n ≤ 1099511627776) (h : HM w v n k) :
    Calls Try.prog 9 #[v, .int .i64 k] w fun e w' => e = .returned (.int .i64 ((k + n * 2 : Nat) : Int)) ∧ Below w.heap.size w w' := by
  rcases h with ⟨rfl, a, cap, rfl⟩ | ⟨g, cap, cs, rfl, hm⟩
  · exact (held_zero a cap k w).mono (by rintro e w' ⟨rfl, rfl⟩; exact ⟨by simp, Below.refl _ _⟩)
  · exact held_row g cap n k cs w hk0 hk hn hm
end BMk
end Go.Proofs.Ytlhildfiddphcaa
