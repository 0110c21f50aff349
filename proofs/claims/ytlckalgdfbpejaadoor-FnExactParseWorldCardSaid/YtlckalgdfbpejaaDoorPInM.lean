/- The laws' marks in an instance. Conditions: those typed. -/
import Derived.Test.YtlckalgdfbpejaaDoorMarks
import Derived.Test.YtlckalgdfbpejaaDoorPInS
import Derived.Test.YtlckalgdfbpejaaDoorReg2
set_option linter.unusedVariables false
set_option linter.unusedSimpArgs false
set_option maxRecDepth 100000
namespace Go.Proofs.YtlckalgdfbpejaaDoor
open Go.RowKit ListS PIn Classes
namespace PInM
/-- the slice v holds n marked pairs, from k on -/
def HM (w : World) (v : Value) (n k : Nat) : Prop := (n = 0 ∧ ∃ a cap, v = .slice a 0 cap) ∨ ∃ g cap cs, v = .slice (some ⟨g, 0, none⟩) n cap ∧ Marks.MC w g 36 cs n k
theorem HM.below {w w' : World} {v : Value} {n k : Nat} (h : HM w v n k) (hb : Below w.heap.size w w') : HM w' v n k := by
  rcases h with h | ⟨g, cap, cs, h1, h2⟩
  · exact .inl h
  · exact .inr ⟨g, cap, cs, h1, h2.below hb⟩
def MkPost (w : World) (v : Value) (n k : Nat) (e : Ending) (w' : World) : Prop := e = .returned (.int .i64 ((k + n * 2 : Nat) : Int)) ∧ HM w' v n k ∧ w.grownBy w' v.ownBlock
theorem mark_zero (a : Option Addr) (cap k : Nat) (w : World) : Calls Tryd.prog 51 #[.slice a 0 cap, .int .i64 k] w fun e w' => e = .returned (.int .i64 (k : Int)) ∧ w = w' := by
  go_enter Tryd.func51, Tryd.ntmps51
  go_wp2
  go_loop [1, 5] (fun m i => m = .int .i64 k ∧ i = .int .i64 0) (fun _ _ => 0)
  case atStart => exact ⟨rfl, rfl⟩
  case round =>
    obtain ⟨rfl, rfl⟩ := hrel
    go_wp2
    go_ret
    exact ⟨rfl, rfl⟩
theorem held_zero (a : Option Addr) (cap k : Nat) (w : World) : Calls Tryd.prog 52 #[.slice a 0 cap, .int .i64 k] w fun e w' => e = .returned (.int .i64 (k : Int)) ∧ w = w' := by
  go_enter Tryd.func52, Tryd.ntmps52
  go_wp2
  go_loop [1, 5] (fun m i => m = .int .i64 k ∧ i = .int .i64 0) (fun _ _ => 0)
  case atStart => exact ⟨rfl, rfl⟩
  case round =>
    obtain ⟨rfl, rfl⟩ := hrel
    go_wp2
    go_ret
    exact ⟨rfl, rfl⟩
theorem mark_v (v : Value) (xs : List BB) (k : Nat) (w : World) (b : Nat) (hk0 : 1 ≤ k) (hk : k ≤ 1099511627776) (hn : xs.length ≤ 1099511627776) (ho : w.ownsRow b 36 2 v xs.length (flat xs)) :
    Calls Tryd.prog 51 #[v, .int .i64 k] w (MkPost w v xs.length k) := by
  rcases ho.2 with ⟨rfl, h0⟩ | ⟨g, cap, cur, rfl, hb, hg, h1, -, h2, -⟩
  · rw [h0]
    exact (mark_zero none 0 k w).mono (by rintro e w' ⟨rfl, rfl⟩; exact ⟨by simp, .inl ⟨rfl, _, _, rfl⟩, World.grownBy.refl _ _⟩)
  · refine (Marks.markNeedS_any g cap xs.length k cur w hk0 hk hn hg ?_).mono ?_
    · exact Nat.le_trans (Nat.mul_le_mul_right 2 h1) (by have := h2; omega)
    · rintro e w' ⟨rfl, hm, hr⟩
      exact ⟨rfl, .inr ⟨g, cap, cur, rfl, hm⟩, by simpa [Value.ownBlock] using hr⟩
set_option maxHeartbeats 8000000 in
theorem held_row (g cap n k : Nat) (cs : Array Value) (w : World) (hk0 : 1 ≤ k) (hk : k ≤ 1099511627776) (hn : n ≤ 1099511627776) (hm : Marks.MC w g 36 cs n k) :
    Calls Tryd.prog 52 #[.slice (some ⟨g, 0, none⟩) n cap, .int .i64 k] w fun e w' => e = .returned (.int .i64 ((k + n * 2 : Nat) : Int)) ∧ Below w.heap.size w w' := by
  have HMM := hid hm
  clear hm
  go_enter Tryd.func52, Tryd.ntmps52
  go_wp2_with fail
  go_loopg [1, 5] n (fun q m i wr => ∃ j : Nat, j ≤ n ∧ n - j ≤ q ∧ i = .int .i64 j ∧ m = .int .i64 ((k + j * 2 : Nat) : Int) ∧ Below w.heap.size w wr)
  case atStart => exact ⟨0, Nat.zero_le _, by simp, rfl, rfl, Below.refl _ _⟩
  case round =>
    obtain ⟨j, hj, hq, rfl, rfl, hb⟩ := hrel
    have HB := hid hb
    clear hb
    obtain ⟨kk, hkk⟩ : ∃ kk, kk = k + j * 2 := ⟨_, rfl⟩
    rw [← hkk]
    by_cases hlt : j < n
    · obtain ⟨c', h1, -, h3, -⟩ := HMM.out
      obtain ⟨q1, q2⟩ := h3 j hlt
      rw [← hkk] at q1 q2
      have hc0 : w.cell? ⟨g, j * 2, none⟩ = some (.string (mt kk)) := (heap_cell h1 _).trans q1
      have hc1 : w.cell? ⟨g, j * 2 + 1, none⟩ = some (.string (mt (kk + 1))) := (heap_cell h1 _).trans q2
      have kc : wr.cell? ⟨g, j * 2, none⟩ = some (.string (mt kk)) := (HB.out.cell (lt_of_cell hc0)).trans hc0
      have HC1 := hid hc1
      have hk1 : 1 ≤ kk := by omega
      have hk2 : kk ≤ 4398046511104 := by omega
      have HKK := hid hkk
      obtain ⟨wx, hwx⟩ : ∃ x, x = wr := ⟨_, rfl⟩
      subst hwx
      clear h1 h3 q1 q2 hc0 hc1 hkk
      go_wp2_with fail
      refine wp_region_any (by kernel_rfl) ?_
      change wpAny _ _ _ _ _ _ _ (World.drew _)
      have SX : wx.drew.cell? ⟨g, j * 2, none⟩ = some (.string (mt kk)) := kc
      refine wpAny_of_T (S := fun X => X.cell? ⟨g, j * 2, none⟩ = some (.string (mt kk))) (m := 8) _ _ _ _ ?_
      refine wpAnyT_take (i := 0) (v := .slice (some ⟨g, 0, none⟩) n cap) rfl (by kernel_rfl) (by kernel_rfl) (by kernel_rfl) (by kernel_rfl) (fun _ _ _ h => h) (Or.inl ⟨by kernel_rfl, fun X hS => by clear hS; go_simp⟩) SX ?_
      try go_simp
      refine wpAnyT_take (i := 1) (v := .int .i64 j) rfl (by kernel_rfl) (by kernel_rfl) (by kernel_rfl) (by kernel_rfl) (fun _ _ _ h => h) (Or.inl ⟨by kernel_rfl, fun X hS => by clear hS; go_simp⟩) SX ?_
      try go_simp
      refine wpAnyT_take (i := 2) (v := .pointer (some ⟨g, j * 2, none⟩)) rfl (by kernel_rfl) (by kernel_rfl) (by kernel_rfl) (by kernel_rfl) (fun _ _ _ h => h) (Or.inl ⟨by kernel_rfl, fun X hS => by clear hS; go_simp⟩) SX ?_
      try go_simp
      refine wpAnyT_take (i := 3) (v := .pointer (some ⟨g, j * 2, none⟩)) rfl (by kernel_rfl) (by kernel_rfl) (by kernel_rfl) (by kernel_rfl) (fun _ _ _ h => h) (Or.inl ⟨by kernel_rfl, fun X hS => by clear hS; go_simp⟩) SX ?_
      try go_simp
      refine wpAnyT_take (i := 4) (v := .string (mt kk)) rfl (by kernel_rfl) (by kernel_rfl) (by kernel_rfl) (by kernel_rfl) (fun _ _ _ h => h) (Or.inl ⟨by kernel_rfl, fun X hS => by go_simp⟩) SX ?_
      try go_simp
      refine wpAnyT_take (i := 5) (v := .int .i64 kk) rfl (by kernel_rfl) (by kernel_rfl) (by kernel_rfl) (by kernel_rfl) (fun _ _ _ h => h) (Or.inl ⟨by kernel_rfl, fun X hS => by clear hS; go_simp⟩) SX ?_
      try go_simp
      refine wpAnyT_one 6 rfl (by kernel_rfl) (fun K hK => ?_)
      go_simp
      refine (markText_any kk wx.drew hk1 hk2).mono ?_
      rintro e w5 ⟨rfl, hb⟩
      have HB5 : Hid (Below wx.heap.size wx w5) := (below_drew1 (Below.refl _ wx)).trans hb
      have SX5 : w5.cell? ⟨g, j * 2, none⟩ = some (.string (mt kk)) := (hb.cell (lt_of_cell kc)).trans kc
      clear hb
      refine hK _ _ (fun _ => SX5) ?_
      clear hK K
      clear SX
      refine wpAnyT_take (i := 7) (v := .bool false) rfl (by kernel_rfl) (by kernel_rfl) (by kernel_rfl) (by kernel_rfl) (fun _ _ _ h => h) (Or.inl ⟨by kernel_rfl, fun X hS => by clear hS; go_simp⟩) SX5 ?_
      try go_simp
      refine wpAnyT_drop _ 8 _ _ _ (by decide) (by kernel_rfl) ?_
      change wpList _ _ _ [] _ _
      clear SX5 kc
      go_wp2_with fail
      have HB6 : Hid (Below w.heap.size w w5) := HB.out.trans (HB5.out.mono HB.out.size)
      have kc : w5.cell? ⟨g, j * 2 + 1, none⟩ = some (.string (mt (kk + 1))) := (HB6.out.cell (lt_of_cell HC1.out)).trans HC1.out
      obtain ⟨k1, hk1e⟩ : ∃ x, x = kk + 1 := ⟨_, rfl⟩
      have hcast : (kk : Int) + 1 = (k1 : Int) := by omega
      rw [← hk1e] at kc
      rw [hcast]
      have HK1 := hid hk1e
      clear hcast hk1e HB5 hk1 hk2
      have hk1 : 1 ≤ k1 := by have := HK1.out; omega
      have hk2 : k1 ≤ 4398046511104 := by have := HK1.out; have := HKK.out; omega
      clear HB HC1
      generalize w5 = wx at *
      generalize hkkx : kk = kk0 at *
      obtain ⟨kk, hkk⟩ : ∃ x, x = k1 := ⟨_, rfl⟩
      subst hkk
      refine wp_region_any (by kernel_rfl) ?_
      change wpAny _ _ _ _ _ _ _ (World.drew _)
      have SX : wx.drew.cell? ⟨g, j * 2 + 1, none⟩ = some (.string (mt kk)) := kc
      refine wpAny_of_T (S := fun X => X.cell? ⟨g, j * 2 + 1, none⟩ = some (.string (mt kk))) (m := 8) _ _ _ _ ?_
      refine wpAnyT_take (i := 0) (v := .slice (some ⟨g, 0, none⟩) n cap) rfl (by kernel_rfl) (by kernel_rfl) (by kernel_rfl) (by kernel_rfl) (fun _ _ _ h => h) (Or.inl ⟨by kernel_rfl, fun X hS => by clear hS; go_simp⟩) SX ?_
      try go_simp
      refine wpAnyT_take (i := 1) (v := .int .i64 j) rfl (by kernel_rfl) (by kernel_rfl) (by kernel_rfl) (by kernel_rfl) (fun _ _ _ h => h) (Or.inl ⟨by kernel_rfl, fun X hS => by clear hS; go_simp⟩) SX ?_
      try go_simp
      refine wpAnyT_take (i := 2) (v := .pointer (some ⟨g, j * 2, none⟩)) rfl (by kernel_rfl) (by kernel_rfl) (by kernel_rfl) (by kernel_rfl) (fun _ _ _ h => h) (Or.inl ⟨by kernel_rfl, fun X hS => by clear hS; go_simp⟩) SX ?_
      try go_simp
      refine wpAnyT_take (i := 3) (v := .pointer (some ⟨g, j * 2 + 1, none⟩)) rfl (by kernel_rfl) (by kernel_rfl) (by kernel_rfl) (by kernel_rfl) (fun _ _ _ h => h) (Or.inl ⟨by kernel_rfl, fun X hS => by clear hS; go_simp⟩) SX ?_
      try go_simp
      refine wpAnyT_take (i := 4) (v := .string (mt kk)) rfl (by kernel_rfl) (by kernel_rfl) (by kernel_rfl) (by kernel_rfl) (fun _ _ _ h => h) (Or.inl ⟨by kernel_rfl, fun X hS => by go_simp⟩) SX ?_
      try go_simp
      refine wpAnyT_take (i := 5) (v := .int .i64 kk) rfl (by kernel_rfl) (by kernel_rfl) (by kernel_rfl) (by kernel_rfl) (fun _ _ _ h => h) (Or.inl ⟨by kernel_rfl, fun X hS => by clear hS; go_simp⟩) SX ?_
      try go_simp
      refine wpAnyT_one 6 rfl (by kernel_rfl) (fun K hK => ?_)
      go_simp
      refine (markText_any kk wx.drew hk1 hk2).mono ?_
      rintro e w5 ⟨rfl, hb⟩
      have HB5 : Hid (Below wx.heap.size wx w5) := (below_drew1 (Below.refl _ wx)).trans hb
      have SX5 : w5.cell? ⟨g, j * 2 + 1, none⟩ = some (.string (mt kk)) := (hb.cell (lt_of_cell kc)).trans kc
      clear hb
      refine hK _ _ (fun _ => SX5) ?_
      clear hK K
      clear SX
      refine wpAnyT_take (i := 7) (v := .bool false) rfl (by kernel_rfl) (by kernel_rfl) (by kernel_rfl) (by kernel_rfl) (fun _ _ _ h => h) (Or.inl ⟨by kernel_rfl, fun X hS => by clear hS; go_simp⟩) SX5 ?_
      try go_simp
      refine wpAnyT_drop _ 8 _ _ _ (by decide) (by kernel_rfl) ?_
      change wpList _ _ _ [] _ _
      clear SX5 kc
      go_wp2_with fail
      have HB7 : Hid (Below w.heap.size w w5) := HB6.out.trans (HB5.out.mono HB6.out.size)
      go_roundg (n - (j + 1))
      case measure => omega
      case rel => exact ⟨j + 1, by omega, by omega, by go_num, Marks.vint (by have := HK1.out; have := HKK.out; omega), HB7.out⟩
    · have hke : j = n := by omega
      subst hke
      have HKK := hid hkk
      clear hkk
      go_wp2
      go_ret
      exact ⟨by rw [← HKK.out]; rfl, HB.out⟩
theorem held_v (v : Value) (n k : Nat) (w : World) (hk0 : 1 ≤ k) (hk : k ≤ 1099511627776) (hn : n ≤ 1099511627776) (h : HM w v n k) :
    Calls Tryd.prog 52 #[v, .int .i64 k] w fun e w' => e = .returned (.int .i64 ((k + n * 2 : Nat) : Int)) ∧ Below w.heap.size w w' := by
  rcases h with ⟨rfl, a, cap, rfl⟩ | ⟨g, cap, cs, rfl, hm⟩
  · exact (held_zero a cap k w).mono (by rintro e w' ⟨rfl, rfl⟩; exact ⟨by simp, Below.refl _ _⟩)
  · exact held_row g cap n k cs w hk0 hk hn hm
end PInM
end Go.Proofs.YtlckalgdfbpejaaDoor
