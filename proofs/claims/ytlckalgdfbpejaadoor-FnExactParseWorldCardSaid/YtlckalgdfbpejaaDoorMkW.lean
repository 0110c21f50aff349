/- The laws' marks in a list of classes. Conditions: those typed. -/
import Derived.Test.YtlckalgdfbpejaaDoorMarks
import Derived.Test.YtlckalgdfbpejaaDoorPInS
import Derived.Test.YtlckalgdfbpejaaDoorReg2
import Derived.Test.YtlckalgdfbpejaaDoorPInM
import Derived.Test.YtlckalgdfbpejaaDoorPWoI
set_option linter.unusedVariables false
set_option linter.unusedSimpArgs false
set_option maxRecDepth 100000
namespace Go.Proofs.YtlckalgdfbpejaaDoor
open Go.RowKit ListS PIn Classes
namespace PCM
/-- the slice v holds n marked pairs, from k on -/
def HM (w : World) (v : Value) (n k : Nat) : Prop := (n = 0 ∧ ∃ a cap, v = .slice a 0 cap) ∨ ∃ g cap cs, v = .slice (some ⟨g, 0, none⟩) n cap ∧ Marks.MC w g 80 cs n k
theorem HM.below {w w' : World} {v : Value} {n k : Nat} (h : HM w v n k) (hb : Below w.heap.size w w') : HM w' v n k := by
  rcases h with h | ⟨g, cap, cs, h1, h2⟩
  · exact .inl h
  · exact .inr ⟨g, cap, cs, h1, h2.below hb⟩
def MkPost (w : World) (v : Value) (n k : Nat) (e : Ending) (w' : World) : Prop := e = .returned (.int .i64 ((k + n * 2 : Nat) : Int)) ∧ HM w' v n k ∧ w.grownBy w' v.ownBlock
theorem mark_zero (a : Option Addr) (cap k : Nat) (w : World) : Calls Tryd.prog 58 #[.slice a 0 cap, .int .i64 k] w fun e w' => e = .returned (.int .i64 (k : Int)) ∧ w = w' := by
  go_enter Tryd.func58, Tryd.ntmps58
  go_wp2
  go_loop [1, 5] (fun m i => m = .int .i64 k ∧ i = .int .i64 0) (fun _ _ => 0)
  case atStart => exact ⟨rfl, rfl⟩
  case round =>
    obtain ⟨rfl, rfl⟩ := hrel
    go_wp2
    go_ret
    exact ⟨rfl, rfl⟩
theorem held_zero (a : Option Addr) (cap k : Nat) (w : World) : Calls Tryd.prog 60 #[.slice a 0 cap, .int .i64 k] w fun e w' => e = .returned (.int .i64 (k : Int)) ∧ w = w' := by
  go_enter Tryd.func60, Tryd.ntmps60
  go_wp2
  go_loop [1, 5] (fun m i => m = .int .i64 k ∧ i = .int .i64 0) (fun _ _ => 0)
  case atStart => exact ⟨rfl, rfl⟩
  case round =>
    obtain ⟨rfl, rfl⟩ := hrel
    go_wp2
    go_ret
    exact ⟨rfl, rfl⟩
theorem mark_v (v : Value) (xs : List BB) (k : Nat) (w : World) (b : Nat) (hk0 : 1 ≤ k) (hk : k ≤ 1099511627776) (hn : xs.length ≤ 1099511627776) (ho : w.ownsRow b 80 2 v xs.length (flat xs)) :
    Calls Tryd.prog 58 #[v, .int .i64 k] w (MkPost w v xs.length k) := by
  rcases ho.2 with ⟨rfl, h0⟩ | ⟨g, cap, cur, rfl, hb, hg, h1, -, h2, -⟩
  · rw [h0]
    exact (mark_zero none 0 k w).mono (by rintro e w' ⟨rfl, rfl⟩; exact ⟨by simp, .inl ⟨rfl, _, _, rfl⟩, World.grownBy.refl _ _⟩)
  · refine (Marks.markClassS_any g cap xs.length k cur w hk0 hk hn hg ?_).mono ?_
    · exact Nat.le_trans (Nat.mul_le_mul_right 2 h1) (by have := h2; omega)
    · rintro e w' ⟨rfl, hm, hr⟩
      exact ⟨rfl, .inr ⟨g, cap, cur, rfl, hm⟩, by simpa [Value.ownBlock] using hr⟩
set_option maxHeartbeats 8000000 in
theorem held_row (g cap n k : Nat) (cs : Array Value) (w : World) (hk0 : 1 ≤ k) (hk : k ≤ 1099511627776) (hn : n ≤ 1099511627776) (hm : Marks.MC w g 80 cs n k) :
    Calls Tryd.prog 60 #[.slice (some ⟨g, 0, none⟩) n cap, .int .i64 k] w fun e w' => e = .returned (.int .i64 ((k + n * 2 : Nat) : Int)) ∧ Below w.heap.size w w' := by
  have HMM := hid hm
  clear hm
  go_enter Tryd.func60, Tryd.ntmps60
  go_wp2_with fail
  go_loopg [1, 5] n (fun q m i wr => ∃ j : Nat, j ≤ n ∧ n - j ≤ q ∧ i = .int .i64 j ∧ m = .int .i64 ((k + j * 2 : Nat) : Int) ∧ Below w.heap.size w wr)
  case atStart => exact ⟨0, Nat.zero_le _, by simp, rfl, rfl, Below.refl _ _⟩
  case round =>
    obtain ⟨j, hj, hq, rfl, rfl, hb⟩ := hrel
    have HB := hid hb
    clear hb
    obtain ⟨kk, hkk⟩ : ∃ kk, kk = k + j * 2 := ⟨_, rfl⟩
    rw [← hkk]
    by_cases hlt : j < n
    · obtain ⟨c', h1, -, h3, -⟩ := HMM.out
      obtain ⟨q1, q2⟩ := h3 j hlt
      rw [← hkk] at q1 q2
      have hc0 : w.cell? ⟨g, j * 2, none⟩ = some (.string (mt kk)) := (heap_cell h1 _).trans q1
      have hc1 : w.cell? ⟨g, j * 2 + 1, none⟩ = some (.string (mt (kk + 1))) := (heap_cell h1 _).trans q2
      have kc : wr.cell? ⟨g, j * 2, none⟩ = some (.string (mt kk)) := (HB.out.cell (lt_of_cell hc0)).trans hc0
      have HC1 := hid hc1
      have hk1 : 1 ≤ kk := by omega
      have hk2 : kk ≤ 4398046511104 := by omega
      have HKK := hid hkk
      obtain ⟨wx, hwx⟩ : ∃ x, x = wr := ⟨_, rfl⟩
      subst hwx
      clear h1 h3 q1 q2 hc0 hc1 hkk
      go_wp2_with fail
      refine wp_region_any (by kernel_rfl) ?_
      change wpAny _ _ _ _ _ _ _ (World.drew _)
      have SX : wx.drew.cell? ⟨g, j * 2, none⟩ = some (.string (mt kk)) := kc
      refine wpAny_of_T (S := fun X => X.cell? ⟨g, j * 2, none⟩ = some (.string (mt kk))) (m := 8) _ _ _ _ ?_
      refine wpAnyT_take (i := 0) (v := .slice (some ⟨g, 0, none⟩) n cap) rfl (by kernel_rfl) (by kernel_rfl) (by kernel_rfl) (by kernel_rfl) (fun _ _ _ h => h) (Or.inl ⟨by kernel_rfl, fun X hS => by clear hS; go_simp⟩) SX ?_
      try go_simp
      refine wpAnyT_take (i := 1) (v := .int .i64 j) rfl (by kernel_rfl) (by kernel_rfl) (by kernel_rfl) (by kernel_rfl) (fun _ _ _ h => h) (Or.inl ⟨by kernel_rfl, fun X hS => by clear hS; go_simp⟩) SX ?_
      try go_simp
      refine wpAnyT_take (i := 2) (v := .pointer (some ⟨g, j * 2, none⟩)) rfl (by kernel_rfl) (by kernel_rfl) (by kernel_rfl) (by kernel_rfl) (fun _ _ _ h => h) (Or.inl ⟨by kernel_rfl, fun X hS => by clear hS; go_simp⟩) SX ?_
      try go_simp
      refine wpAnyT_take (i := 3) (v := .pointer (some ⟨g, j * 2, none⟩)) rfl (by kernel_rfl) (by kernel_rfl) (by kernel_rfl) (by kernel_rfl) (fun _ _ _ h => h) (Or.inl ⟨by kernel_rfl, fun X hS => by clear hS; go_simp⟩) SX ?_
      try go_simp
      refine wpAnyT_take (i := 4) (v := .string (mt kk)) rfl (by kernel_rfl) (by kernel_rfl) (by kernel_rfl) (by kernel_rfl) (fun _ _ _ h => h) (Or.inl ⟨by kernel_rfl, fun X hS => by go_simp⟩) SX ?_
      try go_simp
      refine wpAnyT_take (i := 5) (v := .int .i64 kk) rfl (by kernel_rfl) (by kernel_rfl) (by kernel_rfl) (by kernel_rfl) (fun _ _ _ h => h) (Or.inl ⟨by kernel_rfl, fun X hS => by clear hS; go_simp⟩) SX ?_
      try go_simp
      refine wpAnyT_one 6 rfl (by kernel_rfl) (fun K hK => ?_)
      go_simp
      refine (markText_any kk wx.drew hk1 hk2).mono ?_
      rintro e w5 ⟨rfl, hb⟩
      have HB5 : Hid (Below wx.heap.size wx w5) := (below_drew1 (Below.refl _ wx)).trans hb
      have SX5 : w5.cell? ⟨g, j * 2, none⟩ = some (.string (mt kk)) := (hb.cell (lt_of_cell kc)).trans kc
      clear hb
      refine hK _ _ (fun _ => SX5) ?_
      clear hK K
      clear SX
      refine wpAnyT_take (i := 7) (v := .bool false) rfl (by kernel_rfl) (by kernel_rfl) (by kernel_rfl) (by kernel_rfl) (fun _ _ _ h => h) (Or.inl ⟨by kernel_rfl, fun X hS => by clear hS; go_simp⟩) SX5 ?_
      try go_simp
      refine wpAnyT_drop _ 8 _ _ _ (by decide) (by kernel_rfl) ?_
      change wpList _ _ _ [] _ _
      clear SX5 kc
      go_wp2_with fail
      have HB6 : Hid (Below w.heap.size w w5) := HB.out.trans (HB5.out.mono HB.out.size)
      have kc : w5.cell? ⟨g, j * 2 + 1, none⟩ = some (.string (mt (kk + 1))) := (HB6.out.cell (lt_of_cell HC1.out)).trans HC1.out
      obtain ⟨k1, hk1e⟩ : ∃ x, x = kk + 1 := ⟨_, rfl⟩
      have hcast : (kk : Int) + 1 = (k1 : Int) := by omega
      rw [← hk1e] at kc
      rw [hcast]
      have HK1 := hid hk1e
      clear hcast hk1e HB5 hk1 hk2
      have hk1 : 1 ≤ k1 := by have := HK1.out; omega
      have hk2 : k1 ≤ 4398046511104 := by have := HK1.out; have := HKK.out; omega
      clear HB HC1
      generalize w5 = wx at *
      generalize hkkx : kk = kk0 at *
      obtain ⟨kk, hkk⟩ : ∃ x, x = k1 := ⟨_, rfl⟩
      subst hkk
      refine wp_region_any (by kernel_rfl) ?_
      change wpAny _ _ _ _ _ _ _ (World.drew _)
      have SX : wx.drew.cell? ⟨g, j * 2 + 1, none⟩ = some (.string (mt kk)) := kc
      refine wpAny_of_T (S := fun X => X.cell? ⟨g, j * 2 + 1, none⟩ = some (.string (mt kk))) (m := 8) _ _ _ _ ?_
      refine wpAnyT_take (i := 0) (v := .slice (some ⟨g, 0, none⟩) n cap) rfl (by kernel_rfl) (by kernel_rfl) (by kernel_rfl) (by kernel_rfl) (fun _ _ _ h => h) (Or.inl ⟨by kernel_rfl, fun X hS => by clear hS; go_simp⟩) SX ?_
      try go_simp
      refine wpAnyT_take (i := 1) (v := .int .i64 j) rfl (by kernel_rfl) (by kernel_rfl) (by kernel_rfl) (by kernel_rfl) (fun _ _ _ h => h) (Or.inl ⟨by kernel_rfl, fun X hS => by clear hS; go_simp⟩) SX ?_
      try go_simp
      refine wpAnyT_take (i := 2) (v := .pointer (some ⟨g, j * 2, none⟩)) rfl (by kernel_rfl) (by kernel_rfl) (by kernel_rfl) (by kernel_rfl) (fun _ _ _ h => h) (Or.inl ⟨by kernel_rfl, fun X hS => by clear hS; go_simp⟩) SX ?_
      try go_simp
      refine wpAnyT_take (i := 3) (v := .pointer (some ⟨g, j * 2 + 1, none⟩)) rfl (by kernel_rfl) (by kernel_rfl) (by kernel_rfl) (by kernel_rfl) (fun _ _ _ h => h) (Or.inl ⟨by kernel_rfl, fun X hS => by clear hS; go_simp⟩) SX ?_
      try go_simp
      refine wpAnyT_take (i := 4) (v := .string (mt kk)) rfl (by kernel_rfl) (by kernel_rfl) (by kernel_rfl) (by kernel_rfl) (fun _ _ _ h => h) (Or.inl ⟨by kernel_rfl, fun X hS => by go_simp⟩) SX ?_
      try go_simp
      refine wpAnyT_take (i := 5) (v := .int .i64 kk) rfl (by kernel_rfl) (by kernel_rfl) (by kernel_rfl) (by kernel_rfl) (fun _ _ _ h => h) (Or.inl ⟨by kernel_rfl, fun X hS => by clear hS; go_simp⟩) SX ?_
      try go_simp
      refine wpAnyT_one 6 rfl (by kernel_rfl) (fun K hK => ?_)
      go_simp
      refine (markText_any kk wx.drew hk1 hk2).mono ?_
      rintro e w5 ⟨rfl, hb⟩
      have HB5 : Hid (Below wx.heap.size wx w5) := (below_drew1 (Below.refl _ wx)).trans hb
      have SX5 : w5.cell? ⟨g, j * 2 + 1, none⟩ = some (.string (mt kk)) := (hb.cell (lt_of_cell kc)).trans kc
      clear hb
      refine hK _ _ (fun _ => SX5) ?_
      clear hK K
      clear SX
      refine wpAnyT_take (i := 7) (v := .bool false) rfl (by kernel_rfl) (by kernel_rfl) (by kernel_rfl) (by kernel_rfl) (fun _ _ _ h => h) (Or.inl ⟨by kernel_rfl, fun X hS => by clear hS; go_simp⟩) SX5 ?_
      try go_simp
      refine wpAnyT_drop _ 8 _ _ _ (by decide) (by kernel_rfl) ?_
      change wpList _ _ _ [] _ _
      clear SX5 kc
      go_wp2_with fail
      have HB7 : Hid (Below w.heap.size w w5) := HB6.out.trans (HB5.out.mono HB6.out.size)
      go_roundg (n - (j + 1))
      case measure => omega
      case rel => exact ⟨j + 1, by omega, by omega, by go_num, Marks.vint (by have := HK1.out; have := HKK.out; omega), HB7.out⟩
    · have hke : j = n := by omega
      subst hke
      have HKK := hid hkk
      clear hkk
      go_wp2
      go_ret
      exact ⟨by rw [← HKK.out]; rfl, HB.out⟩
theorem held_v (v : Value) (n k : Nat) (w : World) (hk0 : 1 ≤ k) (hk : k ≤ 1099511627776) (hn : n ≤ 1099511627776) (h : HM w v n k) :
    Calls Tryd.prog 60 #[v, .int .i64 k] w fun e w' => e = .returned (.int .i64 ((k + n * 2 : Nat) : Int)) ∧ Below w.heap.size w w' := by
  rcases h with ⟨rfl, a, cap, rfl⟩ | ⟨g, cap, cs, rfl, hm⟩
  · exact (held_zero a cap k w).mono (by rintro e w' ⟨rfl, rfl⟩; exact ⟨by simp, Below.refl _ _⟩)
  · exact held_row g cap n k cs w hk0 hk hn hm
end PCM
end Go.Proofs.YtlckalgdfbpejaaDoor
set_option linter.unusedVariables false
set_option linter.unusedSimpArgs false
set_option maxRecDepth 100000
namespace Go.Proofs.YtlckalgdfbpejaaDoor
open Go.RowKit ListS PIn Classes IRow PWo
namespace MkW
abbrev lens (is : List II) : List Nat := is.map fun p => p.2.2.length
/-- as it was, but for blocks of needs and of instances from lo to hi -/
structure Tou (lo hi : Nat) (w w' : World) : Prop where
  os : w'.os = w.os
  tape : w'.tape = w.tape
  output : w'.output = w.output
  size : w.heap.size ≤ w'.heap.size
  block : ∀ k, k < w.heap.size → (k < lo ∨ hi ≤ k ∨ ∃ cs e fr, w.heap[k]? = some (.cells cs e fr) ∧ e ≠ 36 ∧ e ≠ 39) → w'.heap[k]? = w.heap[k]?
theorem Tou.refl (lo hi : Nat) (w : World) : Tou lo hi w w := ⟨rfl, rfl, rfl, Nat.le_refl _, fun _ _ _ => rfl⟩
theorem Tou.trans {lo hi : Nat} {a b c : World} (h : Tou lo hi a b) (k : Tou lo hi b c) : Tou lo hi a c := by
  refine ⟨k.os.trans h.os, k.tape.trans h.tape, k.output.trans h.output, Nat.le_trans h.size k.size, fun i hi hk => ?_⟩
  have e := h.block i hi hk
  refine (k.block i (Nat.lt_of_lt_of_le hi h.size) ?_).trans e
  rcases hk with hk | hk | hk
  · exact .inl hk
  · exact .inr (.inl hk)
  · exact .inr (.inr (by rw [e]; exact hk))
theorem Tou.below {lo hi : Nat} {w w' : World} (h : Below w.heap.size w w') : Tou lo hi w w' := ⟨h.os, h.tape, h.output, h.size, fun k hk _ => h.block k hk⟩
theorem Tou.grown {lo hi : Nat} {w w' : World} {row : Option Nat} (h : w.grownBy w' row) (h1 : ∀ g, row = some g → lo ≤ g ∧ g < hi ∧ ∃ cs e fr, w.heap[g]? = some (.cells cs e fr) ∧ (e = 36 ∨ e = 39)) : Tou lo hi w w' := by
  refine ⟨h.os, h.tape, h.output, h.size, fun k hk h3 => h.block k hk fun e => ?_⟩
  obtain ⟨q1, q2, cs, e2, fr, q3, q4⟩ := h1 k e.symm
  rcases h3 with h3 | h3 | ⟨cs', e', fr', h3, h4, h5⟩
  · omega
  · omega
  · rw [q3] at h3
    cases h3
    exact q4.elim h4 h5
theorem Tou.toBelow {lo hi B : Nat} {a b c : World} (h : Below B a b) (k : Tou lo hi b c) (hl : B ≤ lo) (hB : B ≤ b.heap.size) : Below B a c :=
  ⟨k.os.trans h.os, k.tape.trans h.tape, k.output.trans h.output, Nat.le_trans h.size k.size, fun i hi => (k.block i (by omega) (.inl (by omega))).trans (h.block i hi)⟩
theorem mk_le (ls : List Nat) (i : Nat) : Marks.mk ls i ≤ Marks.mk ls ls.length := by
  unfold Marks.mk
  rw [List.take_length]
  have h := List.take_append_drop i ls
  generalize ls.take i = a at *
  generalize ls.drop i = b at *
  subst h
  simp
theorem hm_grown {w w' : World} {u : Value} {n k : Nat} {row : Option Nat} (hg : w.grownBy w' row) (h : PInM.HM w u n k) (hne : ∀ g, u.ownBlock = some g → row ≠ some g) : PInM.HM w' u n k := by
  rcases h with h | ⟨g, cap, cs, rfl, cs', h1, h2, h3, h4⟩
  · exact .inl h
  · exact .inr ⟨g, cap, cs, rfl, cs', grown_keep hg h1 (fun e => hne g rfl e.symm), h2, h3, h4⟩
/-- the cells of instances in block g, of which the first j are marked, as are their needs -/
def MS (w : World) (base g k j : Nat) (is : List II) (vs : List Value) : Prop := (∃ cs, w.heap[g]? = some (.cells cs 39 (0, 0)) ∧ is.length * 3 ≤ cs.size ∧ (∀ (i : Nat) (u : Value), vs[i]? = some u → cs[i * 3 + 2]? = some u) ∧ ∀ i, i < j → cs[i * 3]? = some (.string (mt (k + Marks.mk (lens is) i))) ∧ cs[i * 3 + 1]? = some (.string (mt (k + Marks.mk (lens is) i + 1)))) ∧
  (∀ (i : Nat) (p : II) (u : Value), i < j → is[i]? = some p → vs[i]? = some u → PInM.HM w u p.2.2.length (k + Marks.mk (lens is) i + 2)) ∧
  (∀ (i : Nat) (p : II) (u : Value), j ≤ i → is[i]? = some p → vs[i]? = some u → w.ownsRow base 36 2 u p.2.2.length (flat p.2.2))
theorem MS.below {w w' : World} {base g k j : Nat} {is : List II} {vs : List Value} (h : MS w base g k j is vs) (hb : Below w.heap.size w w') : MS w' base g k j is vs := by
  obtain ⟨⟨cs, h1, h2⟩, h3, h4⟩ := h
  exact ⟨⟨cs, below_heap hb (lt_of_heap h1) h1, h2⟩, fun i p u hi hp hu => (h3 i p u hi hp hu).below hb, fun i p u hi hp hu => row_below hb (h4 i p u hi hp hu)⟩
theorem MS.set {w : World} {base g k j : Nat} {is : List II} {vs : List Value} (h : MS w base g k j is vs) (o : Nat) (u : Value) (ho : o % 3 ≠ 2) (hj : j * 3 ≤ o) : MS (w.setCell ⟨g, o, none⟩ u) base g k j is vs := by
  obtain ⟨⟨cs, h1, h2, h5, h6⟩, h3, h4⟩ := h
  refine ⟨⟨_, heap_set h1 o u, by simpa using h2, fun i v hv => ?_, fun i hi => ?_⟩, fun i p v hi hp hv => ?_, fun i p v hi hp hv => PIn.row_set_v (h4 i p v hi hp hv) h1 (by decide) u⟩
  · rw [Array.getElem?_setIfInBounds_ne (by omega)]; exact h5 i v hv
  · obtain ⟨q1, q2⟩ := h6 i hi
    exact ⟨by rw [Array.getElem?_setIfInBounds_ne (by omega)]; exact q1, by rw [Array.getElem?_setIfInBounds_ne (by omega)]; exact q2⟩
  · rcases h3 i p v hi hp hv with q | ⟨g', cap, c0, rfl, c1, q1, q2⟩
    · exact .inl q
    · exact .inr ⟨g', cap, c0, rfl, c1, hb_set_ne q1 _ _ (heap_ne q1 h1 (by decide)), q2⟩
theorem MS.step {w w' : World} {base g k j : Nat} {is : List II} {vs : List Value} (h : MS w base g k j is vs) {p : II} {u : Value} (hp : is[j]? = some p) (hu : vs[j]? = some u) {cs : Array Value} (hc : w.heap[g]? = some (.cells cs 39 (0, 0))) (c0 : cs[j * 3]? = some (.string (mt (k + Marks.mk (lens is) j)))) (c1 : cs[j * 3 + 1]? = some (.string (mt (k + Marks.mk (lens is) j + 1))))
    (hd : ∀ (i j : Nat) (u v : Value) (g : Nat), i ≠ j → vs[i]? = some u → vs[j]? = some v → u.ownBlock = some g → v.ownBlock ≠ some g) (ho : w.ownsRow base 36 2 u p.2.2.length (flat p.2.2)) (hm : PInM.HM w' u p.2.2.length (k + Marks.mk (lens is) j + 2)) (hg : w.grownBy w' u.ownBlock) : MS w' base g k (j + 1) is vs := by
  obtain ⟨⟨cs', h1, h2, h5, h6⟩, h3, h4⟩ := h
  rw [h1] at hc
  cases hc
  refine ⟨⟨_, keep_rowG hg ho h1 (by decide), h2, h5, fun i hi => ?_⟩, fun i q v hi hq hv => ?_, fun i q v hi hq hv => row_grown hg (h4 i q v (by omega) hq hv) fun g2 h7 h8 => hd j i u v g2 (by omega) hu hv h8 h7⟩
  · by_cases e : i = j
    · subst e; exact ⟨c0, c1⟩
    · exact h6 i (by omega)
  · by_cases e : i = j
    · subst e
      rw [hp] at hq; rw [hu] at hv
      cases hq; cases hv
      exact hm
    · exact hm_grown hg (h3 i q v (by omega) hq hv) fun g2 h7 h8 => hd j i u v g2 (fun e2 => e e2.symm) hu hv h8 h7
/-- the slice v holds instances that are marked from k on, with so many needs each -/
def MIR (w : World) (v : Value) (ls : List Nat) (k : Nat) : Prop := (ls = [] ∧ ∃ a cap, v = .slice a 0 cap) ∨ ∃ g cap cs, v = .slice (some ⟨g, 0, none⟩) ls.length cap ∧ w.heap[g]? = some (.cells cs 39 (0, 0)) ∧
  ∀ (i n : Nat), ls[i]? = some n → ∃ a c, cs[i * 3]? = some (.string (mt (k + Marks.mk ls i))) ∧ cs[i * 3 + 1]? = some (.string (mt (k + Marks.mk ls i + 1))) ∧ cs[i * 3 + 2]? = some (.slice a n c) ∧ PInM.HM w (.slice a n c) n (k + Marks.mk ls i + 2)
theorem MIR.below {w w' : World} {v : Value} {ls : List Nat} {k : Nat} (h : MIR w v ls k) (hb : Below w.heap.size w w') : MIR w' v ls k := by
  rcases h with h | ⟨g, cap, cs, h1, h2, h3⟩
  · exact .inl h
  · refine .inr ⟨g, cap, cs, h1, below_heap hb (lt_of_heap h2) h2, fun i n hi => ?_⟩
    obtain ⟨a, c, q1, q2, q3, q4⟩ := h3 i n hi
    exact ⟨a, c, q1, q2, q3, q4.below hb⟩
theorem mark_zero (a : Option Addr) (cap k : Nat) (w : World) : Calls Tryd.prog 59 #[.slice a 0 cap, .int .i64 k] w fun e w' => e = .returned (.int .i64 (k : Int)) ∧ w = w' := by
  go_enter Tryd.func59, Tryd.ntmps59
  go_wp2
  go_loop [1, 5] (fun m i => m = .int .i64 k ∧ i = .int .i64 0) (fun _ _ => 0)
  case atStart => exact ⟨rfl, rfl⟩
  case round =>
    obtain ⟨rfl, rfl⟩ := hrel
    go_wp2
    go_ret
    exact ⟨rfl, rfl⟩
theorem held_zero (a : Option Addr) (cap k : Nat) (w : World) : Calls Tryd.prog 61 #[.slice a 0 cap, .int .i64 k] w fun e w' => e = .returned (.int .i64 (k : Int)) ∧ w = w' := by
  go_enter Tryd.func61, Tryd.ntmps61
  go_wp2
  go_loop [1, 5] (fun m i => m = .int .i64 k ∧ i = .int .i64 0) (fun _ _ => 0)
  case atStart => exact ⟨rfl, rfl⟩
  case round =>
    obtain ⟨rfl, rfl⟩ := hrel
    go_wp2
    go_ret
    exact ⟨rfl, rfl⟩
def MkPost (w : World) (v : Value) (ls : List Nat) (base hi k : Nat) (e : Ending) (w' : World) : Prop := e = .returned (.int .i64 ((k + Marks.mk ls ls.length : Nat) : Int)) ∧ MIR w' v ls k ∧ Tou base hi w w'
set_option maxHeartbeats 8000000 in
theorem mark_row (g cap k base hi : Nat) (is : List II) (vs : List Value) (w : World) (hk0 : 1 ≤ k) (hk : k + Marks.mk (lens is) (lens is).length ≤ 1099511627776) (hll : is.length ≤ 1099511627776) (hgb : base ≤ g) (hgl : g < hi) (hm : MS w base g k 0 is vs) (hr : IRow.Rows w base is vs) (hvs : ∀ u ∈ vs, ∀ g, u.ownBlock = some g → g < hi) :
    Calls Tryd.prog 59 #[.slice (some ⟨g, 0, none⟩) is.length cap, .int .i64 k] w (MkPost w (.slice (some ⟨g, 0, none⟩) is.length cap) (lens is) base hi k) := by
  have HM0 := hid hm
  have HK : Hid (∀ i, k + Marks.mk (lens is) i ≤ 1099511627776) := fun i => by have := mk_le (lens is) i; omega
  have HVL := hid hr.1
  have HDS := hid hr.2.2
  have HOW : Hid (∀ u ∈ vs, ∀ g, u.ownBlock = some g → base ≤ g ∧ g < hi) := fun u hu g hg => ⟨(hr.own hu g hg).1, hvs u hu g hg⟩
  clear hm hr hk hvs
  go_enter Tryd.func59, Tryd.ntmps59
  go_wp2_with fail
  go_loopg [1, 5] is.length (fun q m i wr => ∃ j : Nat, j ≤ is.length ∧ is.length - j ≤ q ∧ i = .int .i64 j ∧ m = .int .i64 ((k + Marks.mk (lens is) j : Nat) : Int) ∧ Hid (MS wr base g k j is vs) ∧ Hid (Tou base hi w wr))
  case atStart => exact ⟨0, Nat.zero_le _, by simp, rfl, by rw [Marks.mk_zero]; rfl, HM0.out, Tou.refl _ _ _⟩
  case round =>
    obtain ⟨j, hj, hq, rfl, rfl, hm, ht⟩ := hrel
    have HM := hid hm.out
    have HT := hid ht.out
    have hkj := HK.out j
    clear hm ht
    by_cases hlt : j < is.length
    · obtain ⟨p, hp⟩ : ∃ p, is[j]? = some p := ⟨_, List.getElem?_eq_getElem hlt⟩
      obtain ⟨u, hu⟩ : ∃ u, vs[j]? = some u := ⟨_, List.getElem?_eq_getElem (by have := HVL.out; omega)⟩
      have hn : (lens is)[j]? = some p.2.2.length := by rw [List.getElem?_map, hp]; rfl
      have HST := hid (Marks.mk_step hn)
      have hkj2 : k + Marks.mk (lens is) j + 2 + p.2.2.length * 2 ≤ 1099511627776 := by have := HST.out; have := HK.out (j + 1); omega
      have HP := hid hp
      have HU := hid hu
      have HRW := hid (HM.out.2.2 j p u (Nat.le_refl _) hp hu)
      obtain ⟨ua, uc, rfl⟩ := row_slice HRW.out
      clear HRW
      obtain ⟨⟨x, y, ns⟩, rfl⟩ : ∃ q, q = p := ⟨_, rfl⟩
      dsimp only at *
      clear hn hp hu
      obtain ⟨kk, hkk⟩ : ∃ kk, kk = k + Marks.mk (lens is) j := ⟨_, rfl⟩
      rw [← hkk] at hkj hkj2
      rw [← hkk]
      have HKK := hid hkk
      have hkk1 : 1 ≤ kk := by omega
      clear hkk
      go_wp2_with fail
      refine (markText_any kk wr hkk1 (by omega)).mono ?_
      rintro e w1 ⟨rfl, hb⟩
      have HM1 := hid (HM.out.below hb)
      have HT1 := hid (HT.out.trans (Tou.below hb))
      clear hb
      obtain ⟨⟨c1, h1, hsz1, -⟩, -⟩ := HM1.out
      have k0 : w1.cell? ⟨g, j * 3, none⟩ = some (c1[j * 3]'(by omega)) := by rw [heap_cell h1, Array.getElem?_eq_getElem (by omega)]
      have f0 := heap_free h1 (j * 3)
      have H1 := hid h1
      generalize c1[j * 3]'_ = u0 at *
      clear h1
      go_wp2_with fail
      have HM2 := hid (HM1.out.set (j * 3) (.string (mt kk)) (by omega) (Nat.le_refl _))
      have HT2 : Hid (Tou base hi w (w1.setCell ⟨g, j * 3, none⟩ (.string (mt kk)))) := HT1.out.trans (Tou.grown (grown_set _ _ _ _) (fun g2 e => by cases e; exact ⟨hgb, hgl, _, _, _, H1.out, .inr rfl⟩))
      have H2 := hid (heap_set H1.out (j * 3) (.string (mt kk)))
      clear k0 f0
      generalize w1.setCell ⟨g, j * 3, none⟩ (.string (mt kk)) = w2 at *
      refine (markText_any (kk + 1) w2 (by omega) (by omega)).mono ?_
      rintro e w3 ⟨rfl, hb⟩
      have HM3 := hid (HM2.out.below hb)
      have HT3 := hid (HT2.out.trans (Tou.below hb))
      have H3 := hid (below_heap hb (lt_of_heap H2.out) H2.out)
      clear hb
      have hsz2 : j * 3 + 2 < (c1.setIfInBounds (j * 3) (.string (mt kk))).size := by simp; omega
      have h3 := H3.out
      have k0 : w3.cell? ⟨g, j * 3 + 1, none⟩ = some ((c1.setIfInBounds (j * 3) (.string (mt kk)))[j * 3 + 1]'(by omega)) := by rw [heap_cell h3, Array.getElem?_eq_getElem (by omega)]
      have f0 := heap_free h3 (j * 3 + 1)
      generalize (c1.setIfInBounds (j * 3) (.string (mt kk)))[j * 3 + 1]'_ = u1 at *
      have kc : w3.cell? ⟨g, j * 3 + 2, none⟩ = some (.slice ua ns.length uc) := by
        obtain ⟨⟨c9, q1, -, q2, -⟩, -⟩ := HM3.out
        rw [heap_cell q1]
        exact q2 j _ HU.out
      clear h3
      go_wp2_with fail
      have HM4 := hid (HM3.out.set (j * 3 + 1) (.string (mt (kk + 1))) (by omega) (by omega))
      have HT4 : Hid (Tou base hi w (w3.setCell ⟨g, j * 3 + 1, none⟩ (.string (mt (kk + 1))))) := HT3.out.trans (Tou.grown (grown_set _ _ _ _) (fun g2 e => by cases e; exact ⟨hgb, hgl, _, _, _, H3.out, .inr rfl⟩))
      have H4 := hid (heap_set H3.out (j * 3 + 1) (.string (mt (kk + 1))))
      clear k0 f0 kc
      generalize w3.setCell ⟨g, j * 3 + 1, none⟩ (.string (mt (kk + 1))) = w4 at *
      have HRW := hid (HM4.out.2.2 j _ _ (Nat.le_refl _) HP.out HU.out)
      have hmn := PInM.mark_v (.slice ua ns.length uc) ns (kk + 2) w4 base (by omega) (by omega) (by omega) HRW.out
      refine (show Calls Tryd.prog _ #[.slice ua ns.length uc, .int .i64 _] w4 _ from hmn).mono ?_
      clear hmn
      rintro e w5 ⟨rfl, hmc, hgr⟩
      have HM5 : Hid (MS w5 base g k (j + 1) is vs) := HM4.out.step HP.out HU.out H4.out (by rw [← HKK.out, Array.getElem?_setIfInBounds_ne (by omega), Array.getElem?_setIfInBounds_self_of_lt (by omega)]) (by rw [← HKK.out, Array.getElem?_setIfInBounds_self_of_lt (by omega)]) HDS.out HRW.out (by rw [← HKK.out]; exact hmc) hgr
      have HT5 : Hid (Tou base hi w w5) := HT4.out.trans (Tou.grown hgr (fun g2 e => by
        obtain ⟨q1, q2⟩ := HOW.out _ (List.mem_of_getElem? HU.out) g2 e
        rcases HRW.out.2 with ⟨h9, -⟩ | ⟨g9, c9, cur9, h9, -, h10, -⟩
        · rw [h9] at e; cases e
        · rw [h9] at e; cases e; exact ⟨q1, q2, _, _, _, h10, .inl rfl⟩))
      clear hmc hgr
      go_wp2_with fail
      go_roundg (is.length - (j + 1))
      case measure => omega
      case rel => exact ⟨j + 1, by omega, by omega, by go_num, Marks.vint (by have := HST.out; have := HKK.out; omega), HM5.out, HT5.out⟩
    · have hke : j = is.length := by omega
      subst hke
      go_wp2
      go_ret
      refine ⟨by rw [List.length_map]; rfl, ?_, HT.out⟩
      obtain ⟨⟨cs, h1, h2, h3, h4⟩, h5, -⟩ := HM.out
      refine .inr ⟨g, cap, cs, by rw [List.length_map], h1, fun i n hn => ?_⟩
      rw [List.getElem?_map] at hn
      obtain ⟨p, hp, rfl⟩ := Option.map_eq_some_iff.1 hn
      have hi := (List.getElem?_eq_some_iff.1 hp).1
      obtain ⟨u, hu⟩ : ∃ u, vs[i]? = some u := ⟨_, List.getElem?_eq_getElem (by have := HVL.out; omega)⟩
      have hv := h5 i p u hi hp hu
      have hs : ∃ a c, u = .slice a p.2.2.length c := by
        rcases hv with ⟨q1, a, c, rfl⟩ | ⟨g3, c3, cs3, rfl, -⟩
        · exact ⟨a, c, by rw [q1]⟩
        · exact ⟨_, _, rfl⟩
      obtain ⟨a, c, rfl⟩ := hs
      exact ⟨a, c, (h4 i hi).1, (h4 i hi).2, h3 i _ hu, hv⟩
theorem mark_v (v : Value) (is : List II) (vs : List Value) (k base hi : Nat) (w : World) (hk0 : 1 ≤ k) (hk : k + Marks.mk (lens is) (lens is).length ≤ 1099511627776) (hll : is.length ≤ 1099511627776) (ho : w.ownsRow base 39 3 v is.length (flatI is vs)) (hr : IRow.Rows w base is vs) (hv : ∀ g, v.ownBlock = some g → g < hi) (hvs : ∀ u ∈ vs, ∀ g, u.ownBlock = some g → g < hi) :
    Calls Tryd.prog 59 #[v, .int .i64 k] w (MkPost w v (lens is) base hi k) := by
  rcases Nat.eq_zero_or_pos is.length with h0 | h0
  · obtain ⟨a, c, rfl⟩ := row_slice ho
    rw [h0]
    obtain rfl := List.length_eq_zero_iff.1 h0
    exact (mark_zero a c k w).mono (by rintro e w' ⟨rfl, rfl⟩; exact ⟨rfl, .inl ⟨rfl, _, _, rfl⟩, Tou.refl _ _ _⟩)
  rcases ho.2 with ⟨rfl, h0'⟩ | ⟨g, cap, cur, rfl, hb, hg, h1, h1b, h2, h3⟩
  · omega
  · refine mark_row g cap k base hi is vs w hk0 hk hll hb (hv g rfl) ⟨⟨cur, hg, ?_, fun i u hu => ?_, fun i hi => by omega⟩, fun i p u hi => by omega, fun i p u _ hp hu => hr.2.1 i p u hp hu⟩ hr hvs
    · exact Nat.le_trans (Nat.mul_le_mul_right 3 h1) (by have := h2; omega)
    · have hi : i < is.length := by have := (List.getElem?_eq_some_iff.1 hu).1; have := hr.1; omega
      have f2 := (flatI_get is vs i _ u hr.1 (List.getElem?_eq_getElem hi) hu).2.2
      have r2 := row_cell ho (i * 3 + 2) f2
      rwa [heap_cell hg] at r2
set_option maxHeartbeats 8000000 in
theorem held_row (g cap k : Nat) (ls : List Nat) (cs : Array Value) (w : World) (hk0 : 1 ≤ k) (hk : k + Marks.mk ls ls.length ≤ 1099511627776) (hll : ls.length ≤ 1099511627776) (hh : w.heap[g]? = some (.cells cs 39 (0, 0)))
    (hc : ∀ (i n : Nat), ls[i]? = some n → ∃ a c, cs[i * 3]? = some (.string (mt (k + Marks.mk ls i))) ∧ cs[i * 3 + 1]? = some (.string (mt (k + Marks.mk ls i + 1))) ∧ cs[i * 3 + 2]? = some (.slice a n c) ∧ PInM.HM w (.slice a n c) n (k + Marks.mk ls i + 2)) :
    Calls Tryd.prog 61 #[.slice (some ⟨g, 0, none⟩) ls.length cap, .int .i64 k] w fun e w' => e = .returned (.int .i64 ((k + Marks.mk ls ls.length : Nat) : Int)) ∧ Below w.heap.size w w' := by
  have HH := hid hh
  have HC := hid hc
  have HK : Hid (∀ i, k + Marks.mk ls i ≤ 1099511627776) := fun i => by have := mk_le ls i; omega
  clear hh hc hk
  go_enter Tryd.func61, Tryd.ntmps61
  go_wp2_with fail
  go_loopg [1, 5] ls.length (fun q m i wr => ∃ j : Nat, j ≤ ls.length ∧ ls.length - j ≤ q ∧ i = .int .i64 j ∧ m = .int .i64 ((k + Marks.mk ls j : Nat) : Int) ∧ Below w.heap.size w wr)
  case atStart => exact ⟨0, Nat.zero_le _, by simp, rfl, by rw [Marks.mk_zero]; rfl, Below.refl _ _⟩
  case round =>
    obtain ⟨j, hj, hq, rfl, rfl, hb⟩ := hrel
    have HB := hid hb
    clear hb
    have hkj := HK.out j
    by_cases hlt : j < ls.length
    · obtain ⟨n, hn⟩ : ∃ n, ls[j]? = some n := ⟨_, List.getElem?_eq_getElem hlt⟩
      have HST := hid (Marks.mk_step hn)
      have hkj2 : k + Marks.mk ls j + 2 + n * 2 ≤ 1099511627776 := by have := HST.out; have := HK.out (j + 1); omega
      obtain ⟨a, c, q1, q2, q3, q4⟩ := HC.out j n hn
      obtain ⟨kk, hkk⟩ : ∃ kk, kk = k + Marks.mk ls j := ⟨_, rfl⟩
      rw [← hkk] at q1 q2 q4 hkj hkj2
      rw [← hkk]
      have hc0 : w.cell? ⟨g, j * 3, none⟩ = some (.string (mt kk)) := (heap_cell HH.out _).trans q1
      have hc1 : w.cell? ⟨g, j * 3 + 1, none⟩ = some (.string (mt (kk + 1))) := (heap_cell HH.out _).trans q2
      have hc2 : w.cell? ⟨g, j * 3 + 2, none⟩ = some (.slice a n c) := (heap_cell HH.out _).trans q3
      have kc : wr.cell? ⟨g, j * 3, none⟩ = some (.string (mt kk)) := (HB.out.cell (lt_of_cell hc0)).trans hc0
      have HC1 := hid hc1
      have HC2 := hid hc2
      have HQ4 := hid q4
      have hk1 : 1 ≤ kk := by omega
      have hk2 : kk ≤ 4398046511104 := by omega
      have HKK := hid hkk
      obtain ⟨wx, hwx⟩ : ∃ x, x = wr := ⟨_, rfl⟩
      subst hwx
      clear hn q1 q2 q3 q4 hc0 hc1 hc2 hkk
      go_wp2_with fail
      refine wp_region_any (by kernel_rfl) ?_
      change wpAny _ _ _ _ _ _ _ (World.drew _)
      have SX : wx.drew.cell? ⟨g, j * 3, none⟩ = some (.string (mt kk)) := kc
      refine wpAny_of_T (S := fun X => X.cell? ⟨g, j * 3, none⟩ = some (.string (mt kk))) (m := 9) _ _ _ _ ?_
      refine wpAnyT_take (i := 0) (v := .slice (some ⟨g, 0, none⟩) ls.length cap) rfl (by kernel_rfl) (by kernel_rfl) (by kernel_rfl) (by kernel_rfl) (fun _ _ _ h => h) (Or.inl ⟨by kernel_rfl, fun X hS => by clear hS; go_simp⟩) SX ?_
      try go_simp
      refine wpAnyT_take (i := 1) (v := .int .i64 j) rfl (by kernel_rfl) (by kernel_rfl) (by kernel_rfl) (by kernel_rfl) (fun _ _ _ h => h) (Or.inl ⟨by kernel_rfl, fun X hS => by clear hS; go_simp⟩) SX ?_
      try go_simp
      refine wpAnyT_take (i := 2) (v := .pointer (some ⟨g, j * 3, none⟩)) rfl (by kernel_rfl) (by kernel_rfl) (by kernel_rfl) (by kernel_rfl) (fun _ _ _ h => h) (Or.inl ⟨by kernel_rfl, fun X hS => by clear hS; go_simp⟩) SX ?_
      try go_simp
      refine wpAnyT_take (i := 3) (v := .pointer (some ⟨g, j * 3, none⟩)) rfl (by kernel_rfl) (by kernel_rfl) (by kernel_rfl) (by kernel_rfl) (fun _ _ _ h => h) (Or.inl ⟨by kernel_rfl, fun X hS => by clear hS; go_simp⟩) SX ?_
      try go_simp
      refine wpAnyT_take (i := 4) (v := .pointer (some ⟨g, j * 3, none⟩)) rfl (by kernel_rfl) (by kernel_rfl) (by kernel_rfl) (by kernel_rfl) (fun _ _ _ h => h) (Or.inl ⟨by kernel_rfl, fun X hS => by clear hS; go_simp⟩) SX ?_
      try go_simp
      refine wpAnyT_take (i := 5) (v := .string (mt kk)) rfl (by kernel_rfl) (by kernel_rfl) (by kernel_rfl) (by kernel_rfl) (fun _ _ _ h => h) (Or.inl ⟨by kernel_rfl, fun X hS => by go_simp⟩) SX ?_
      try go_simp
      refine wpAnyT_take (i := 6) (v := .int .i64 kk) rfl (by kernel_rfl) (by kernel_rfl) (by kernel_rfl) (by kernel_rfl) (fun _ _ _ h => h) (Or.inl ⟨by kernel_rfl, fun X hS => by clear hS; go_simp⟩) SX ?_
      try go_simp
      refine wpAnyT_one 7 rfl (by kernel_rfl) (fun K hK => ?_)
      go_simp
      refine (markText_any kk wx.drew hk1 hk2).mono ?_
      rintro e w5 ⟨rfl, hb⟩
      have HB5 : Hid (Below wx.heap.size wx w5) := (below_drew1 (Below.refl _ wx)).trans hb
      have SX5 : w5.cell? ⟨g, j * 3, none⟩ = some (.string (mt kk)) := (hb.cell (lt_of_cell kc)).trans kc
      clear hb
      refine hK _ _ (fun _ => SX5) ?_
      clear hK K
      clear SX
      refine wpAnyT_take (i := 8) (v := .bool false) rfl (by kernel_rfl) (by kernel_rfl) (by kernel_rfl) (by kernel_rfl) (fun _ _ _ h => h) (Or.inl ⟨by kernel_rfl, fun X hS => by clear hS; go_simp⟩) SX5 ?_
      try go_simp
      refine wpAnyT_drop _ 9 _ _ _ (by decide) (by kernel_rfl) ?_
      change wpList _ _ _ [] _ _
      clear SX5 kc
      go_wp2_with fail
      have HB6 : Hid (Below w.heap.size w w5) := HB.out.trans (HB5.out.mono HB.out.size)
      have kc : w5.cell? ⟨g, j * 3 + 1, none⟩ = some (.string (mt (kk + 1))) := (HB6.out.cell (lt_of_cell HC1.out)).trans HC1.out
      obtain ⟨k1, hk1e⟩ : ∃ x, x = kk + 1 := ⟨_, rfl⟩
      have hcast : (kk : Int) + 1 = (k1 : Int) := by omega
      rw [← hk1e] at kc
      rw [hcast]
      have HK1 := hid hk1e
      clear hcast hk1e HB5 hk1 hk2
      have hk1 : 1 ≤ k1 := by have := HK1.out; omega
      have hk2 : k1 ≤ 4398046511104 := by have := HK1.out; omega
      clear HB HC1
      generalize w5 = wx at *
      generalize hkkx : kk = kk0 at *
      obtain ⟨kk, hkk⟩ : ∃ x, x = k1 := ⟨_, rfl⟩
      subst hkk
      refine wp_region_any (by kernel_rfl) ?_
      change wpAny _ _ _ _ _ _ _ (World.drew _)
      have SX : wx.drew.cell? ⟨g, j * 3 + 1, none⟩ = some (.string (mt kk)) := kc
      refine wpAny_of_T (S := fun X => X.cell? ⟨g, j * 3 + 1, none⟩ = some (.string (mt kk))) (m := 9) _ _ _ _ ?_
      refine wpAnyT_take (i := 0) (v := .slice (some ⟨g, 0, none⟩) ls.length cap) rfl (by kernel_rfl) (by kernel_rfl) (by kernel_rfl) (by kernel_rfl) (fun _ _ _ h => h) (Or.inl ⟨by kernel_rfl, fun X hS => by clear hS; go_simp⟩) SX ?_
      try go_simp
      refine wpAnyT_take (i := 1) (v := .int .i64 j) rfl (by kernel_rfl) (by kernel_rfl) (by kernel_rfl) (by kernel_rfl) (fun _ _ _ h => h) (Or.inl ⟨by kernel_rfl, fun X hS => by clear hS; go_simp⟩) SX ?_
      try go_simp
      refine wpAnyT_take (i := 2) (v := .pointer (some ⟨g, j * 3, none⟩)) rfl (by kernel_rfl) (by kernel_rfl) (by kernel_rfl) (by kernel_rfl) (fun _ _ _ h => h) (Or.inl ⟨by kernel_rfl, fun X hS => by clear hS; go_simp⟩) SX ?_
      try go_simp
      refine wpAnyT_take (i := 3) (v := .pointer (some ⟨g, j * 3, none⟩)) rfl (by kernel_rfl) (by kernel_rfl) (by kernel_rfl) (by kernel_rfl) (fun _ _ _ h => h) (Or.inl ⟨by kernel_rfl, fun X hS => by clear hS; go_simp⟩) SX ?_
      try go_simp
      refine wpAnyT_take (i := 4) (v := .pointer (some ⟨g, j * 3 + 1, none⟩)) rfl (by kernel_rfl) (by kernel_rfl) (by kernel_rfl) (by kernel_rfl) (fun _ _ _ h => h) (Or.inl ⟨by kernel_rfl, fun X hS => by clear hS; go_simp⟩) SX ?_
      try go_simp
      refine wpAnyT_take (i := 5) (v := .string (mt kk)) rfl (by kernel_rfl) (by kernel_rfl) (by kernel_rfl) (by kernel_rfl) (fun _ _ _ h => h) (Or.inl ⟨by kernel_rfl, fun X hS => by go_simp⟩) SX ?_
      try go_simp
      refine wpAnyT_take (i := 6) (v := .int .i64 kk) rfl (by kernel_rfl) (by kernel_rfl) (by kernel_rfl) (by kernel_rfl) (fun _ _ _ h => h) (Or.inl ⟨by kernel_rfl, fun X hS => by clear hS; go_simp⟩) SX ?_
      try go_simp
      refine wpAnyT_one 7 rfl (by kernel_rfl) (fun K hK => ?_)
      go_simp
      refine (markText_any kk wx.drew hk1 hk2).mono ?_
      rintro e w5 ⟨rfl, hb⟩
      have HB5 : Hid (Below wx.heap.size wx w5) := (below_drew1 (Below.refl _ wx)).trans hb
      have SX5 : w5.cell? ⟨g, j * 3 + 1, none⟩ = some (.string (mt kk)) := (hb.cell (lt_of_cell kc)).trans kc
      clear hb
      refine hK _ _ (fun _ => SX5) ?_
      clear hK K
      clear SX
      refine wpAnyT_take (i := 8) (v := .bool false) rfl (by kernel_rfl) (by kernel_rfl) (by kernel_rfl) (by kernel_rfl) (fun _ _ _ h => h) (Or.inl ⟨by kernel_rfl, fun X hS => by clear hS; go_simp⟩) SX5 ?_
      try go_simp
      refine wpAnyT_drop _ 9 _ _ _ (by decide) (by kernel_rfl) ?_
      change wpList _ _ _ [] _ _
      clear SX5 kc
      have HB7 : Hid (Below w.heap.size w w5) := HB6.out.trans (HB5.out.mono HB6.out.size)
      have kc : w5.cell? ⟨g, j * 3 + 2, none⟩ = some (.slice a n c) := (HB7.out.cell (lt_of_cell HC2.out)).trans HC2.out
      go_wp2_with fail
      clear kc
      have hcast : (kk : Int) + 1 = ((kk + 1 : Nat) : Int) := by omega
      rw [hcast]
      clear hcast
      refine (PInM.held_v (.slice a n c) n (kk + 1) w5 (by omega) (by have := HK1.out; omega) (by omega) (by rw [show kk + 1 = kk0 + 2 from by have := HK1.out; omega]; exact HQ4.out.below HB7.out)).mono ?_
      rintro e w6 ⟨rfl, hb⟩
      have HB8 : Hid (Below w.heap.size w w6) := HB7.out.trans (hb.mono HB7.out.size)
      clear hb
      have hneg : ¬ (((kk + 1 + n * 2 : Nat) : Int) < 0) := by omega
      go_wp2_with fail
      go_roundg (ls.length - (j + 1))
      case measure => omega
      case rel => exact ⟨j + 1, by omega, by omega, by go_num, Marks.vint (by have := HST.out; have := HK1.out; have := HKK.out; omega), HB8.out⟩
    · have hke : j = ls.length := by omega
      subst hke
      go_wp2
      go_ret
      exact ⟨rfl, HB.out⟩
theorem held_v (v : Value) (ls : List Nat) (k : Nat) (w : World) (hk0 : 1 ≤ k) (hk : k + Marks.mk ls ls.length ≤ 1099511627776) (hll : ls.length ≤ 1099511627776) (h : MIR w v ls k) :
    Calls Tryd.prog 61 #[v, .int .i64 k] w fun e w' => e = .returned (.int .i64 ((k + Marks.mk ls ls.length : Nat) : Int)) ∧ Below w.heap.size w w' := by
  rcases h with ⟨rfl, a, cap, rfl⟩ | ⟨g, cap, cs, rfl, hg, hc⟩
  · exact (held_zero a cap k w).mono (by rintro e w' ⟨rfl, rfl⟩; exact ⟨rfl, Below.refl _ _⟩)
  · exact held_row g cap k ls cs w hk0 hk hll hg hc
/-- a world that is marked from k on -/
def MWo (w : World) (v u : Value) (n k : Nat) (ls : List Nat) : Prop := PCM.HM w v n k ∧ MIR w u ls (k + n * 2)
theorem MWo.below {w w' : World} {v u : Value} {n k : Nat} {ls : List Nat} (h : MWo w v u n k ls) (hb : Below w.heap.size w w') : MWo w' v u n k ls := ⟨h.1.below hb, h.2.below hb⟩
def WPost (w : World) (v u : Value) (n k base : Nat) (ls : List Nat) (e : Ending) (w' : World) : Prop := e = .returned (.int .i64 ((k + n * 2 + Marks.mk ls ls.length : Nat) : Int)) ∧ MWo w' v u n k ls ∧ Below base w w' ∧ ∀ (q : Nat) (cs : Array Value) (fr : Nat × Nat), w.heap[q]? = some (.cells cs 47 fr) → w'.heap[q]? = some (.cells cs 47 fr)
theorem hmc_tou {w w' : World} {v : Value} {n k lo hi : Nat} (h : PCM.HM w v n k) (t : Tou lo hi w w') : PCM.HM w' v n k := by
  rcases h with h | ⟨g, cap, cs, rfl, cs', h1, h2⟩
  · exact .inl h
  · exact .inr ⟨g, cap, cs, rfl, cs', (t.block g (lt_of_heap h1) (.inr (.inr ⟨_, _, _, h1, by decide, by decide⟩))).trans h1, h2⟩
set_option maxHeartbeats 4000000 in
theorem markWorld_v (a b : Option Addr) (c d : Nat) (cs : List BB) (is : List II) (k base : Nat) (w : World) (hk0 : 1 ≤ k) (hcn : cs.length ≤ 1099511627776) (hk : k + cs.length * 2 + Marks.mk (lens is) (lens is).length ≤ 1099511627776) (hll : is.length ≤ 1099511627776) (hbw : base ≤ w.heap.size) (ho : w.ownsRow base 80 2 (.slice a cs.length c) cs.length (flat cs)) (hi : IR w base (.slice b is.length d) is) :
    Calls Tryd.prog 30 #[.agg #[.slice a cs.length c, .slice b is.length d], .int .i64 k] w (WPost w (.slice a cs.length c) (.slice b is.length d) cs.length k base (lens is)) := by
  obtain ⟨X, hX⟩ : ∃ X, X = w.alloc (.cells #[.slice a cs.length c, .slice b is.length d] 47) := ⟨_, rfl⟩
  have HB : Hid (Below w.heap.size w X) := by rw [hX]; exact (Below.refl _ _).alloc (Nat.le_refl _) _
  have HX : Hid (X.heap[w.heap.size]? = some (.cells #[.slice a cs.length c, .slice b is.length d] 47 (0, 0))) := by rw [hX]; exact heap_alloc_new _ _
  have HO := hid (row_below HB.out ho)
  obtain ⟨vs, hi1, hi2⟩ := hi
  have HI := hid (row_below HB.out hi1)
  have HR := hid (hi2.below HB.out)
  have HVS : Hid (∀ u ∈ vs, ∀ g, u.ownBlock = some g → g < w.heap.size) := fun u hu g hg => (hi2.own hu g hg).2
  have HIV : Hid (∀ g, Value.ownBlock (.slice b is.length d) = some g → g < w.heap.size) := fun g hg => (row_own hi1 g hg).2
  have HOO := hid (row_own ho)
  have HXX := hid hX
  clear ho hi1 hi2 hX
  go_enter Tryd.func30, Tryd.ntmps30
  go_wp2_with fail
  rw [← HXX.out]
  clear HXX
  refine (PCM.mark_v _ cs k X base hk0 (by omega) hcn HO.out).mono ?_
  rintro e w1 ⟨rfl, hm, hgr⟩
  have hx := keep_rowG hgr HO.out HX.out (by decide)
  have k1 : w1.cell? ⟨w.heap.size, 1, none⟩ = some (.slice b is.length d) := heap_cell hx 1
  have HI1 := hid (row_grownG hgr HI.out HO.out (by decide))
  have HR1 := hid (HR.out.grown hgr HO.out (by decide))
  have HM := hid hm
  have HT1 : Hid (Below base w w1) := (HB.out.mono hbw).grown hgr (by have := HB.out.size; omega) (fun g hg => (HOO.out g hg).1)
  have HK1 : Hid (∀ (q : Nat) (cs : Array Value) (fr : Nat × Nat), w.heap[q]? = some (.cells cs 47 fr) → w1.heap[q]? = some (.cells cs 47 fr)) := fun q cs' fr h => keep_rowG hgr HO.out (below_heap HB.out (lt_of_heap h) h) (by decide)
  clear hm hgr hx
  go_wp2_with fail
  have hmi := mark_v (.slice b is.length d) is vs (k + cs.length * 2) base w.heap.size w1 (by omega) hk hll HI1.out HR1.out HIV.out HVS.out
  refine (show Calls Tryd.prog _ #[_, .int .i64 _] w1 _ from hmi).mono ?_
  clear hmi
  rintro e w2 ⟨rfl, hm2, ht⟩
  have HM2 := hid hm2
  have HMC := hid (hmc_tou HM.out ht)
  have HT := hid ht
  clear hm2 ht k1
  go_wp2
  go_ret
  refine ⟨by rw [show (lens is).length = is.length from List.length_map ..]; rfl, ⟨HMC.out, HM2.out⟩, HT.out.toBelow HT1.out (Nat.le_refl _) (Nat.le_trans hbw HT1.out.size), fun q cs' fr h => ?_⟩
  have h1 := HK1.out q cs' fr h
  exact (HT.out.block q (lt_of_heap h1) (.inr (.inr ⟨_, _, _, h1, by decide, by decide⟩))).trans h1
set_option maxHeartbeats 4000000 in
theorem heldWorld_v (a b : Option Addr) (c d n m : Nat) (ls : List Nat) (k : Nat) (w : World) (hk0 : 1 ≤ k) (hn : n ≤ 1099511627776) (hk : k + n * 2 + Marks.mk ls ls.length ≤ 1099511627776) (hll : ls.length ≤ 1099511627776) (h : MWo w (.slice a n c) (.slice b m d) n k ls) :
    Calls Tryd.prog 31 #[.agg #[.slice a n c, .slice b m d], .int .i64 k] w fun e w' => e = .returned (.int .i64 ((k + n * 2 + Marks.mk ls ls.length : Nat) : Int)) ∧ Below w.heap.size w w' := by
  obtain ⟨X, hX⟩ : ∃ X, X = w.alloc (.cells #[.slice a n c, .slice b m d] 47) := ⟨_, rfl⟩
  have HB : Hid (Below w.heap.size w X) := by rw [hX]; exact (Below.refl _ _).alloc (Nat.le_refl _) _
  have HX : Hid (X.heap[w.heap.size]? = some (.cells #[.slice a n c, .slice b m d] 47 (0, 0))) := by rw [hX]; exact heap_alloc_new _ _
  have HM := hid (h.below HB.out)
  have HXX := hid hX
  have hneg1 : ¬ (((k + n * 2 : Nat) : Int) < 0) := by omega
  have hneg2 : ¬ (((k + n * 2 + Marks.mk ls ls.length : Nat) : Int) < 0) := by omega
  clear h hX
  go_enter Tryd.func31, Tryd.ntmps31
  go_wp2_with fail
  rw [← HXX.out]
  clear HXX
  refine (PCM.held_v _ n k X hk0 (by omega) hn HM.out.1).mono ?_
  rintro e w1 ⟨rfl, hb⟩
  have hx := below_heap hb (lt_of_heap HX.out) HX.out
  have k1 : w1.cell? ⟨w.heap.size, 1, none⟩ = some (.slice b m d) := heap_cell hx 1
  have HM1 := hid (HM.out.2.below hb)
  have HB1 : Hid (Below w.heap.size w w1) := HB.out.trans (hb.mono HB.out.size)
  clear hb hx
  go_wp2_with fail
  have hmi := held_v (.slice b m d) ls (k + n * 2) w1 (by omega) hk hll HM1.out
  refine (show Calls Tryd.prog _ #[_, .int .i64 _] w1 _ from hmi).mono ?_
  clear hmi
  rintro e w2 ⟨rfl, hb⟩
  have HB2 : Hid (Below w.heap.size w w2) := HB1.out.trans (hb.mono HB1.out.size)
  clear hb k1
  go_wp2
  go_ret
  exact ⟨rfl, HB2.out⟩
theorem mk_itot (is : List II) : Marks.mk (lens is) (lens is).length ≤ is.length * 2 + itot is * 2 := by
  unfold Marks.mk
  rw [List.take_length]
  induction is with
  | nil => simp
  | cons p r ih =>
    simp only [lens, List.map_cons, List.sum_cons, itot, List.length_cons, iw] at *
    omega
end MkW
end Go.Proofs.YtlckalgdfbpejaaDoor
