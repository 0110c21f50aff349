/- The draws of numbers; the laws' comparison of lists of texts and of numbers. Conditions: those typed. -/
import Derived.Test.YtaapdhacnbhohaaDoorDrawT
set_option linter.unusedVariables false
set_option linter.unusedSimpArgs false
set_option maxRecDepth 100000
namespace Go.Proofs.YtaapdhacnbhohaaDoor
open Go.RowKit ListS
namespace Draw
def okN (hi : Nat) (cs : List Value) : Bool := cs.all fun v => match v with | .int .i64 x => decide (0 ≤ x) && decide (x ≤ hi) | _ => false
theorem okN_mem {hi : Nat} {cs : List Value} (h : okN hi cs = true) {u : Value} (hu : u ∈ cs) : ∃ k : Nat, u = .int .i64 k ∧ k ≤ hi := by
  have h1 := List.all_eq_true.1 h u hu
  split at h1
  · rename_i x
    simp only [Bool.and_eq_true, decide_eq_true_eq] at h1
    exact ⟨x.toNat, by rw [Int.toNat_of_nonneg h1.1], by omega⟩
  · simp at h1
theorem num_any (a q g n hi : Nat) (cs : Array Value) (w : World) (hq : q ≤ 100000) (h0 : 0 < n) (hs : n ≤ 1000) (hn : cs.size = n) (hg : w.heap[g]? = some (.cells cs 3 (0, 0))) (hok : okN hi cs.toList = true) (h : RD w a q) :
    Calls Tryd.prog 68 #[.pointer (some ⟨a, 0, none⟩), .slice (some ⟨g, 0, none⟩) n n] w fun e w' => ∃ k : Nat, e = .returned (.int .i64 k) ∧ k ≤ hi ∧ RD w' a (q + 1) ∧ w.grownBy w' (some a) := by
  have HG := hid hg
  have hne : g ≠ a := by
    obtain ⟨v, xs, p, h1, -⟩ := h
    exact heap_ne hg h1 (by decide)
  have HN := hid hn
  have HOK := hid hok
  clear hg hn hok
  go_enter Tryd.func68, Tryd.ntmps68
  go_wp2_with fail
  refine (pick_any a q n w h0 (by omega) (by omega) h).mono ?_
  rintro e w1 ⟨i, hi, rfl, hr, hgr⟩
  have hk := grown_keep hgr HG.out (by simp; omega)
  have hc : w1.cell? ⟨g, i, none⟩ = some (cs[i]'(by have := HN.out; omega)) := by rw [heap_cell hk, Array.getElem?_eq_getElem (by have := HN.out; omega)]
  obtain ⟨k, hk1, hk2⟩ := okN_mem HOK.out (show (cs[i]'(by have := HN.out; omega)) ∈ cs.toList by simp)
  rw [hk1] at hc
  have HR := hid hr
  have HGR := hid hgr
  clear hk hr hgr hk1
  go_wp2
  go_ret
  exact ⟨k, rfl, hk2, HR.out, HGR.out⟩
theorem RD.row {w w' : World} {a q base size n : Nat} {e : TypeId} {v : Value} {xs : List Value} (h : RD w a q) (ho : w.ownsRow base e size v n xs) (hne : e ≠ 106) (hg : w.grownBy w' (some a)) : w'.ownsRow base e size v n xs := by
  refine row_grown hg ho fun g hg1 hg2 => ?_
  obtain rfl : a = g := by simpa using hg2
  obtain ⟨v', ys, p, h1, -⟩ := h
  rcases ho.2 with ⟨rfl, -⟩ | ⟨g', cap, cur, rfl, hb, hgg, rest⟩
  · simp [Value.ownBlock] at hg1
  · simp [Value.ownBlock] at hg1
    subst hg1
    rw [h1] at hgg
    cases hgg
    exact hne rfl
def okI (lo hi : Int) (cs : List Value) : Bool := cs.all fun v => match v with | .int .i64 x => decide (lo ≤ x) && decide (x ≤ hi) | _ => false
theorem okI_mem {lo hi : Int} {cs : List Value} (h : okI lo hi cs = true) {u : Value} (hu : u ∈ cs) : ∃ k : Int, u = .int .i64 k ∧ lo ≤ k ∧ k ≤ hi := by
  have h1 := List.all_eq_true.1 h u hu
  split at h1
  · rename_i x
    simp only [Bool.and_eq_true, decide_eq_true_eq] at h1
    exact ⟨x, rfl, h1.1, h1.2⟩
  · simp at h1
theorem numI_any (a q g n : Nat) (lo hi : Int) (cs : Array Value) (w : World) (hq : q ≤ 100000) (h0 : 0 < n) (hs : n ≤ 1000) (hn : cs.size = n) (hg : w.heap[g]? = some (.cells cs 3 (0, 0))) (hok : okI lo hi cs.toList = true) (h : RD w a q) :
    Calls Tryd.prog 68 #[.pointer (some ⟨a, 0, none⟩), .slice (some ⟨g, 0, none⟩) n n] w fun e w' => ∃ k : Int, e = .returned (.int .i64 k) ∧ lo ≤ k ∧ k ≤ hi ∧ RD w' a (q + 1) ∧ w.grownBy w' (some a) := by
  have HG := hid hg
  have hne : g ≠ a := by
    obtain ⟨v, xs, p, h1, -⟩ := h
    exact heap_ne hg h1 (by decide)
  have HN := hid hn
  have HOK := hid hok
  clear hg hn hok
  go_enter Tryd.func68, Tryd.ntmps68
  go_wp2_with fail
  refine (pick_any a q n w h0 (by omega) (by omega) h).mono ?_
  rintro e w1 ⟨i, hi, rfl, hr, hgr⟩
  have hk := grown_keep hgr HG.out (by simp; omega)
  have hc : w1.cell? ⟨g, i, none⟩ = some (cs[i]'(by have := HN.out; omega)) := by rw [heap_cell hk, Array.getElem?_eq_getElem (by have := HN.out; omega)]
  obtain ⟨k, hk1, hk2, hk3⟩ := okI_mem HOK.out (show (cs[i]'(by have := HN.out; omega)) ∈ cs.toList by simp)
  rw [hk1] at hc
  have HR := hid hr
  have HGR := hid hgr
  clear hk hr hgr hk1
  go_wp2
  go_ret
  exact ⟨k, rfl, hk2, hk3, HR.out, HGR.out⟩
set_option maxHeartbeats 4000000 in
theorem inTexts_same (v v2 : Value) (xs : List ByteArray) (w : World) (b1 b2 : Nat) (hn : xs.length ≤ 1099511627776) (h1 : w.ownsRow b1 9 1 v xs.length (strs xs)) (h2 : w.ownsRow b2 9 1 v2 xs.length (strs xs)) :
    Calls Tryd.prog 18 #[v, v2] w fun e w' => e = .returned (.bool true) ∧ Below w.heap.size w w' := by
  have HO1 := hid h1
  have HO2 := hid h2
  obtain ⟨a1, c1, rfl⟩ := row_slice h1
  obtain ⟨a2, c2, rfl⟩ := row_slice h2
  clear h1 h2
  go_enter Tryd.func18, Tryd.ntmps18
  go_wp2_with fail
  go_loopg [11] xs.length (fun q i wr => ∃ k : Nat, k ≤ xs.length ∧ xs.length - k ≤ q ∧ i = .int .i64 k ∧ Below w.heap.size w wr)
  case atStart => exact ⟨0, Nat.zero_le _, by simp, rfl, Below.refl _ _⟩
  case round =>
    obtain ⟨k, hk, hq, rfl, hb⟩ := hrel
    have HB := hid hb
    clear hb
    by_cases hlt : k < xs.length
    · obtain ⟨x, hx⟩ : ∃ x, xs[k]? = some x := ⟨_, List.getElem?_eq_getElem hlt⟩
      have hsx : (strs xs)[k]? = some (.string x) := by simp [strs, hx]
      obtain ⟨g1, cc1, e1, -, hg1, cs1, hc1, hd1⟩ := row_at HO1.out (by omega)
      obtain ⟨g2, cc2, e2, -, hg2, cs2, hc2, hd2⟩ := row_at HO2.out (by omega)
      cases e1
      cases e2
      have q1 : w.cell? ⟨g1, k, none⟩ = some (.string x) := (heap_cell hc1 k).trans (hd1 k _ hsx)
      have q2 : w.cell? ⟨g2, k, none⟩ = some (.string x) := (heap_cell hc2 k).trans (hd2 k _ hsx)
      have k1 : wr.cell? ⟨g1, k, none⟩ = some (.string x) := (HB.out.cell (lt_cell q1)).trans q1
      have k2 : wr.cell? ⟨g2, k, none⟩ = some (.string x) := (HB.out.cell (lt_cell q2)).trans q2
      clear hx hsx hc1 hd1 hc2 hd2 q1 q2
      go_wp2_with fail
      go_quiet (fail)
      rename_i nq
      have HBQ : Hid (Below w.heap.size w (wr.drewN nq)) := below_drewN HB.out _
      go_wp2_with fail
      go_roundg (xs.length - (k + 1))
      case measure => omega
      case rel => exact ⟨k + 1, by omega, by omega, by go_num, HBQ.out⟩
    · have hke : k = xs.length := by omega
      subst hke
      go_wp2
      go_ret
      exact ⟨rfl, HB.out⟩
set_option maxHeartbeats 4000000 in
theorem inSame_same (v v2 : Value) (xs : List Int) (w : World) (b1 b2 : Nat) (hn : xs.length ≤ 1099511627776) (h1 : w.ownsRow b1 3 1 v xs.length (ListS.ints xs)) (h2 : w.ownsRow b2 3 1 v2 xs.length (ListS.ints xs)) :
    Calls Tryd.prog 23 #[v, v2] w fun e w' => e = .returned (.bool true) ∧ Below w.heap.size w w' := by
  have HO1 := hid h1
  have HO2 := hid h2
  obtain ⟨a1, c1, rfl⟩ := row_slice h1
  obtain ⟨a2, c2, rfl⟩ := row_slice h2
  clear h1 h2
  go_enter Tryd.func23, Tryd.ntmps23
  go_wp2_with fail
  go_loopg [11] xs.length (fun q i wr => ∃ k : Nat, k ≤ xs.length ∧ xs.length - k ≤ q ∧ i = .int .i64 k ∧ Below w.heap.size w wr)
  case atStart => exact ⟨0, Nat.zero_le _, by simp, rfl, Below.refl _ _⟩
  case round =>
    obtain ⟨k, hk, hq, rfl, hb⟩ := hrel
    have HB := hid hb
    clear hb
    by_cases hlt : k < xs.length
    · obtain ⟨x, hx⟩ : ∃ x, xs[k]? = some x := ⟨_, List.getElem?_eq_getElem hlt⟩
      have hsx : (ListS.ints xs)[k]? = some (.int .i64 x) := by simp [ListS.ints, hx]
      obtain ⟨g1, cc1, e1, -, hg1, cs1, hc1, hd1⟩ := row_at HO1.out (by omega)
      obtain ⟨g2, cc2, e2, -, hg2, cs2, hc2, hd2⟩ := row_at HO2.out (by omega)
      cases e1
      cases e2
      have q1 : w.cell? ⟨g1, k, none⟩ = some (.int .i64 x) := (heap_cell hc1 k).trans (hd1 k _ hsx)
      have q2 : w.cell? ⟨g2, k, none⟩ = some (.int .i64 x) := (heap_cell hc2 k).trans (hd2 k _ hsx)
      have k1 : wr.cell? ⟨g1, k, none⟩ = some (.int .i64 x) := (HB.out.cell (lt_cell q1)).trans q1
      have k2 : wr.cell? ⟨g2, k, none⟩ = some (.int .i64 x) := (HB.out.cell (lt_cell q2)).trans q2
      clear hx hsx hc1 hd1 hc2 hd2 q1 q2
      go_wp2_with fail
      go_quiet (fail)
      rename_i nq
      have HBQ : Hid (Below w.heap.size w (wr.drewN nq)) := below_drewN HB.out _
      go_wp2_with fail
      go_roundg (xs.length - (k + 1))
      case measure => omega
      case rel => exact ⟨k + 1, by omega, by omega, by go_num, HBQ.out⟩
    · have hke : k = xs.length := by omega
      subst hke
      go_wp2
      go_ret
      exact ⟨rfl, HB.out⟩
end Draw
end Go.Proofs.YtaapdhacnbhohaaDoor
