/- The laws' marks in slices of needs, of classes, of instances, and in worlds. Conditions: those typed. -/
import Derived.Test.YtcjalnianamlaaaWorldS
import Derived.Test.YtcjalnianamlaaaListS
set_option linter.unusedVariables false
set_option linter.unusedSimpArgs false
set_option maxRecDepth 100000
namespace Go.Proofs.Ytcjalnianamlaaa
open Go.RowKit ListS
namespace Marks
/-- a block whose first n pairs are marks from k on -/
def MC (w : World) (g : Nat) (e : TypeId) (cs : Array Value) (n k : Nat) : Prop := ∃ cs', w.heap[g]? = some (.cells cs' e (0, 0)) ∧ cs'.size = cs.size ∧ (∀ j, j < n → cs'[j * 2]? = some (.string (mt (k + j * 2))) ∧ cs'[j * 2 + 1]? = some (.string (mt (k + j * 2 + 1)))) ∧ ∀ j, n * 2 ≤ j → cs'[j]? = cs[j]?
theorem MC.below {w w' : World} {g : Nat} {e : TypeId} {cs : Array Value} {n k : Nat} (h : MC w g e cs n k) (hb : Below w.heap.size w w') : MC w' g e cs n k := by
  obtain ⟨cs', h1, h2, h3, h4⟩ := h
  exact ⟨cs', below_heap hb (lt_of_heap h1) h1, h2, h3, h4⟩
theorem gb {w w' : World} (h : Below w.heap.size w w') (row : Option Nat) : w.grownBy w' row := ⟨h.os, h.tape, h.output, h.size, fun k hk _ => h.block k hk⟩
theorem MC.step {w w2 : World} {g : Nat} {e : TypeId} {cs : Array Value} {n k : Nat} (h : MC w g e cs n k) (hs : n * 2 + 2 ≤ cs.size) (hb : Below (w.setCell ⟨g, n * 2, none⟩ (.string (mt (k + n * 2)))).heap.size (w.setCell ⟨g, n * 2, none⟩ (.string (mt (k + n * 2)))) w2) : MC (w2.setCell ⟨g, n * 2 + 1, none⟩ (.string (mt (k + n * 2 + 1)))) g e cs (n + 1) k := by
  obtain ⟨cs', h1, h2, h3, h4⟩ := h
  refine ⟨_, heap_set (below_heap hb (lt_of_heap (heap_set h1 _ _)) (heap_set h1 _ _)) _ _, by simp [h2], fun j hj => ?_, fun j hj => ?_⟩
  · by_cases e : j = n
    · subst e
      refine ⟨?_, ?_⟩
      · rw [Array.getElem?_setIfInBounds_ne (by omega), Array.getElem?_setIfInBounds_self_of_lt (by omega)]
      · rw [Array.getElem?_setIfInBounds_self_of_lt (by simp; omega)]
    · obtain ⟨q1, q2⟩ := h3 j (by omega)
      refine ⟨?_, ?_⟩
      · rw [Array.getElem?_setIfInBounds_ne (by omega), Array.getElem?_setIfInBounds_ne (by omega)]; exact q1
      · rw [Array.getElem?_setIfInBounds_ne (by omega), Array.getElem?_setIfInBounds_ne (by omega)]; exact q2
  · rw [Array.getElem?_setIfInBounds_ne (by omega), Array.getElem?_setIfInBounds_ne (by omega)]
    exact h4 j (by omega)
def MPost (w : World) (g : Nat) (ty : TypeId) (cs : Array Value) (n k : Nat) (e : Ending) (w' : World) : Prop := e = .returned (.int .i64 ((k + n * 2 : Nat) : Int)) ∧ MC w' g ty cs n k ∧ w.grownBy w' (some g)
set_option maxHeartbeats 2000000 in
theorem markNeedS_any (g cap n k : Nat) (cs : Array Value) (w : World) (hk0 : 1 ≤ k) (hk : k ≤ 1099511627776) (hn : n ≤ 1099511627776) (hh : w.heap[g]? = some (.cells cs 38 (0, 0))) (hsz : n * 2 ≤ cs.size) :
    Calls Try.prog 47 #[.slice (some ⟨g, 0, none⟩) n cap, .int .i64 k] w (MPost w g 38 cs n k) := by
  have HH := hid hh
  clear hh
  go_enter Try.func47, Try.ntmps47
  go_wp2_with fail
  go_loopg [1, 5] n (fun q m i wr => ∃ j : Nat, j ≤ n ∧ n - j ≤ q ∧ i = .int .i64 j ∧ m = .int .i64 ((k + j * 2 : Nat) : Int) ∧ Hid (MC wr g 38 cs j k) ∧ w.grownBy wr (some g))
  case atStart => exact ⟨0, Nat.zero_le _, by simp, rfl, rfl, ⟨cs, HH.out, rfl, fun j h => by omega, fun _ _ => rfl⟩, World.grownBy.refl _ _⟩
  case round =>
    obtain ⟨j, hj, hq, rfl, rfl, hm, hg⟩ := hrel
    have HM := hid hm.out
    have HG := hid hg
    clear hm hg
    by_cases hlt : j < n
    · go_wp2_with fail
      refine (markText_any (k + j * 2) wr (by omega) (by omega)).mono ?_
      rintro e w1 ⟨rfl, hb⟩
      have HM1 := hid (HM.out.below hb)
      have HG1 := hid (grown_trans HG.out (gb hb _))
      clear hb
      obtain ⟨c1, h1, h2, -, -⟩ := HM1.out
      have k0 : w1.cell? ⟨g, j * 2, none⟩ = some (c1[j * 2]'(by omega)) := by rw [heap_cell h1, Array.getElem?_eq_getElem (by omega)]
      have f0 := heap_free h1 (j * 2)
      have H1 := hid h1
      generalize c1[j * 2]'_ = u0 at *
      clear h1
      go_wp2_with fail
      refine (markText_any (k + j * 2 + 1) _ (by omega) (by omega)).mono ?_
      rintro e w2 ⟨rfl, hb⟩
      have HB2 := hid hb
      have h2' := below_heap hb (lt_of_heap (heap_set H1.out (j * 2) (.string (mt (k + j * 2))))) (heap_set H1.out (j * 2) (.string (mt (k + j * 2))))
      have hsz1 : j * 2 + 1 < (c1.setIfInBounds (j * 2) (.string (mt (k + j * 2)))).size := by simp; omega
      have k1 : w2.cell? ⟨g, j * 2 + 1, none⟩ = some ((c1.setIfInBounds (j * 2) (.string (mt (k + j * 2))))[j * 2 + 1]'hsz1) := by rw [heap_cell h2', Array.getElem?_eq_getElem hsz1]
      have f1 := heap_free h2' (j * 2 + 1)
      generalize (c1.setIfInBounds (j * 2) (.string (mt (k + j * 2))))[j * 2 + 1]'hsz1 = u1 at *
      clear hb h2' k0 f0 hsz1
      go_wp2_with fail
      go_roundg (n - (j + 1))
      case measure => omega
      case rel =>
        refine ⟨j + 1, by omega, by omega, by go_num, by go_num, ?_, ?_⟩
        · exact HM1.out.step (by omega) HB2.out
        · exact grown_trans HG1.out (grown_trans (grown_set _ _ _ _) (grown_trans (gb HB2.out _) (grown_set _ _ _ _)))
    · have hke : j = n := by omega
      subst hke
      go_wp2
      go_ret
      exact ⟨rfl, HM.out, HG.out⟩
set_option maxHeartbeats 2000000 in
theorem markClassS_any (g cap n k : Nat) (cs : Array Value) (w : World) (hk0 : 1 ≤ k) (hk : k ≤ 1099511627776) (hn : n ≤ 1099511627776) (hh : w.heap[g]? = some (.cells cs 77 (0, 0))) (hsz : n * 2 ≤ cs.size) :
    Calls Try.prog 27 #[.slice (some ⟨g, 0, none⟩) n cap, .int .i64 k] w (MPost w g 77 cs n k) := by
  have HH := hid hh
  clear hh
  go_enter Try.func27, Try.ntmps27
  go_wp2_with fail
  go_loopg [1, 5] n (fun q m i wr => ∃ j : Nat, j ≤ n ∧ n - j ≤ q ∧ i = .int .i64 j ∧ m = .int .i64 ((k + j * 2 : Nat) : Int) ∧ Hid (MC wr g 77 cs j k) ∧ w.grownBy wr (some g))
  case atStart => exact ⟨0, Nat.zero_le _, by simp, rfl, rfl, ⟨cs, HH.out, rfl, fun j h => by omega, fun _ _ => rfl⟩, World.grownBy.refl _ _⟩
  case round =>
    obtain ⟨j, hj, hq, rfl, rfl, hm, hg⟩ := hrel
    have HM := hid hm.out
    have HG := hid hg
    clear hm hg
    by_cases hlt : j < n
    · go_wp2_with fail
      refine (markText_any (k + j * 2) wr (by omega) (by omega)).mono ?_
      rintro e w1 ⟨rfl, hb⟩
      have HM1 := hid (HM.out.below hb)
      have HG1 := hid (grown_trans HG.out (gb hb _))
      clear hb
      obtain ⟨c1, h1, h2, -, -⟩ := HM1.out
      have k0 : w1.cell? ⟨g, j * 2, none⟩ = some (c1[j * 2]'(by omega)) := by rw [heap_cell h1, Array.getElem?_eq_getElem (by omega)]
      have f0 := heap_free h1 (j * 2)
      have H1 := hid h1
      generalize c1[j * 2]'_ = u0 at *
      clear h1
      go_wp2_with fail
      refine (markText_any (k + j * 2 + 1) _ (by omega) (by omega)).mono ?_
      rintro e w2 ⟨rfl, hb⟩
      have HB2 := hid hb
      have h2' := below_heap hb (lt_of_heap (heap_set H1.out (j * 2) (.string (mt (k + j * 2))))) (heap_set H1.out (j * 2) (.string (mt (k + j * 2))))
      have hsz1 : j * 2 + 1 < (c1.setIfInBounds (j * 2) (.string (mt (k + j * 2)))).size := by simp; omega
      have k1 : w2.cell? ⟨g, j * 2 + 1, none⟩ = some ((c1.setIfInBounds (j * 2) (.string (mt (k + j * 2))))[j * 2 + 1]'hsz1) := by rw [heap_cell h2', Array.getElem?_eq_getElem hsz1]
      have f1 := heap_free h2' (j * 2 + 1)
      generalize (c1.setIfInBounds (j * 2) (.string (mt (k + j * 2))))[j * 2 + 1]'hsz1 = u1 at *
      clear hb h2' k0 f0 hsz1
      go_wp2_with fail
      go_roundg (n - (j + 1))
      case measure => omega
      case rel =>
        refine ⟨j + 1, by omega, by omega, by go_num, by go_num, ?_, ?_⟩
        · exact HM1.out.step (by omega) HB2.out
        · exact grown_trans HG1.out (grown_trans (grown_set _ _ _ _) (grown_trans (gb HB2.out _) (grown_set _ _ _ _)))
    · have hke : j = n := by omega
      subst hke
      go_wp2
      go_ret
      exact ⟨rfl, HM.out, HG.out⟩

/-- blocks outside lo..hi are as they were -/
structure Touch (lo hi : Nat) (w w' : World) : Prop where
  os : w'.os = w.os
  tape : w'.tape = w.tape
  output : w'.output = w.output
  size : w.heap.size ≤ w'.heap.size
  block : ∀ k, k < w.heap.size → (k < lo ∨ hi ≤ k) → w'.heap[k]? = w.heap[k]?
theorem Touch.refl (lo hi : Nat) (w : World) : Touch lo hi w w := ⟨rfl, rfl, rfl, Nat.le_refl _, fun _ _ _ => rfl⟩
theorem Touch.trans {lo hi : Nat} {a b c : World} (h : Touch lo hi a b) (k : Touch lo hi b c) : Touch lo hi a c :=
  ⟨k.os.trans h.os, k.tape.trans h.tape, k.output.trans h.output, Nat.le_trans h.size k.size, fun i hi h2 => (k.block i (Nat.lt_of_lt_of_le hi h.size) h2).trans (h.block i hi h2)⟩
theorem Touch.below {lo hi : Nat} {w w' : World} (h : Below w.heap.size w w') : Touch lo hi w w' := ⟨h.os, h.tape, h.output, h.size, fun k hk _ => h.block k hk⟩
theorem Touch.grown {lo hi g : Nat} {w w' : World} (h : w.grownBy w' (some g)) (h1 : lo ≤ g) (h2 : g < hi) : Touch lo hi w w' := ⟨h.os, h.tape, h.output, h.size, fun k hk h3 => h.block k hk (fun e => by cases e; omega)⟩
theorem Touch.set {lo hi : Nat} (w : World) {b o : Nat} (u : Value) (h1 : lo ≤ b) (h2 : b < hi) : Touch lo hi w (w.setCell ⟨b, o, none⟩ u) := Touch.grown (grown_set w b o u) h1 h2
theorem Touch.toBelow {lo hi : Nat} {B : Nat} {a b c : World} (h : Below B a b) (k : Touch lo hi b c) (hl : B ≤ lo) (hB : B ≤ b.heap.size) : Below B a c :=
  ⟨k.os.trans h.os, k.tape.trans h.tape, k.output.trans h.output, Nat.le_trans h.size k.size, fun i hi => (k.block i (by omega) (by omega)).trans (h.block i hi)⟩
/-- a slice of instances in block g2, the needs of each in a block of their own -/
def MI (lo hi : Nat) (w : World) (g2 : Nat) (ls : List Nat) : Prop := lo ≤ g2 ∧ g2 < hi ∧ ∃ cs, w.heap[g2]? = some (.cells cs 50 (0, 0)) ∧ cs.size = ls.length * 3 ∧
  ∀ (i n : Nat), ls[i]? = some n → ∃ gi ci, cs[i * 3 + 2]? = some (.slice (some ⟨gi, 0, none⟩) n n) ∧ w.heap[gi]? = some (.cells ci 38 (0, 0)) ∧ ci.size = n * 2 ∧ lo ≤ gi ∧ gi < hi ∧ gi ≠ g2
theorem MI.below {lo hi : Nat} {w w' : World} {g2 : Nat} {ls : List Nat} (h : MI lo hi w g2 ls) (hb : Below w.heap.size w w') : MI lo hi w' g2 ls := by
  obtain ⟨h1, h2, cs, h3, h4, h5⟩ := h
  refine ⟨h1, h2, cs, below_heap hb (lt_of_heap h3) h3, h4, fun i n hi => ?_⟩
  obtain ⟨gi, ci, q1, q2, q3⟩ := h5 i n hi
  exact ⟨gi, ci, q1, below_heap hb (lt_of_heap q2) q2, q3⟩
theorem MI.set {lo hi : Nat} {w : World} {g2 : Nat} {ls : List Nat} (h : MI lo hi w g2 ls) (o : Nat) (u : Value) (ho : o % 3 ≠ 2) : MI lo hi (w.setCell ⟨g2, o, none⟩ u) g2 ls := by
  obtain ⟨h1, h2, cs, h3, h4, h5⟩ := h
  refine ⟨h1, h2, _, heap_set h3 o u, by simp [h4], fun i n hi => ?_⟩
  obtain ⟨gi, ci, q1, q2, q3, q4, q5, q6⟩ := h5 i n hi
  exact ⟨gi, ci, by rw [Array.getElem?_setIfInBounds_ne (by omega)]; exact q1, hb_set_ne q2 _ _ q6, q3, q4, q5, q6⟩
theorem MI.marked {lo hi : Nat} {w w' : World} {g2 : Nat} {ls : List Nat} (h : MI lo hi w g2 ls) {g n k : Nat} {c : Array Value} (hg : w.heap[g]? = some (.cells c 38 (0, 0))) (hne : g ≠ g2) (hm : MC w' g 38 c n k) (hr : w.grownBy w' (some g)) : MI lo hi w' g2 ls := by
  obtain ⟨h1, h2, cs, h3, h4, h5⟩ := h
  obtain ⟨c', m1, m2, -, -⟩ := hm
  refine ⟨h1, h2, cs, grown_keep hr h3 (by simp; omega), h4, fun i n hi => ?_⟩
  obtain ⟨gi, ci, q1, q2, q3, q4, q5, q6⟩ := h5 i n hi
  by_cases e : gi = g
  · subst e
    rw [hg] at q2
    cases q2
    exact ⟨gi, c', q1, m1, by omega, q4, q5, q6⟩
  · exact ⟨gi, ci, q1, grown_keep hr q2 (by simp; omega), q3, q4, q5, q6⟩
theorem MI.of_TI {lo : Nat} {w : World} {g2 : Nat} {is : List II} (h : TI w g2 is.length is.length is) (hl : lo ≤ g2) : MI lo w.heap.size w g2 (is.map fun p => p.2.2.length) := by
  obtain ⟨cs, h1, h2, h3⟩ := h
  refine ⟨hl, lt_of_heap h1, cs, h1, by simpa using h2, fun i n hi => ?_⟩
  rw [List.getElem?_map] at hi
  obtain ⟨p, hp, rfl⟩ := Option.map_eq_some_iff.1 hi
  obtain ⟨-, -, gi, q1, q2, q3⟩ := h3 i p (List.getElem?_eq_some_iff.1 hp).1 hp
  exact ⟨gi, _, q2, q3, by simp [flat_len], by omega, lt_of_heap q3, by omega⟩
theorem vint {a b : Int} (h : a = b) : Value.int .i64 a = Value.int .i64 b := by rw [h]
/-- how many marks k instances take -/
def mk (ls : List Nat) (i : Nat) : Nat := ((ls.take i).map fun n => 2 + n * 2).sum
theorem mk_zero (ls : List Nat) : mk ls 0 = 0 := by simp [mk]
theorem mk_step {ls : List Nat} {i n : Nat} (h : ls[i]? = some n) : mk ls (i + 1) = mk ls i + (2 + n * 2) := by
  obtain ⟨hl, hg⟩ := List.getElem?_eq_some_iff.1 h
  unfold mk
  rw [List.take_succ_eq_append_getElem hl, hg, List.map_append, List.sum_append]
  simp
def TPost (lo hi : Nat) (w : World) (k : Nat) (e : Ending) (w' : World) : Prop := e = .returned (.int .i64 (k : Int)) ∧ Touch lo hi w w'
set_option maxHeartbeats 4000000 in
theorem markInstanceS_any (lo hi g2 cap k : Nat) (ls : List Nat) (w : World) (hk0 : 1 ≤ k) (hk : ∀ i, i ≤ ls.length → k + mk ls i ≤ 1099511627776) (hnl : ∀ (i n : Nat), ls[i]? = some n → n ≤ 1099511627776) (hll : ls.length ≤ 1099511627776) (hm : MI lo hi w g2 ls) :
    Calls Try.prog 28 #[.slice (some ⟨g2, 0, none⟩) ls.length cap, .int .i64 k] w (TPost lo hi w (k + mk ls ls.length)) := by
  have HM0 := hid hm
  have HK := hid hk
  have HNL := hid hnl
  clear hm hk hnl
  go_enter Try.func28, Try.ntmps28
  go_wp2_with fail
  go_loopg [1, 5] ls.length (fun q m i wr => ∃ j : Nat, j ≤ ls.length ∧ ls.length - j ≤ q ∧ i = .int .i64 j ∧ m = .int .i64 ((k + mk ls j : Nat) : Int) ∧ Hid (MI lo hi wr g2 ls) ∧ Hid (Touch lo hi w wr))
  case atStart => exact ⟨0, Nat.zero_le _, by simp, rfl, by rw [mk_zero]; rfl, HM0.out, Touch.refl _ _ _⟩
  case round =>
    obtain ⟨j, hj, hq, rfl, rfl, hm, ht⟩ := hrel
    have HM := hid hm.out
    have HT := hid ht.out
    have hkj := HK.out j hj
    clear hm ht
    by_cases hlt : j < ls.length
    · obtain ⟨n, hn⟩ : ∃ n, ls[j]? = some n := ⟨_, List.getElem?_eq_getElem hlt⟩
      have hkj1 := HK.out (j + 1) hlt
      have HST := hid (mk_step hn)
      have hkj2 : k + mk ls j + 2 + n * 2 ≤ 1099511627776 := by have := HST.out; omega
      have HN := hid hn
      clear hn hkj1
      obtain ⟨kk, hkk⟩ : ∃ kk, kk = k + mk ls j := ⟨_, rfl⟩
      rw [← hkk] at hkj hkj2
      rw [← hkk]
      have HKK := hid hkk
      have hkk1 : 1 ≤ kk := by omega
      clear hkk
      go_wp2_with fail
      refine (markText_any kk wr hkk1 (by omega)).mono ?_
      rintro e w1 ⟨rfl, hb⟩
      have HM1 := hid (HM.out.below hb)
      have HT1 := hid (HT.out.trans (Touch.below hb))
      clear hb
      obtain ⟨hlo, hhi, c1, h1, hsz1, -⟩ := HM1.out
      have k0 : w1.cell? ⟨g2, j * 3, none⟩ = some (c1[j * 3]'(by omega)) := by rw [heap_cell h1, Array.getElem?_eq_getElem (by omega)]
      have f0 := heap_free h1 (j * 3)
      generalize c1[j * 3]'_ = u0 at *
      clear h1 hsz1
      go_wp2_with fail
      have HM2 := hid (HM1.out.set (j * 3) (.string (mt kk)) (by omega))
      have HT2 := hid (HT1.out.trans (Touch.set w1 (o := j * 3) (.string (mt kk)) hlo hhi))
      clear k0 f0
      generalize w1.setCell ⟨g2, j * 3, none⟩ (.string (mt kk)) = w2 at *
      refine (markText_any (kk + 1) w2 (by omega) (by omega)).mono ?_
      rintro e w3 ⟨rfl, hb⟩
      have HM3 := hid (HM2.out.below hb)
      have HT3 := hid (HT2.out.trans (Touch.below hb))
      clear hb
      obtain ⟨-, -, c2, h1, hsz1, -⟩ := HM3.out
      have k0 : w3.cell? ⟨g2, j * 3 + 1, none⟩ = some (c2[j * 3 + 1]'(by omega)) := by rw [heap_cell h1, Array.getElem?_eq_getElem (by omega)]
      have f0 := heap_free h1 (j * 3 + 1)
      generalize c2[j * 3 + 1]'_ = u1 at *
      have HM4 := hid (HM3.out.set (j * 3 + 1) (.string (mt (kk + 1))) (by omega))
      have HT4 := hid (HT3.out.trans (Touch.set w3 (o := j * 3 + 1) (.string (mt (kk + 1))) hlo hhi))
      obtain ⟨-, -, c3, h3, -, h5⟩ := HM4.out
      obtain ⟨gi, ci, q1, q2, q3, q4, q5, q6⟩ := h5 j n HN.out
      have kc : w3.cell? ⟨g2, j * 3 + 2, none⟩ = some (.slice (some ⟨gi, 0, none⟩) n n) := by
        have e1 := heap_cell h3 (j * 3 + 2)
        rw [q1] at e1
        rw [← e1, heap_cell (heap_set h1 (j * 3 + 1) (.string (mt (kk + 1)))), heap_cell h1, Array.getElem?_setIfInBounds_ne (by omega)]
      have Q2 := hid q2
      clear h1 hsz1 h3 h5 q1 q2
      go_wp2_with fail
      clear k0 f0 kc
      generalize w3.setCell ⟨g2, j * 3 + 1, none⟩ (.string (mt (kk + 1))) = w4 at *
      have hmn := markNeedS_any gi n n (kk + 2) ci w4 (by omega) (by omega) (by omega) Q2.out (by omega)
      refine (show Calls Try.prog _ #[.slice (some ⟨gi, 0, none⟩) n n, .int .i64 _] w4 _ from hmn).mono ?_
      clear hmn
      rintro e w5 ⟨rfl, hmc, hgr⟩
      have HM5 := hid (HM4.out.marked Q2.out q6 hmc hgr)
      have HT5 := hid (HT4.out.trans (Touch.grown hgr q4 q5))
      clear hmc hgr
      go_wp2_with fail
      go_roundg (ls.length - (j + 1))
      case measure => omega
      case rel => exact ⟨j + 1, by omega, by omega, by go_num, vint (by have := HST.out; have := HKK.out; omega), HM5.out, HT5.out⟩
    · have hke : j = ls.length := by omega
      subst hke
      go_wp2
      go_ret
      exact ⟨rfl, HT.out⟩
set_option maxHeartbeats 4000000 in
theorem markWorld_any (lo hi g1 g2 cap1 cap2 k nc : Nat) (cs : Array Value) (ls : List Nat) (w : World) (hk0 : 1 ≤ k) (hkk : k ≤ 1048576) (hnc : nc ≤ 1048576) (hk : ∀ i, i ≤ ls.length → mk ls i ≤ 1099000000000) (hnl : ∀ (i n : Nat), ls[i]? = some n → n ≤ 1099511627776) (hll : ls.length ≤ 1099511627776)
    (hlo : lo ≤ g1) (hhi : g1 < hi) (hne : g1 ≠ g2) (hh : w.heap[g1]? = some (.cells cs 77 (0, 0))) (hsz : nc * 2 ≤ cs.size) (hm : MI lo hi w g2 ls) :
    Calls Try.prog 12 #[.agg #[.slice (some ⟨g1, 0, none⟩) nc cap1, .slice (some ⟨g2, 0, none⟩) ls.length cap2], .int .i64 k] w (TPost lo hi w (k + nc * 2 + mk ls ls.length)) := by
  have HM0 := hid hm
  have HK : Hid (∀ i, i ≤ ls.length → k + nc * 2 + mk ls i ≤ 1099511627776) := fun i hi => by have := hk i hi; omega
  have HNL := hid hnl
  have HH := hid hh
  have hg1 := lt_of_heap hh
  clear hm hk hnl hh
  go_enter Try.func12, Try.ntmps12
  go_wp2_with fail
  have HB : Hid (Below w.heap.size w (w.alloc (.cells #[.slice (some ⟨g1, 0, none⟩) nc cap1, .slice (some ⟨g2, 0, none⟩) ls.length cap2] 36))) := (Below.refl _ _).alloc (Nat.le_refl _) _
  have HX : Hid ((w.alloc (.cells #[.slice (some ⟨g1, 0, none⟩) nc cap1, .slice (some ⟨g2, 0, none⟩) ls.length cap2] 36)).heap[w.heap.size]? = some (.cells #[.slice (some ⟨g1, 0, none⟩) nc cap1, .slice (some ⟨g2, 0, none⟩) ls.length cap2] 36 (0, 0))) := heap_alloc_new _ _
  generalize w.alloc (.cells #[.slice (some ⟨g1, 0, none⟩) nc cap1, .slice (some ⟨g2, 0, none⟩) ls.length cap2] 36) = W at *
  refine (markClassS_any g1 cap1 nc k cs W hk0 (by omega) (by omega) (below_heap HB.out hg1 HH.out) hsz).mono ?_
  rintro e w1 ⟨rfl, hmc, hgr⟩
  have hx := grown_keep hgr HX.out (by simp; omega)
  have k1 : w1.cell? ⟨w.heap.size, 1, none⟩ = some (.slice (some ⟨g2, 0, none⟩) ls.length cap2) := heap_cell hx 1
  have HT1 : Hid (Touch lo hi w w1) := (Touch.below HB.out).trans (Touch.grown hgr hlo hhi)
  have HM1 : Hid (MI lo hi w1 g2 ls) := by
    have := HM0.out.below HB.out
    obtain ⟨a1, a2, c, a3, a4, a5⟩ := this
    obtain ⟨c', m1, -, -, -⟩ := hmc
    have hcn : 77 ≠ 38 := by decide
    refine ⟨a1, a2, c, grown_keep hgr a3 (by simp; omega), a4, fun i n hi => ?_⟩
    obtain ⟨gi, ci, q1, q2, q3, q4, q5, q6⟩ := a5 i n hi
    refine ⟨gi, ci, q1, grown_keep hgr q2 ?_, q3, q4, q5, q6⟩
    have h0 := below_heap HB.out hg1 HH.out
    simp only [ne_eq, Option.some.injEq]
    rintro rfl
    rw [h0] at q2
    cases q2
  have hk1 : k + nc * 2 + mk ls 0 ≤ 1099511627776 := HK.out 0 (Nat.zero_le _)
  clear hmc hgr hx
  go_wp2_with fail
  have hmi := markInstanceS_any lo hi g2 cap2 (k + nc * 2) ls w1 (by omega) HK.out HNL.out hll HM1.out
  refine (show Calls Try.prog _ #[_, .int .i64 _] w1 _ from hmi).mono ?_
  clear hmi
  rintro e w2 ⟨rfl, ht⟩
  have HT2 : Hid (Touch lo hi w w2) := HT1.out.trans ht
  clear ht
  go_wp2
  go_ret
  exact ⟨rfl, HT2.out⟩

theorem row_touch {lo hi : Nat} {w w' : World} (h : Touch lo hi w w') {base : Nat} {e : TypeId} {size : Nat} {v : Value} {n : Nat} {xs : List Value} (ho : w.ownsRow base e size v n xs) (hv : ∀ g, v.ownBlock = some g → g < lo ∨ hi ≤ g) : w'.ownsRow base e size v n xs := by
  refine ⟨ho.1, ?_⟩
  rcases ho.2 with hn | ⟨g, cap, cur, rfl, hb, hgg, rest⟩
  · exact .inl hn
  · exact .inr ⟨g, cap, cur, rfl, hb, (h.block g (lt_of_heap hgg) (hv g (by simp [Value.ownBlock]))).trans hgg, rest⟩
theorem heap_touch {lo hi : Nat} {w w' : World} (h : Touch lo hi w w') {k : Nat} {o : Obj} (ho : w.heap[k]? = some o) (hk : k < lo ∨ hi ≤ k) : w'.heap[k]? = some o := (h.block k (lt_of_heap ho) hk).trans ho
end Marks
end Go.Proofs.Ytcjalnianamlaaa
