/- FnExactParseInstance answers true for every input: the program's ParseInstance returns what the reference's returns. Conditions: none. -/
import Derived.Test.YtlckalgdfbpejaaDoorPInM
import Derived.Test.YtlckalgdfbpejaaDoorInst
import Derived.Test.YtlckalgdfbpejaaDoorShp
import Derived.Test.YtlckalgdfbpejaaDoorNeedS
import Derived.Test.YtlckalgdfbpejaaDoorRows
import Derived.Test.YtlckalgdfbpejaaDoorCards
import Derived.Test.YtlckalgdfbpejaaDoorTie
import Derived.LaidMore
import Derived.Lay
import Derived.SevenTiedAt
import Derived.Stop.Joined
import Derived.Test.YtlckalgdfbpejaaDoorFacts
import Derived.WalkKit
import Derived.ProofKit
import Derived.OpenShut
import Derived.ShutString
import Derived.ChangeOld
import Derived.Below
import Derived.Carry
import Derived.Lib.SmallJoins
set_option linter.unusedVariables false
set_option linter.unusedSimpArgs false
set_option maxRecDepth 100000
namespace Go.Proofs.YtlckalgdfbpejaaDoor.fnExactParseInstance
open Go.ChangeShapes Go.WideShapes Go.ChangeAt Go.RowKit Go.Joins Ty SplP ListS CutS PInP PIn Classes
open Go.ChangeMaps (open_string shut_string)

theorem own : ownKnob Tryd.prog.godebug = none := by kernel_rfl
theorem laidOut : laidOutB Tryd.prog = true := by kernel_rfl
theorem bytes (s : ByteArray) : ∃ l : List UInt8, s = ⟨l.toArray⟩ ∧ s.size = l.length := ⟨s.data.toList, rfl, by simp⟩
theorem rI_len (l : List UInt8) (hl : l.length ≤ 1048576) : (rI l).2.1.length ≤ 1048577 := by
  unfold rI
  cases h : instL l with
  | none => simp
  | some p =>
    obtain ⟨n, ns⟩ := p
    unfold instL at h
    split at h
    · obtain ⟨q, -, h2⟩ := Option.map_eq_some_iff.1 h
      cases h2; simp
    · rename_i a b hab
      split at h
      · rename_i x ys h1 h2
        cases h
        have h3 := allN_len h2
        have h4 : b.length ≤ l.length := piece_len (c := 58) (k := 1) (by rw [hab]; rfl)
        have h5 := splitC_len 38 b
        have h6 := List.count_le_length (a := (38 : UInt8)) (l := b)
        show ns.length ≤ _
        omega
      · simp at h
    · simp at h
theorem needB_small {p : List UInt8} {x : BB} (h : needB p = some x) (hp : p.length ≤ 1048576) : x.1.size ≤ maxLen ∧ x.2.size ≤ maxLen := by
  obtain ⟨c, t, rfl, -, -, rfl⟩ := needB_some h
  simp at hp
  unfold maxLen
  simp [ByteArray.size]
  omega
theorem rI_sizes (l : List UInt8) (hl : l.length ≤ 1048576) : ∀ (i : Nat) (p : BB), (rI l).2.1[i]? = some p → p.1.size ≤ maxLen ∧ p.2.size ≤ maxLen := by
  intro i p hp
  unfold rI at hp
  cases h : instL l with
  | none => rw [h] at hp; simp at hp
  | some q =>
    obtain ⟨n, ns⟩ := q
    rw [h] at hp
    dsimp only at hp
    unfold instL at h
    split at h
    · obtain ⟨q, -, h2⟩ := Option.map_eq_some_iff.1 h
      cases h2; simp at hp
    · rename_i a b hab
      split at h
      · rename_i x ys h1 h2
        cases h
        have h3 := allN_len h2
        have hi : i < (splitC 38 b).length := by rw [← h3]; exact (List.getElem?_eq_some_iff.1 hp).1
        obtain ⟨y, h5, h6⟩ := allN_at h2 i _ (List.getElem?_eq_getElem hi)
        rw [hp] at h5
        cases h5
        have h4 : b.length ≤ l.length := piece_len (c := 58) (k := 1) (by rw [hab]; rfl)
        have h7 := piece_len (List.getElem?_eq_getElem hi)
        exact needB_small h6 (by omega)
      · simp at h
    · simp at h
theorem sp_row {w : World} {base n cap : Nat} {a : Option Addr} {xs : List BB} (ho : w.ownsRow base 36 2 (.slice a n cap) xs.length (flat xs)) (hz : ∀ (i : Nat) (p : BB), xs[i]? = some p → p.1.size ≤ maxLen ∧ p.2.size ≤ maxLen) : SP w (.slice a n cap) xs := by
  rcases ho.2 with ⟨h, h0⟩ | ⟨g, c, cur, h, hb, hg, h1, h2, h3, h4⟩
  · have hx := List.length_eq_zero_iff.1 h0
    cases h
    exact .inl ⟨hx, _, _, rfl⟩
  · cases h
    refine .inr ⟨g, 0, cap, rfl, Nat.le_trans h1 h2, fun i p hp => ?_⟩
    obtain ⟨f0, f1⟩ := flat_get xs i p hp
    have r0 := row_cell ho (i * 2) f0
    have r1 := row_cell ho (i * 2 + 1) f1
    obtain ⟨z0, z1⟩ := hz i p hp
    exact ⟨by simpa using r0, by simpa using r1, z0, z1⟩
def MiPost (w : World) (v : Value) (n k : Nat) (e : Ending) (w' : World) : Prop := e = .returned (.int .i64 ((k + n * 2 : Nat) : Int)) ∧ PInM.HM w' v n k ∧ w.grownBy w' v.ownBlock
theorem markInst_v (x y : ByteArray) (a : Option Addr) (c : Nat) (xs : List BB) (k : Nat) (w : World) (b : Nat) (hk0 : 1 ≤ k) (hk : k ≤ 1099511627776) (hn : xs.length ≤ 1099511627776) (ho : w.ownsRow b 36 2 (.slice a xs.length c) xs.length (flat xs)) :
    Calls Tryd.prog 25 #[.agg #[.string x, .string y, .slice a xs.length c], .int .i64 k] w (MiPost w (.slice a xs.length c) xs.length k) := by
  have HO := hid (World.ownsRow.alloc ho (.cells #[.string x, .string y, .slice a xs.length c] 39))
  have hg : Hid (w.grownBy (w.alloc (.cells #[.string x, .string y, .slice a xs.length c] 39)) (Value.ownBlock (.slice a xs.length c))) := Marks.gb ((Below.refl _ _).alloc (Nat.le_refl _) _) _
  clear ho
  go_enter Tryd.func25, Tryd.ntmps25
  go_wp2_with fail
  refine (PInM.mark_v _ xs k _ b hk0 hk hn HO.out).mono ?_
  rintro e w1 ⟨rfl, hm, hr⟩
  have HM := hid hm
  have HG := hid (grown_trans hg.out hr)
  clear hm hr
  go_wp2
  go_ret
  exact ⟨rfl, HM.out, HG.out⟩
theorem heldInst_v (x y : ByteArray) (a : Option Addr) (c n k : Nat) (w : World) (hk0 : 1 ≤ k) (hk : k ≤ 1099511627776) (hn : n ≤ 1099511627776) (h : PInM.HM w (.slice a n c) n k) :
    Calls Tryd.prog 26 #[.agg #[.string x, .string y, .slice a n c], .int .i64 k] w fun e w' => e = .returned (.int .i64 ((k + n * 2 : Nat) : Int)) ∧ Below w.heap.size w w' := by
  have HB0 : Hid (Below w.heap.size w (w.alloc (.cells #[.string x, .string y, .slice a n c] 39))) := (Below.refl _ _).alloc (Nat.le_refl _) _
  have HM := hid (h.below HB0.out)
  clear h
  have hneg : ¬ (((k + n * 2 : Nat) : Int) < 0) := by omega
  go_enter Tryd.func26, Tryd.ntmps26
  go_wp2_with fail
  refine (PInM.held_v _ n k _ hk0 hk hn HM.out).mono ?_
  rintro e w1 ⟨rfl, hb⟩
  have HB1 : Hid (Below w.heap.size w w1) := HB0.out.trans (hb.mono HB0.out.size)
  clear hb
  go_wp2
  go_ret
  exact ⟨rfl, HB1.out⟩
set_option maxHeartbeats 8000000 in
theorem walk (a0 : ByteArray) (w0 : a0.size ≤ maxLen) (w : World) (hm : ∃ m, w.cell? ⟨0, 0, none⟩ = some (.int .i64 m)) :
    Calls Tryd.prog 6 #[.string a0] w fun e w' => e = .returned (.bool true) ∧ Below w.heap.size w w' := by
  obtain ⟨l, rfl, hz⟩ := bytes a0
  by_cases hl : l.length ≤ 1048576
  rotate_left
  · unfold maxLen at w0
    go_enter Tryd.func6, Tryd.ntmps6
    go_wp2_with fail
    go_ret
    exact ⟨rfl, Below.refl _ _⟩
  · clear hz
    have HMX := hid hm
    clear hm
    have HZ := hid (rI_sizes l hl)
    have HN2 := hid (rI_len l hl)
    obtain ⟨⟨⟨x, y⟩, xs, ok⟩, hr⟩ : ∃ r, r = rI l := ⟨_, rfl⟩
    rw [← hr] at HZ HN2
    have HR := hid hr
    clear hr
    have B : Hid (Below w.heap.size w w) := Below.refl _ _
    have HMm := HMX
    go_enter Tryd.func6, Tryd.ntmps6
    go_wp2_with fail
    have hzbv : w.heap.size ≤ w.heap.size := B.out.size
    refine (show Calls Tryd.prog _ _ _ (PIPost w ((x, y), xs, ok)) from by rw [HR.out]; exact ParseInstance_spec l w hl).mono ?_
    rintro e w1 ⟨v, rfl, ho, hb⟩
    obtain ⟨va, vc, rfl⟩ := row_slice ho
    have Ov := hid (row_own ho)
    have Rv := hid ho
    have hzv := hb.size
    replace B : Hid (Below w.heap.size w w1) := B.out.trans (hb.mono B.out.size)
    clear hb ho
    go_wp2_with fail
    have hb : Below w1.heap.size w1 (w1.alloc (.cells #[.string x, .string y, .slice va xs.length vc] 39)) := (Below.refl _ _).alloc (Nat.le_refl _) _
    replace B : Hid (Below w.heap.size w (w1.alloc (.cells #[.string x, .string y, .slice va xs.length vc] 39))) := B.out.trans (hb.mono B.out.size)
    replace Rv : Hid (World.ownsRow (w1.alloc (.cells #[.string x, .string y, .slice va xs.length vc] 39)) w.heap.size 36 2 (.slice va xs.length vc) xs.length (flat xs)) := row_below hb Rv.out
    have Xv : Hid ((w1.alloc (.cells #[.string x, .string y, .slice va xs.length vc] 39)).heap[w1.heap.size]? = some (.cells #[.string x, .string y, .slice va xs.length vc] 39 (0, 0))) := heap_alloc_new _ _
    clear hb
    generalize w1.alloc (.cells #[.string x, .string y, .slice va xs.length vc] 39) = w2 at *
    generalize w1.heap.size = b2 at *
    have kXv_0 : w2.cell? ⟨b2, 0, none⟩ = some (.string x) := heap_cell Xv.out 0
    have kXv_1 : w2.cell? ⟨b2, 1, none⟩ = some (.string y) := heap_cell Xv.out 1
    have kXv_2 : w2.cell? ⟨b2, 2, none⟩ = some (.slice va xs.length vc) := heap_cell Xv.out 2
    have lXv : b2 < w2.heap.size := lt_of_heap Xv.out
    go_wp2_with fail
    clear kXv_0 kXv_1 kXv_2 lXv
    have hzbu : w.heap.size ≤ w2.heap.size := B.out.size
    have hzxuXv : b2 < w2.heap.size := lt_of_heap Xv.out
    refine (show Calls Tryd.prog _ _ _ (PIPost w2 ((x, y), xs, ok)) from by rw [HR.out]; exact ParseInstance_impl l w2 hl (hm_below HMX.out B.out)).mono ?_
    rintro e w3 ⟨u, rfl, ho, hb⟩
    obtain ⟨ua, uc, rfl⟩ := row_slice ho
    have Ou := hid (row_own ho)
    have Ru := hid ho
    have hzu := hb.size
    replace B : Hid (Below w.heap.size w w3) := B.out.trans (hb.mono B.out.size)
    replace Rv : Hid (World.ownsRow w3 w.heap.size 36 2 (.slice va xs.length vc) xs.length (flat xs)) := row_below hb Rv.out
    replace Xv : Hid (w3.heap[b2]? = some (.cells #[.string x, .string y, .slice va xs.length vc] 39 (0, 0))) := below_heap hb (lt_of_heap Xv.out) Xv.out
    clear hb ho
    have kXv_0 : w3.cell? ⟨b2, 0, none⟩ = some (.string x) := heap_cell Xv.out 0
    have kXv_1 : w3.cell? ⟨b2, 1, none⟩ = some (.string y) := heap_cell Xv.out 1
    have kXv_2 : w3.cell? ⟨b2, 2, none⟩ = some (.slice va xs.length vc) := heap_cell Xv.out 2
    have lXv : b2 < w3.heap.size := lt_of_heap Xv.out
    go_wp2_with fail
    clear kXv_0 kXv_1 kXv_2 lXv
    have hb : Below w3.heap.size w3 (w3.alloc (.cells #[.string x, .string y, .slice ua xs.length uc] 39)) := (Below.refl _ _).alloc (Nat.le_refl _) _
    replace B : Hid (Below w.heap.size w (w3.alloc (.cells #[.string x, .string y, .slice ua xs.length uc] 39))) := B.out.trans (hb.mono B.out.size)
    replace Rv : Hid (World.ownsRow (w3.alloc (.cells #[.string x, .string y, .slice ua xs.length uc] 39)) w.heap.size 36 2 (.slice va xs.length vc) xs.length (flat xs)) := row_below hb Rv.out
    replace Xv : Hid ((w3.alloc (.cells #[.string x, .string y, .slice ua xs.length uc] 39)).heap[b2]? = some (.cells #[.string x, .string y, .slice va xs.length vc] 39 (0, 0))) := below_heap hb (lt_of_heap Xv.out) Xv.out
    replace Ru : Hid (World.ownsRow (w3.alloc (.cells #[.string x, .string y, .slice ua xs.length uc] 39)) w2.heap.size 36 2 (.slice ua xs.length uc) xs.length (flat xs)) := row_below hb Ru.out
    have Xu : Hid ((w3.alloc (.cells #[.string x, .string y, .slice ua xs.length uc] 39)).heap[w3.heap.size]? = some (.cells #[.string x, .string y, .slice ua xs.length uc] 39 (0, 0))) := heap_alloc_new _ _
    clear hb
    generalize w3.alloc (.cells #[.string x, .string y, .slice ua xs.length uc] 39) = w4 at *
    generalize w3.heap.size = b4 at *
    refine (eqInstance_same x y _ _ xs w4 (sp_row Ru.out HZ.out) (sp_row Rv.out HZ.out)).mono ?_
    rintro e w5 ⟨rfl, hb⟩
    replace B : Hid (Below w.heap.size w w5) := B.out.trans (hb.mono B.out.size)
    replace Rv : Hid (World.ownsRow w5 w.heap.size 36 2 (.slice va xs.length vc) xs.length (flat xs)) := row_below hb Rv.out
    replace Xv : Hid (w5.heap[b2]? = some (.cells #[.string x, .string y, .slice va xs.length vc] 39 (0, 0))) := below_heap hb (lt_of_heap Xv.out) Xv.out
    replace Ru : Hid (World.ownsRow w5 w2.heap.size 36 2 (.slice ua xs.length uc) xs.length (flat xs)) := row_below hb Ru.out
    replace Xu : Hid (w5.heap[b4]? = some (.cells #[.string x, .string y, .slice ua xs.length uc] 39 (0, 0))) := below_heap hb (lt_of_heap Xu.out) Xu.out
    clear hb 
    have kXv_0 : w5.cell? ⟨b2, 0, none⟩ = some (.string x) := heap_cell Xv.out 0
    have kXv_1 : w5.cell? ⟨b2, 1, none⟩ = some (.string y) := heap_cell Xv.out 1
    have kXv_2 : w5.cell? ⟨b2, 2, none⟩ = some (.slice va xs.length vc) := heap_cell Xv.out 2
    have lXv : b2 < w5.heap.size := lt_of_heap Xv.out
    have kXu_0 : w5.cell? ⟨b4, 0, none⟩ = some (.string x) := heap_cell Xu.out 0
    have kXu_1 : w5.cell? ⟨b4, 1, none⟩ = some (.string y) := heap_cell Xu.out 1
    have kXu_2 : w5.cell? ⟨b4, 2, none⟩ = some (.slice ua xs.length uc) := heap_cell Xu.out 2
    have lXu : b4 < w5.heap.size := lt_of_heap Xu.out
    go_wp2_with fail
    clear kXv_0 kXv_1 kXv_2 lXv kXu_0 kXu_1 kXu_2 lXu
    refine (markInst_v x y ua uc xs 1 w5 _ (by decide) (by decide) (by have := HN2.out; omega) Ru.out).mono ?_
    rintro e w6 ⟨rfl, hm, hgr⟩
    have hzm := hgr.size
    have hov := fun g h => (Ou.out g h).1
    replace B : Hid (Below w.heap.size w w6) := B.out.grown hgr B.out.size (fun g h => by have := hov g h; omega)
    replace Xv : Hid (w6.heap[b2]? = some (.cells #[.string x, .string y, .slice va xs.length vc] 39 (0, 0))) := keep_row hgr Ru.out Xv.out (by decide)
    replace Xu : Hid (w6.heap[b4]? = some (.cells #[.string x, .string y, .slice ua xs.length uc] 39 (0, 0))) := keep_row hgr Ru.out Xu.out (by decide)
    replace Rv : Hid (World.ownsRow w6 w.heap.size 36 2 (.slice va xs.length vc) xs.length (flat xs)) := row_grown hgr Rv.out (fun g h e => by have h1 := (Ov.out g h).2; have h2 := hov g e; omega)
    have M := hid hm
    clear hm hgr hov Ru
    have hneg : ¬ (((1 + xs.length * 2 : Nat) : Int) < 0) := by omega
    have hsame : (((1 + xs.length * 2 : Nat) : Int) != ((1 + xs.length * 2 : Nat) : Int)) = false := by simp
    have kXv_0 : w6.cell? ⟨b2, 0, none⟩ = some (.string x) := heap_cell Xv.out 0
    have kXv_1 : w6.cell? ⟨b2, 1, none⟩ = some (.string y) := heap_cell Xv.out 1
    have kXv_2 : w6.cell? ⟨b2, 2, none⟩ = some (.slice va xs.length vc) := heap_cell Xv.out 2
    have lXv : b2 < w6.heap.size := lt_of_heap Xv.out
    have kXu_0 : w6.cell? ⟨b4, 0, none⟩ = some (.string x) := heap_cell Xu.out 0
    have kXu_1 : w6.cell? ⟨b4, 1, none⟩ = some (.string y) := heap_cell Xu.out 1
    have kXu_2 : w6.cell? ⟨b4, 2, none⟩ = some (.slice ua xs.length uc) := heap_cell Xu.out 2
    have lXu : b4 < w6.heap.size := lt_of_heap Xu.out
    go_wp2_with fail
    clear kXv_0 kXv_1 kXv_2 lXv kXu_0 kXu_1 kXu_2 lXu
    refine (heldInst_v x y ua uc xs.length 1 w6 (by decide) (by decide) (by have := HN2.out; omega) M.out).mono ?_
    rintro e w7 ⟨rfl, hb⟩
    replace B : Hid (Below w.heap.size w w7) := B.out.trans (hb.mono B.out.size)
    replace Rv : Hid (World.ownsRow w7 w.heap.size 36 2 (.slice va xs.length vc) xs.length (flat xs)) := row_below hb Rv.out
    replace Xv : Hid (w7.heap[b2]? = some (.cells #[.string x, .string y, .slice va xs.length vc] 39 (0, 0))) := below_heap hb (lt_of_heap Xv.out) Xv.out
    replace Xu : Hid (w7.heap[b4]? = some (.cells #[.string x, .string y, .slice ua xs.length uc] 39 (0, 0))) := below_heap hb (lt_of_heap Xu.out) Xu.out
    replace M : Hid (PInM.HM w7 (.slice ua xs.length uc) xs.length 1) := M.out.below hb
    clear hb 
    have kXv_0 : w7.cell? ⟨b2, 0, none⟩ = some (.string x) := heap_cell Xv.out 0
    have kXv_1 : w7.cell? ⟨b2, 1, none⟩ = some (.string y) := heap_cell Xv.out 1
    have kXv_2 : w7.cell? ⟨b2, 2, none⟩ = some (.slice va xs.length vc) := heap_cell Xv.out 2
    have lXv : b2 < w7.heap.size := lt_of_heap Xv.out
    have kXu_0 : w7.cell? ⟨b4, 0, none⟩ = some (.string x) := heap_cell Xu.out 0
    have kXu_1 : w7.cell? ⟨b4, 1, none⟩ = some (.string y) := heap_cell Xu.out 1
    have kXu_2 : w7.cell? ⟨b4, 2, none⟩ = some (.slice ua xs.length uc) := heap_cell Xu.out 2
    have lXu : b4 < w7.heap.size := lt_of_heap Xu.out
    go_wp2_with fail
    clear kXv_0 kXv_1 kXv_2 lXv kXu_0 kXu_1 kXu_2 lXu
    have hzbt : w.heap.size ≤ w7.heap.size := B.out.size
    have hzxtXv : b2 < w7.heap.size := lt_of_heap Xv.out
    have hzxtXu : b4 < w7.heap.size := lt_of_heap Xu.out
    refine (show Calls Tryd.prog _ _ _ (PIPost w7 ((x, y), xs, ok)) from by rw [HR.out]; exact ParseInstance_impl l w7 hl (hm_below HMX.out B.out)).mono ?_
    rintro e w8 ⟨t, rfl, ho, hb⟩
    obtain ⟨ta, tc, rfl⟩ := row_slice ho
    have Ot := hid (row_own ho)
    have Rt := hid ho
    have hzt := hb.size
    replace B : Hid (Below w.heap.size w w8) := B.out.trans (hb.mono B.out.size)
    replace Rv : Hid (World.ownsRow w8 w.heap.size 36 2 (.slice va xs.length vc) xs.length (flat xs)) := row_below hb Rv.out
    replace Xv : Hid (w8.heap[b2]? = some (.cells #[.string x, .string y, .slice va xs.length vc] 39 (0, 0))) := below_heap hb (lt_of_heap Xv.out) Xv.out
    replace Xu : Hid (w8.heap[b4]? = some (.cells #[.string x, .string y, .slice ua xs.length uc] 39 (0, 0))) := below_heap hb (lt_of_heap Xu.out) Xu.out
    replace M : Hid (PInM.HM w8 (.slice ua xs.length uc) xs.length 1) := M.out.below hb
    clear hb ho
    have kXv_0 : w8.cell? ⟨b2, 0, none⟩ = some (.string x) := heap_cell Xv.out 0
    have kXv_1 : w8.cell? ⟨b2, 1, none⟩ = some (.string y) := heap_cell Xv.out 1
    have kXv_2 : w8.cell? ⟨b2, 2, none⟩ = some (.slice va xs.length vc) := heap_cell Xv.out 2
    have lXv : b2 < w8.heap.size := lt_of_heap Xv.out
    have kXu_0 : w8.cell? ⟨b4, 0, none⟩ = some (.string x) := heap_cell Xu.out 0
    have kXu_1 : w8.cell? ⟨b4, 1, none⟩ = some (.string y) := heap_cell Xu.out 1
    have kXu_2 : w8.cell? ⟨b4, 2, none⟩ = some (.slice ua xs.length uc) := heap_cell Xu.out 2
    have lXu : b4 < w8.heap.size := lt_of_heap Xu.out
    go_wp2_with fail
    clear kXv_0 kXv_1 kXv_2 lXv kXu_0 kXu_1 kXu_2 lXu
    have hb : Below w8.heap.size w8 (w8.alloc (.cells #[.string x, .string y, .slice ta xs.length tc] 39)) := (Below.refl _ _).alloc (Nat.le_refl _) _
    replace B : Hid (Below w.heap.size w (w8.alloc (.cells #[.string x, .string y, .slice ta xs.length tc] 39))) := B.out.trans (hb.mono B.out.size)
    replace Rv : Hid (World.ownsRow (w8.alloc (.cells #[.string x, .string y, .slice ta xs.length tc] 39)) w.heap.size 36 2 (.slice va xs.length vc) xs.length (flat xs)) := row_below hb Rv.out
    replace Xv : Hid ((w8.alloc (.cells #[.string x, .string y, .slice ta xs.length tc] 39)).heap[b2]? = some (.cells #[.string x, .string y, .slice va xs.length vc] 39 (0, 0))) := below_heap hb (lt_of_heap Xv.out) Xv.out
    replace Xu : Hid ((w8.alloc (.cells #[.string x, .string y, .slice ta xs.length tc] 39)).heap[b4]? = some (.cells #[.string x, .string y, .slice ua xs.length uc] 39 (0, 0))) := below_heap hb (lt_of_heap Xu.out) Xu.out
    replace M : Hid (PInM.HM (w8.alloc (.cells #[.string x, .string y, .slice ta xs.length tc] 39)) (.slice ua xs.length uc) xs.length 1) := M.out.below hb
    replace Rt : Hid (World.ownsRow (w8.alloc (.cells #[.string x, .string y, .slice ta xs.length tc] 39)) w7.heap.size 36 2 (.slice ta xs.length tc) xs.length (flat xs)) := row_below hb Rt.out
    have Xt : Hid ((w8.alloc (.cells #[.string x, .string y, .slice ta xs.length tc] 39)).heap[w8.heap.size]? = some (.cells #[.string x, .string y, .slice ta xs.length tc] 39 (0, 0))) := heap_alloc_new _ _
    clear hb
    generalize w8.alloc (.cells #[.string x, .string y, .slice ta xs.length tc] 39) = w9 at *
    generalize w8.heap.size = b9 at *
    refine (eqInstance_same x y _ _ xs w9 (sp_row Rt.out HZ.out) (sp_row Rv.out HZ.out)).mono ?_
    rintro e w10 ⟨rfl, hb⟩
    replace B : Hid (Below w.heap.size w w10) := B.out.trans (hb.mono B.out.size)
    replace Rv : Hid (World.ownsRow w10 w.heap.size 36 2 (.slice va xs.length vc) xs.length (flat xs)) := row_below hb Rv.out
    replace Xv : Hid (w10.heap[b2]? = some (.cells #[.string x, .string y, .slice va xs.length vc] 39 (0, 0))) := below_heap hb (lt_of_heap Xv.out) Xv.out
    replace Xu : Hid (w10.heap[b4]? = some (.cells #[.string x, .string y, .slice ua xs.length uc] 39 (0, 0))) := below_heap hb (lt_of_heap Xu.out) Xu.out
    replace M : Hid (PInM.HM w10 (.slice ua xs.length uc) xs.length 1) := M.out.below hb
    replace Rt : Hid (World.ownsRow w10 w7.heap.size 36 2 (.slice ta xs.length tc) xs.length (flat xs)) := row_below hb Rt.out
    replace Xt : Hid (w10.heap[b9]? = some (.cells #[.string x, .string y, .slice ta xs.length tc] 39 (0, 0))) := below_heap hb (lt_of_heap Xt.out) Xt.out
    clear hb 
    have kXv_0 : w10.cell? ⟨b2, 0, none⟩ = some (.string x) := heap_cell Xv.out 0
    have kXv_1 : w10.cell? ⟨b2, 1, none⟩ = some (.string y) := heap_cell Xv.out 1
    have kXv_2 : w10.cell? ⟨b2, 2, none⟩ = some (.slice va xs.length vc) := heap_cell Xv.out 2
    have lXv : b2 < w10.heap.size := lt_of_heap Xv.out
    have kXu_0 : w10.cell? ⟨b4, 0, none⟩ = some (.string x) := heap_cell Xu.out 0
    have kXu_1 : w10.cell? ⟨b4, 1, none⟩ = some (.string y) := heap_cell Xu.out 1
    have kXu_2 : w10.cell? ⟨b4, 2, none⟩ = some (.slice ua xs.length uc) := heap_cell Xu.out 2
    have lXu : b4 < w10.heap.size := lt_of_heap Xu.out
    have kXt_0 : w10.cell? ⟨b9, 0, none⟩ = some (.string x) := heap_cell Xt.out 0
    have kXt_1 : w10.cell? ⟨b9, 1, none⟩ = some (.string y) := heap_cell Xt.out 1
    have kXt_2 : w10.cell? ⟨b9, 2, none⟩ = some (.slice ta xs.length tc) := heap_cell Xt.out 2
    have lXt : b9 < w10.heap.size := lt_of_heap Xt.out
    go_wp2_with fail
    clear kXv_0 kXv_1 kXv_2 lXv kXu_0 kXu_1 kXu_2 lXu kXt_0 kXt_1 kXt_2 lXt
    refine (heldInst_v x y ua uc xs.length 1 w10 (by decide) (by decide) (by have := HN2.out; omega) M.out).mono ?_
    rintro e w11 ⟨rfl, hb⟩
    replace B : Hid (Below w.heap.size w w11) := B.out.trans (hb.mono B.out.size)
    replace Rv : Hid (World.ownsRow w11 w.heap.size 36 2 (.slice va xs.length vc) xs.length (flat xs)) := row_below hb Rv.out
    replace Xv : Hid (w11.heap[b2]? = some (.cells #[.string x, .string y, .slice va xs.length vc] 39 (0, 0))) := below_heap hb (lt_of_heap Xv.out) Xv.out
    replace Xu : Hid (w11.heap[b4]? = some (.cells #[.string x, .string y, .slice ua xs.length uc] 39 (0, 0))) := below_heap hb (lt_of_heap Xu.out) Xu.out
    replace M : Hid (PInM.HM w11 (.slice ua xs.length uc) xs.length 1) := M.out.below hb
    replace Rt : Hid (World.ownsRow w11 w7.heap.size 36 2 (.slice ta xs.length tc) xs.length (flat xs)) := row_below hb Rt.out
    replace Xt : Hid (w11.heap[b9]? = some (.cells #[.string x, .string y, .slice ta xs.length tc] 39 (0, 0))) := below_heap hb (lt_of_heap Xt.out) Xt.out
    clear hb 
    go_wp2
    go_ret
    exact ⟨rfl, B.out⟩

theorem lifted (os : Os) (started : os.Started) (H : Type) (enc : TypeId × Value → H) :
    ReturnsInHanded {} Tryd.checked os 6 .any (fun w args => (Rows.fnExactParseInstanceSpec.pre enc Tryd.prog Tryd.f6 Rows.fnExactParseInstanceRow.domain false w args ∧ laidMetH Tryd.prog Rows.fnExactParseInstanceRow.laid w) ∧ sizedMet enc Tryd.prog Tryd.f6 (OpenSpec.ofChange Rows.fnExactParseInstanceSpec) false w args) (Rows.fnExactParseInstanceSpec.post enc Tryd.prog Tryd.f6 false true false false) := by
  refine Shp.lifted_and_shape (C := Tryd.checked) (X := fun w _ => laidMetH Tryd.prog Rows.fnExactParseInstanceRow.laid w) (fun _ _ _ hh h => h.of_heap hh) own started (by kernel_rfl) Tryd.func6
    (ChangeSpec.witness_shaped (enc := enc) (C := Tryd.checked) (os := os) (X := fun w _ => laidMetH Tryd.prog Rows.fnExactParseInstanceRow.laid w) false (World.laidAll Tryd.prog os Rows.fnExactParseInstanceRow.laid) #[.string ByteArray.empty] 8 (World.laidAll_os _ _ _)
      (World.shaped_of_ZipB (by kernel_rfl) (by kernel_rfl)) (by kernel_rfl) (by kernel_rfl) (by kernel_rfl)
      (by rw [MakeChecks.laidMetH_plain _ _ _ (by kernel_rfl)]; exact laidMet_laidAll _ (by kernel_rfl) (by kernel_rfl))) ?_
  intro W base args ds gs before hsh _ hval0 hW hcnd _
  have hmx := cell_of_shapedOpen_int (P := Tryd.prog) (g := 0) (t := 3) (zero := #[.int .i64 0]) hsh (of_decide_eq_true (by kernel_rfl)) (by kernel_rfl) rfl (by kernel_rfl) (by kernel_rfl) Tryd.underlying3
  have hval : ∀ (j : Nat) t v, Tryd.f6.params[j]? = some t → args[j]? = some v → Value.okWide Tryd.prog W .any base t v := hval0
  have hW' := hW
  obtain ⟨p, q, hA0, hV, rfl, hfz, hnd⟩ := hW
  have hA : DataW.TrodAll enc Tryd.prog W 0 (fun _ => true) true Tryd.f6.params.toList args.toList ds p := hA0
  rw [Tryd.params6] at hA hval
  have hL := DataW.TrodAll.lt hA
  obtain ⟨v0, vs0, d0, ds0, p0, q0, hargs, rfl, rfl, h0, r0⟩ := trodAll_cons hA
  obtain ⟨rfl, rfl, rfl⟩ := trodAll_nil r0
  obtain rfl : args = #[v0] := by cases args; simp_all
  obtain ⟨rfl, rfl⟩ := trodVars_none hV
  have k0 := h0
  have l0 : ∀ x ∈ p0, x.block < W.heap.size := fun x hx => hL x (by simp [hx])
  obtain ⟨a0, rfl, -, -, w0⟩ := open_string Tryd.underlying9 (hval 0 9 v0 rfl rfl) h0
  clear hA0 hval0
  simp only [List.append_nil] at hW'
  refine (walk a0 w0 W hmx).mono fun e W' ⟨he, bel⟩ => ?_
  subst he
  exact ⟨_, rfl, _, _, _, [], _, [], hW', (trodAll_cons_mk (shut_bool Tryd.underlying4 _) trodAll_mk0), (trodAll_cons_mk (Below.trod laidOut (by kernel_rfl) (of_decide_eq_true (by kernel_rfl)) k0 bel l0) trodAll_mk0), rfl, bel.frame _, fun h => by cases h⟩
theorem e1 : Rows.fnExactParseInstanceRow.lifted = Rows.fnExactInstancesInRow.lifted := rfl
theorem e2 : Rows.fnExactParseInstanceRow.make = Rows.fnExactInstancesInRow.make := rfl
theorem e3 : Rows.fnExactParseInstanceRow.plainKeys = Rows.fnExactInstancesInRow.plainKeys := rfl
theorem facts : joinedFacts Tryd.pinned.checked.prog 6 Tryd.f6 Rows.fnExactParseInstanceSpec Rows.fnExactParseInstanceRow = true := by
  refine Facts.joined e1 e2 e3 ?_ ?_ ?_ ?_ ?_ ?_ ?_ ?_ ?_ ?_ ?_ ?_ ?_ ?_ ?_ ?_ ?_ ?_ ?_ ?_ ?_ ?_ ?_
  all_goals as_aux_lemma => kernel_rfl
theorem over : Rows.fnExactParseInstanceRow.holds Tryd.pinned (OpenSpec.ofChange Rows.fnExactParseInstanceSpec) :=
  OpenClaim.holds_of_wide 6 Tryd.f6 rfl rfl rfl rfl rfl rfl rfl ⟨rfl, rfl, rfl, rfl, rfl⟩ rfl rfl rfl rfl rfl (by kernel_rfl) Tryd.func6 facts
    (of_decide_eq_true (by kernel_rfl)) (by unfold Func.isWrapper; first | (rw [if_pos (by decide +kernel)]; kernel_rfl) | (rw [if_neg (by decide +kernel)]; exact ⟨rfl, rfl⟩))
    (fun os started H enc _ => lifted os started H enc)
end Go.Proofs.YtlckalgdfbpejaaDoor.fnExactParseInstance
namespace Go.Proofs.YtlckalgdfbpejaaDoor
theorem fnExactParseInstance_holds : Rows.FnExactParseInstanceCardSaid :=
  Claim7.holds_tied_plain_at .later [] Rows.fnExactParseInstanceCard.laidKinds true Rows.fnExactParseInstanceCard.stood.harness Rows.fnExactParseInstanceCard.stood.looks
    fnExactParseInstance.over (fun _ h => by cases h) (by kernel_rfl) (fun _ h => by cases h) fnExactParseInstance_row_tie rfl ⟨rfl, rfl⟩ (by kernel_rfl) rfl
    (fun f fn hf hfn => by
      obtain rfl : f = 6 := Option.some.inj ((show Tryd.prog.funcNamed "loop.example/instancesearch/laws.FnExactParseInstance" = some 6 by kernel_rfl).symm.trans hf) |>.symm
      obtain rfl : fn = Tryd.f6 := (Option.some.inj (Tryd.func6.symm.trans hfn)).symm
      exact ⟨by kernel_rfl, fun j t ht => by
        rw [Tryd.params6] at ht
        have hm := Array.mem_of_getElem? ht
        have hall : (Tryd.f6.params.all fun u => !Tryd.prog.wantsStandIn u) = true := by kernel_rfl
        rw [Tryd.params6] at hall
        have := Array.all_eq_true'.1 hall t hm
        exact (show Tryd.prog.wantsStandIn t = false by simpa using this)⟩)
    (by kernel_rfl)
end Go.Proofs.YtlckalgdfbpejaaDoor
