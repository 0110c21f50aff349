/- FnInstanceText answers true for every input: instances and needs that are parsed from drawn texts have the text from which they are parsed; both programs answer alike. Conditions: none. -/
import Derived.Test.YtbdnhcfebgkpdaaDoorWDx
import Derived.Test.YtbdnhcfebgkpdaaDoorShp
import Derived.Test.YtbdnhcfebgkpdaaDoorRows
import Derived.Test.YtbdnhcfebgkpdaaDoorCards
import Derived.Test.YtbdnhcfebgkpdaaDoorTie
import Derived.LaidMore
import Derived.Lay
import Derived.SevenTiedAt
import Derived.Stop.Joined
import Derived.Test.YtbdnhcfebgkpdaaDoorFacts
import Derived.WalkKit
import Derived.ProofKit
import Derived.OpenShut
import Derived.ShutString
import Derived.ChangeOld
import Derived.Below
import Derived.Carry
import Derived.Lib.SmallJoins
set_option linter.unusedVariables false
set_option linter.unusedSimpArgs false
set_option maxRecDepth 100000
namespace Go.Proofs.YtbdnhcfebgkpdaaDoor.fnInstanceText
open Go.ChangeShapes Go.WideShapes Go.ChangeAt Go.RowKit Go.Joins Ty ListS PInP PIn FmtI
open Go.ChangeMaps (open_string shut_string)

theorem own : ownKnob Tryd.prog.godebug = none := by kernel_rfl
theorem laidOut : laidOutB Tryd.prog = true := by kernel_rfl
theorem bytes (s : ByteArray) : ∃ l : List UInt8, s = ⟨l.toArray⟩ ∧ s.size = l.length := ⟨s.data.toList, rfl, by simp⟩
/-- what ParseNeed returns -/
def nB (l : List UInt8) : ByteArray × ByteArray × Bool := match needB l with | some p => (p.1, p.2, true) | none => (⟨#[]⟩, ⟨#[]⟩, false)
theorem nB_ok {l : List UInt8} {x y : ByteArray} (h : (x, y, true) = nB l) : needText x y = ⟨l.toArray⟩ ∧ (ty y.data.toList).isSome = true := by
  unfold nB at h
  split at h
  · rename_i p hp
    cases h
    obtain ⟨c, t, rfl, -, h2, rfl⟩ := needB_some hp
    refine ⟨?_, by simpa using h2⟩
    apply ByteArray.ext
    have := FmtI.needT_data (⟨#[c]⟩, ⟨t.toArray⟩)
    rw [show needText _ _ = FmtI.needT (⟨#[c]⟩, ⟨t.toArray⟩) from rfl, this]
    simp
  · simp at h
theorem PN_i (l : List UInt8) (w : World) (hl : l.length ≤ 2147483648) : Calls Tryd.prog 9 #[.string ⟨l.toArray⟩] w fun e w' => e = .returned (.tuple #[.agg #[.string (nB l).1, .string (nB l).2.1], .bool (nB l).2.2]) ∧ Below w.heap.size w w' :=
  (PIn.PN_impl l w hl).mono fun e w' h => by
    obtain ⟨h1, h2⟩ := h
    refine ⟨?_, h2⟩
    rw [h1]
    unfold nB
    cases needB l <;> rfl
theorem PN_s (l : List UInt8) (w : World) (hl : l.length ≤ 2147483648) : Calls Tryd.prog 10 #[.string ⟨l.toArray⟩] w fun e w' => e = .returned (.tuple #[.agg #[.string (nB l).1, .string (nB l).2.1], .bool (nB l).2.2]) ∧ Below w.heap.size w w' :=
  (PIn.PN_spec l w hl).mono fun e w' h => by
    obtain ⟨h1, h2⟩ := h
    refine ⟨?_, h2⟩
    rw [h1]
    unfold nB
    cases needB l <;> rfl
theorem nB_size (l : List UInt8) : (nB l).1.size + (nB l).2.1.size ≤ l.length := by
  unfold nB
  split
  · rename_i p hp
    have := PWo.need_size hp
    dsimp only
    omega
  · exact Nat.zero_le _
theorem rI_ok {l : List UInt8} {x y : ByteArray} {xs : List BB} (h : ((x, y), xs, true) = PIn.rI l) : FmtI.fmtI x y xs = ⟨l.toArray⟩ := by
  unfold PIn.rI at h
  split at h
  · rename_i n ns hn
    cases h
    have h2 := PWoP.inst_text hn
    apply ByteArray.ext
    apply Array.ext'
    simpa using h2
  · simp at h
theorem rI_size {l : List UInt8} {x y : ByteArray} {xs : List BB} {ok : Bool} (h : ((x, y), xs, ok) = PIn.rI l) : x.size + y.size + tot xs + xs.length ≤ l.length + 1 := by
  unfold PIn.rI at h
  split at h
  · rename_i n ns hn
    cases h
    have h2 := PWo.inst_size hn
    unfold iw at h2
    dsimp only at h2
    omega
  · cases h
    show (0 : Nat) + 0 + 0 + 0 ≤ _
    omega
set_option maxHeartbeats 16000000 in
theorem walk (w : World) (v0 : Value) (xs0 : List Int) (s0 : Draw.SB w v0 xs0) (v1 : Value) (xs1 : List Int) (s1 : Draw.SB w v1 xs1) (hm : ∃ m, w.cell? ⟨0, 0, none⟩ = some (.int .i64 m)) :
    Calls Tryd.prog 3 #[v0, v1] w fun e w' => e = .returned (.bool true) ∧ Below w.heap.size w w' := by
  obtain ⟨a0, c0, rfl⟩ := Draw.sb_slice s0
  obtain ⟨a1, c1, rfl⟩ := Draw.sb_slice s1
  by_cases hl0 : 1048576 < xs0.length
  · have hl0' : (xs0.length : Int) > 1048576 := by omega
    go_enter Tryd.func3, Tryd.ntmps3
    go_wp2
    go_ret
    exact ⟨rfl, Below.refl _ _⟩
  by_cases hl1 : 1048576 < xs1.length
  · have hl1' : (xs1.length : Int) > 1048576 := by omega
    have hl0' : ¬ (xs0.length : Int) > 1048576 := by omega
    go_enter Tryd.func3, Tryd.ntmps3
    go_wp2
    go_ret
    exact ⟨rfl, Below.refl _ _⟩
  have hl0' : ¬ (xs0.length : Int) > 1048576 := by omega
  have hl1' : ¬ (xs1.length : Int) > 1048576 := by omega
  have S0 := hid s0
  have S1 := hid s1
  clear s0 s1
  have HB : Hid (Below w.heap.size w w) := Below.refl _ _
  have HM := hid hm
  clear hm
  go_enter Tryd.func3, Tryd.ntmps3
  go_wp2_with fail
  refine (Draw.DrawParseInstance_any _ xs0 w S0.out).mono ?_
  rintro e w1 ⟨s, rfl, -, hs, hb⟩
  replace HB : Hid (Below w.heap.size w w1) := HB.out.trans (hb.mono HB.out.size)
  replace HM : Hid (∃ m, World.cell? w1 ⟨0, 0, none⟩ = some (.int .i64 m)) := PIn.hm_below HM.out hb
  replace S1 : Hid (Draw.SB w1 (.slice a1 xs1.length c1) xs1) := S1.out.below hb
  clear hb
  obtain ⟨l, rfl, hz⟩ := bytes s
  have hl : l.length ≤ 1000 := by omega
  clear hz hs S0 hl0' hl1'
  obtain ⟨⟨⟨x, y⟩, xs, ok⟩, hr⟩ : ∃ r, r = PIn.rI l := ⟨_, rfl⟩
  have hrs := rI_size hr
  have HR := hid hr
  clear hr
  go_wp2_with fail
  refine (show Calls Tryd.prog _ _ w1 (PIn.PIPost w1 ((x, y), xs, ok)) from by rw [HR.out]; exact PIn.ParseInstance_impl l w1 (by omega) HM.out).mono ?_
  rintro e w2 ⟨v, rfl, hrow, hb⟩
  obtain ⟨R1a, R1c, rfl⟩ := row_slice hrow
  have R1 := hid hrow
  clear hrow
  replace HB : Hid (Below w.heap.size w w2) := HB.out.trans (hb.mono HB.out.size)
  replace HM : Hid (∃ m, World.cell? w2 ⟨0, 0, none⟩ = some (.int .i64 m)) := PIn.hm_below HM.out hb
  replace S1 : Hid (Draw.SB w2 (.slice a1 xs1.length c1) xs1) := S1.out.below hb
  clear hb
  go_wp2_with fail
  have hb : Below w2.heap.size w2 (w2.alloc (.cells #[.string x, .string y, .slice R1a xs.length R1c] 28)) := (Below.refl _ _).alloc (Nat.le_refl _) _
  replace HB : Hid (Below w.heap.size w (w2.alloc (.cells #[.string x, .string y, .slice R1a xs.length R1c] 28))) := HB.out.trans (hb.mono HB.out.size)
  replace HM : Hid (∃ m, World.cell? (w2.alloc (.cells #[.string x, .string y, .slice R1a xs.length R1c] 28)) ⟨0, 0, none⟩ = some (.int .i64 m)) := PIn.hm_below HM.out hb
  replace S1 : Hid (Draw.SB (w2.alloc (.cells #[.string x, .string y, .slice R1a xs.length R1c] 28)) (.slice a1 xs1.length c1) xs1) := S1.out.below hb
  replace R1 : Hid ((w2.alloc (.cells #[.string x, .string y, .slice R1a xs.length R1c] 28)).ownsRow w1.heap.size 25 2 (.slice R1a xs.length R1c) xs.length (flat xs)) := row_below hb R1.out
  clear hb
  have X6 : Hid ((w2.alloc (.cells #[.string x, .string y, .slice R1a xs.length R1c] 28)).heap[w2.heap.size]? = some (.cells #[.string x, .string y, .slice R1a xs.length R1c] 28 (0, 0))) := heap_alloc_new _ _
  generalize (w2.alloc (.cells #[.string x, .string y, .slice R1a xs.length R1c] 28)) = w3 at *
  obtain ⟨bX6, hbbX6⟩ : ∃ x, x = w2.heap.size := ⟨_, rfl⟩
  rw [← hbbX6] at X6 ⊢
  clear hbbX6
  refine (show Calls Tryd.prog _ _ w3 (PIn.PIPost w3 ((x, y), xs, ok)) from by rw [HR.out]; exact PIn.ParseInstance_spec l w3 (by omega)).mono ?_
  rintro e w4 ⟨v, rfl, hrow, hb⟩
  obtain ⟨R2a, R2c, rfl⟩ := row_slice hrow
  have R2 := hid hrow
  clear hrow
  replace HB : Hid (Below w.heap.size w w4) := HB.out.trans (hb.mono HB.out.size)
  replace HM : Hid (∃ m, World.cell? w4 ⟨0, 0, none⟩ = some (.int .i64 m)) := PIn.hm_below HM.out hb
  replace S1 : Hid (Draw.SB w4 (.slice a1 xs1.length c1) xs1) := S1.out.below hb
  replace R1 : Hid (w4.ownsRow w1.heap.size 25 2 (.slice R1a xs.length R1c) xs.length (flat xs)) := row_below hb R1.out
  replace X6 : Hid (w4.heap[bX6]? = some (.cells #[.string x, .string y, .slice R1a xs.length R1c] 28 (0, 0))) := below_heap hb (lt_of_heap X6.out) X6.out
  clear hb
  go_wp2_with fail
  have hb : Below w4.heap.size w4 (w4.alloc (.cells #[.string x, .string y, .slice R2a xs.length R2c] 28)) := (Below.refl _ _).alloc (Nat.le_refl _) _
  replace HB : Hid (Below w.heap.size w (w4.alloc (.cells #[.string x, .string y, .slice R2a xs.length R2c] 28))) := HB.out.trans (hb.mono HB.out.size)
  replace HM : Hid (∃ m, World.cell? (w4.alloc (.cells #[.string x, .string y, .slice R2a xs.length R2c] 28)) ⟨0, 0, none⟩ = some (.int .i64 m)) := PIn.hm_below HM.out hb
  replace S1 : Hid (Draw.SB (w4.alloc (.cells #[.string x, .string y, .slice R2a xs.length R2c] 28)) (.slice a1 xs1.length c1) xs1) := S1.out.below hb
  replace R1 : Hid ((w4.alloc (.cells #[.string x, .string y, .slice R2a xs.length R2c] 28)).ownsRow w1.heap.size 25 2 (.slice R1a xs.length R1c) xs.length (flat xs)) := row_below hb R1.out
  replace X6 : Hid ((w4.alloc (.cells #[.string x, .string y, .slice R2a xs.length R2c] 28)).heap[bX6]? = some (.cells #[.string x, .string y, .slice R1a xs.length R1c] 28 (0, 0))) := below_heap hb (lt_of_heap X6.out) X6.out
  replace R2 : Hid ((w4.alloc (.cells #[.string x, .string y, .slice R2a xs.length R2c] 28)).ownsRow w3.heap.size 25 2 (.slice R2a xs.length R2c) xs.length (flat xs)) := row_below hb R2.out
  clear hb
  have X8 : Hid ((w4.alloc (.cells #[.string x, .string y, .slice R2a xs.length R2c] 28)).heap[w4.heap.size]? = some (.cells #[.string x, .string y, .slice R2a xs.length R2c] 28 (0, 0))) := heap_alloc_new _ _
  generalize (w4.alloc (.cells #[.string x, .string y, .slice R2a xs.length R2c] 28)) = w5 at *
  obtain ⟨bX8, hbbX8⟩ : ∃ x, x = w4.heap.size := ⟨_, rfl⟩
  rw [← hbbX8] at X8 ⊢
  clear hbbX8
  refine (Draw.DrawParseNeed_any _ xs1 w5 S1.out).mono ?_
  rintro e w6 ⟨s, rfl, -, hs, hb⟩
  replace HB : Hid (Below w.heap.size w w6) := HB.out.trans (hb.mono HB.out.size)
  replace HM : Hid (∃ m, World.cell? w6 ⟨0, 0, none⟩ = some (.int .i64 m)) := PIn.hm_below HM.out hb
  replace S1 : Hid (Draw.SB w6 (.slice a1 xs1.length c1) xs1) := S1.out.below hb
  replace R1 : Hid (w6.ownsRow w1.heap.size 25 2 (.slice R1a xs.length R1c) xs.length (flat xs)) := row_below hb R1.out
  replace X6 : Hid (w6.heap[bX6]? = some (.cells #[.string x, .string y, .slice R1a xs.length R1c] 28 (0, 0))) := below_heap hb (lt_of_heap X6.out) X6.out
  replace R2 : Hid (w6.ownsRow w3.heap.size 25 2 (.slice R2a xs.length R2c) xs.length (flat xs)) := row_below hb R2.out
  replace X8 : Hid (w6.heap[bX8]? = some (.cells #[.string x, .string y, .slice R2a xs.length R2c] 28 (0, 0))) := below_heap hb (lt_of_heap X8.out) X8.out
  clear hb
  obtain ⟨l1, rfl, hz⟩ := bytes s
  have hl1 : l1.length ≤ 50 := by omega
  clear hz hs
  obtain ⟨⟨nx, ny, fine⟩, hr⟩ : ∃ r, r = nB l1 := ⟨_, rfl⟩
  have hns := nB_size l1
  rw [← hr] at hns
  dsimp only at hns
  have HN := hid hr
  clear hr
  go_wp2_with fail
  refine ((show Calls Tryd.prog _ _ w6 (fun e w' => e = .returned (.tuple #[.agg #[.string (nx, ny, fine).1, .string (nx, ny, fine).2.1], .bool (nx, ny, fine).2.2]) ∧ Below w6.heap.size w6 w') from by rw [HN.out]; exact PN_i l1 w6 (by omega))).mono ?_
  rintro e w7 ⟨rfl, hb⟩
  replace HB : Hid (Below w.heap.size w w7) := HB.out.trans (hb.mono HB.out.size)
  replace HM : Hid (∃ m, World.cell? w7 ⟨0, 0, none⟩ = some (.int .i64 m)) := PIn.hm_below HM.out hb
  replace S1 : Hid (Draw.SB w7 (.slice a1 xs1.length c1) xs1) := S1.out.below hb
  replace R1 : Hid (w7.ownsRow w1.heap.size 25 2 (.slice R1a xs.length R1c) xs.length (flat xs)) := row_below hb R1.out
  replace X6 : Hid (w7.heap[bX6]? = some (.cells #[.string x, .string y, .slice R1a xs.length R1c] 28 (0, 0))) := below_heap hb (lt_of_heap X6.out) X6.out
  replace R2 : Hid (w7.ownsRow w3.heap.size 25 2 (.slice R2a xs.length R2c) xs.length (flat xs)) := row_below hb R2.out
  replace X8 : Hid (w7.heap[bX8]? = some (.cells #[.string x, .string y, .slice R2a xs.length R2c] 28 (0, 0))) := below_heap hb (lt_of_heap X8.out) X8.out
  clear hb
  go_wp2_with fail
  have hb : Below w7.heap.size w7 (w7.alloc (.cells #[.string nx, .string ny] 25)) := (Below.refl _ _).alloc (Nat.le_refl _) _
  replace HB : Hid (Below w.heap.size w (w7.alloc (.cells #[.string nx, .string ny] 25))) := HB.out.trans (hb.mono HB.out.size)
  replace HM : Hid (∃ m, World.cell? (w7.alloc (.cells #[.string nx, .string ny] 25)) ⟨0, 0, none⟩ = some (.int .i64 m)) := PIn.hm_below HM.out hb
  replace S1 : Hid (Draw.SB (w7.alloc (.cells #[.string nx, .string ny] 25)) (.slice a1 xs1.length c1) xs1) := S1.out.below hb
  replace R1 : Hid ((w7.alloc (.cells #[.string nx, .string ny] 25)).ownsRow w1.heap.size 25 2 (.slice R1a xs.length R1c) xs.length (flat xs)) := row_below hb R1.out
  replace X6 : Hid ((w7.alloc (.cells #[.string nx, .string ny] 25)).heap[bX6]? = some (.cells #[.string x, .string y, .slice R1a xs.length R1c] 28 (0, 0))) := below_heap hb (lt_of_heap X6.out) X6.out
  replace R2 : Hid ((w7.alloc (.cells #[.string nx, .string ny] 25)).ownsRow w3.heap.size 25 2 (.slice R2a xs.length R2c) xs.length (flat xs)) := row_below hb R2.out
  replace X8 : Hid ((w7.alloc (.cells #[.string nx, .string ny] 25)).heap[bX8]? = some (.cells #[.string x, .string y, .slice R2a xs.length R2c] 28 (0, 0))) := below_heap hb (lt_of_heap X8.out) X8.out
  clear hb
  have X11 : Hid ((w7.alloc (.cells #[.string nx, .string ny] 25)).heap[w7.heap.size]? = some (.cells #[.string nx, .string ny] 25 (0, 0))) := heap_alloc_new _ _
  generalize (w7.alloc (.cells #[.string nx, .string ny] 25)) = w8 at *
  obtain ⟨bX11, hbbX11⟩ : ∃ x, x = w7.heap.size := ⟨_, rfl⟩
  rw [← hbbX11] at X11 ⊢
  clear hbbX11
  refine ((show Calls Tryd.prog _ _ w8 (fun e w' => e = .returned (.tuple #[.agg #[.string (nx, ny, fine).1, .string (nx, ny, fine).2.1], .bool (nx, ny, fine).2.2]) ∧ Below w8.heap.size w8 w') from by rw [HN.out]; exact PN_s l1 w8 (by omega))).mono ?_
  rintro e w9 ⟨rfl, hb⟩
  replace HB : Hid (Below w.heap.size w w9) := HB.out.trans (hb.mono HB.out.size)
  replace HM : Hid (∃ m, World.cell? w9 ⟨0, 0, none⟩ = some (.int .i64 m)) := PIn.hm_below HM.out hb
  replace S1 : Hid (Draw.SB w9 (.slice a1 xs1.length c1) xs1) := S1.out.below hb
  replace R1 : Hid (w9.ownsRow w1.heap.size 25 2 (.slice R1a xs.length R1c) xs.length (flat xs)) := row_below hb R1.out
  replace X6 : Hid (w9.heap[bX6]? = some (.cells #[.string x, .string y, .slice R1a xs.length R1c] 28 (0, 0))) := below_heap hb (lt_of_heap X6.out) X6.out
  replace R2 : Hid (w9.ownsRow w3.heap.size 25 2 (.slice R2a xs.length R2c) xs.length (flat xs)) := row_below hb R2.out
  replace X8 : Hid (w9.heap[bX8]? = some (.cells #[.string x, .string y, .slice R2a xs.length R2c] 28 (0, 0))) := below_heap hb (lt_of_heap X8.out) X8.out
  replace X11 : Hid (w9.heap[bX11]? = some (.cells #[.string nx, .string ny] 25 (0, 0))) := below_heap hb (lt_of_heap X11.out) X11.out
  clear hb
  go_wp2_with fail
  have hb : Below w9.heap.size w9 (w9.alloc (.cells #[.string nx, .string ny] 25)) := (Below.refl _ _).alloc (Nat.le_refl _) _
  replace HB : Hid (Below w.heap.size w (w9.alloc (.cells #[.string nx, .string ny] 25))) := HB.out.trans (hb.mono HB.out.size)
  replace HM : Hid (∃ m, World.cell? (w9.alloc (.cells #[.string nx, .string ny] 25)) ⟨0, 0, none⟩ = some (.int .i64 m)) := PIn.hm_below HM.out hb
  replace S1 : Hid (Draw.SB (w9.alloc (.cells #[.string nx, .string ny] 25)) (.slice a1 xs1.length c1) xs1) := S1.out.below hb
  replace R1 : Hid ((w9.alloc (.cells #[.string nx, .string ny] 25)).ownsRow w1.heap.size 25 2 (.slice R1a xs.length R1c) xs.length (flat xs)) := row_below hb R1.out
  replace X6 : Hid ((w9.alloc (.cells #[.string nx, .string ny] 25)).heap[bX6]? = some (.cells #[.string x, .string y, .slice R1a xs.length R1c] 28 (0, 0))) := below_heap hb (lt_of_heap X6.out) X6.out
  replace R2 : Hid ((w9.alloc (.cells #[.string nx, .string ny] 25)).ownsRow w3.heap.size 25 2 (.slice R2a xs.length R2c) xs.length (flat xs)) := row_below hb R2.out
  replace X8 : Hid ((w9.alloc (.cells #[.string nx, .string ny] 25)).heap[bX8]? = some (.cells #[.string x, .string y, .slice R2a xs.length R2c] 28 (0, 0))) := below_heap hb (lt_of_heap X8.out) X8.out
  replace X11 : Hid ((w9.alloc (.cells #[.string nx, .string ny] 25)).heap[bX11]? = some (.cells #[.string nx, .string ny] 25 (0, 0))) := below_heap hb (lt_of_heap X11.out) X11.out
  clear hb
  have X13 : Hid ((w9.alloc (.cells #[.string nx, .string ny] 25)).heap[w9.heap.size]? = some (.cells #[.string nx, .string ny] 25 (0, 0))) := heap_alloc_new _ _
  generalize (w9.alloc (.cells #[.string nx, .string ny] 25)) = w10 at *
  obtain ⟨bX13, hbbX13⟩ : ∃ x, x = w9.heap.size := ⟨_, rfl⟩
  rw [← hbbX13] at X13 ⊢
  clear hbbX13
  refine (Draw.DrawFormatInstance_any _ xs1 w10 S1.out).mono ?_
  rintro e w11 ⟨x3, y3, t3, n3, rfl, hi, hb⟩
  replace HB : Hid (Below w.heap.size w w11) := HB.out.trans (hb.mono HB.out.size)
  replace HM : Hid (∃ m, World.cell? w11 ⟨0, 0, none⟩ = some (.int .i64 m)) := PIn.hm_below HM.out hb
  replace S1 : Hid (Draw.SB w11 (.slice a1 xs1.length c1) xs1) := S1.out.below hb
  replace R1 : Hid (w11.ownsRow w1.heap.size 25 2 (.slice R1a xs.length R1c) xs.length (flat xs)) := row_below hb R1.out
  replace X6 : Hid (w11.heap[bX6]? = some (.cells #[.string x, .string y, .slice R1a xs.length R1c] 28 (0, 0))) := below_heap hb (lt_of_heap X6.out) X6.out
  replace R2 : Hid (w11.ownsRow w3.heap.size 25 2 (.slice R2a xs.length R2c) xs.length (flat xs)) := row_below hb R2.out
  replace X8 : Hid (w11.heap[bX8]? = some (.cells #[.string x, .string y, .slice R2a xs.length R2c] 28 (0, 0))) := below_heap hb (lt_of_heap X8.out) X8.out
  replace X11 : Hid (w11.heap[bX11]? = some (.cells #[.string nx, .string ny] 25 (0, 0))) := below_heap hb (lt_of_heap X11.out) X11.out
  replace X13 : Hid (w11.heap[bX13]? = some (.cells #[.string nx, .string ny] 25 (0, 0))) := below_heap hb (lt_of_heap X13.out) X13.out
  clear hb
  obtain ⟨hn, hx3, hy3, hn1, hn2⟩ := hi
  obtain ⟨ta, tc, rfl⟩ := row_slice hn
  have HT := hid hn
  have htn : tot n3 ≤ 480 := by have := Draw.tot_smallW n3 hn2; omega
  clear hn hn2 S1 HM
  go_wp2_with fail
  have hb : Below w11.heap.size w11 (w11.alloc (.cells #[.string x3, .string y3, .slice ta n3.length tc] 28)) := (Below.refl _ _).alloc (Nat.le_refl _) _
  replace HB : Hid (Below w.heap.size w (w11.alloc (.cells #[.string x3, .string y3, .slice ta n3.length tc] 28))) := HB.out.trans (hb.mono HB.out.size)
  replace R1 : Hid ((w11.alloc (.cells #[.string x3, .string y3, .slice ta n3.length tc] 28)).ownsRow w1.heap.size 25 2 (.slice R1a xs.length R1c) xs.length (flat xs)) := row_below hb R1.out
  replace X6 : Hid ((w11.alloc (.cells #[.string x3, .string y3, .slice ta n3.length tc] 28)).heap[bX6]? = some (.cells #[.string x, .string y, .slice R1a xs.length R1c] 28 (0, 0))) := below_heap hb (lt_of_heap X6.out) X6.out
  replace R2 : Hid ((w11.alloc (.cells #[.string x3, .string y3, .slice ta n3.length tc] 28)).ownsRow w3.heap.size 25 2 (.slice R2a xs.length R2c) xs.length (flat xs)) := row_below hb R2.out
  replace X8 : Hid ((w11.alloc (.cells #[.string x3, .string y3, .slice ta n3.length tc] 28)).heap[bX8]? = some (.cells #[.string x, .string y, .slice R2a xs.length R2c] 28 (0, 0))) := below_heap hb (lt_of_heap X8.out) X8.out
  replace X11 : Hid ((w11.alloc (.cells #[.string x3, .string y3, .slice ta n3.length tc] 28)).heap[bX11]? = some (.cells #[.string nx, .string ny] 25 (0, 0))) := below_heap hb (lt_of_heap X11.out) X11.out
  replace X13 : Hid ((w11.alloc (.cells #[.string x3, .string y3, .slice ta n3.length tc] 28)).heap[bX13]? = some (.cells #[.string nx, .string ny] 25 (0, 0))) := below_heap hb (lt_of_heap X13.out) X13.out
  replace HT : Hid ((w11.alloc (.cells #[.string x3, .string y3, .slice ta n3.length tc] 28)).ownsRow w10.heap.size 25 2 (.slice ta n3.length tc) n3.length (flat n3)) := row_below hb HT.out
  have X15 : Hid ((w11.alloc (.cells #[.string x3, .string y3, .slice ta n3.length tc] 28)).heap[w11.heap.size]? = some (.cells #[.string x3, .string y3, .slice ta n3.length tc] 28 (0, 0))) := heap_alloc_new _ _
  clear hb
  generalize (w11.alloc (.cells #[.string x3, .string y3, .slice ta n3.length tc] 28)) = wa at *
  obtain ⟨bX15, hb15⟩ : ∃ x, x = w11.heap.size := ⟨_, rfl⟩
  rw [← hb15] at X15 ⊢
  clear hb15
  refine wp_region_any (by kernel_rfl) ?_
  change wpAny _ _ _ _ _ _ _ (World.drew _)
  have hb : Below wa.heap.size wa wa.drew := (Below.refl _ _).drew
  replace HB : Hid (Below w.heap.size w wa.drew) := HB.out.trans (hb.mono HB.out.size)
  replace R1 : Hid (wa.drew.ownsRow w1.heap.size 25 2 (.slice R1a xs.length R1c) xs.length (flat xs)) := row_below hb R1.out
  replace X6 : Hid (wa.drew.heap[bX6]? = some (.cells #[.string x, .string y, .slice R1a xs.length R1c] 28 (0, 0))) := below_heap hb (lt_of_heap X6.out) X6.out
  replace R2 : Hid (wa.drew.ownsRow w3.heap.size 25 2 (.slice R2a xs.length R2c) xs.length (flat xs)) := row_below hb R2.out
  replace X8 : Hid (wa.drew.heap[bX8]? = some (.cells #[.string x, .string y, .slice R2a xs.length R2c] 28 (0, 0))) := below_heap hb (lt_of_heap X8.out) X8.out
  replace X11 : Hid (wa.drew.heap[bX11]? = some (.cells #[.string nx, .string ny] 25 (0, 0))) := below_heap hb (lt_of_heap X11.out) X11.out
  replace X13 : Hid (wa.drew.heap[bX13]? = some (.cells #[.string nx, .string ny] 25 (0, 0))) := below_heap hb (lt_of_heap X13.out) X13.out
  replace HT : Hid (wa.drew.ownsRow w10.heap.size 25 2 (.slice ta n3.length tc) n3.length (flat n3)) := row_below hb HT.out
  replace X15 : Hid (wa.drew.heap[bX15]? = some (.cells #[.string x3, .string y3, .slice ta n3.length tc] 28 (0, 0))) := below_heap hb (lt_of_heap X15.out) X15.out
  clear hb
  generalize wa.drew = w12 at *
  refine wpAny_of_T (S := fun X => X.cell? ⟨bX6, 0, none⟩ = some (.string x) ∧ X.cell? ⟨bX6, 1, none⟩ = some (.string y) ∧ X.cell? ⟨bX6, 2, none⟩ = some (.slice R1a xs.length R1c) ∧ X.cell? ⟨bX8, 0, none⟩ = some (.string x) ∧ X.cell? ⟨bX8, 1, none⟩ = some (.string y) ∧ X.cell? ⟨bX8, 2, none⟩ = some (.slice R2a xs.length R2c) ∧ X.cell? ⟨bX11, 0, none⟩ = some (.string nx) ∧ X.cell? ⟨bX11, 1, none⟩ = some (.string ny) ∧ X.cell? ⟨bX13, 0, none⟩ = some (.string nx) ∧ X.cell? ⟨bX13, 1, none⟩ = some (.string ny) ∧ X.cell? ⟨bX15, 0, none⟩ = some (.string x3) ∧ X.cell? ⟨bX15, 1, none⟩ = some (.string y3) ∧ X.cell? ⟨bX15, 2, none⟩ = some (.slice ta n3.length tc)) (m := 33) _ _ _ _ ?_
  refine wpAnyT_take (i := 0) (v := .agg #[.string x, .string y, .slice R1a xs.length R1c]) rfl (by kernel_rfl) (by kernel_rfl) (by kernel_rfl) (by kernel_rfl) (fun _ _ _ h => h) (Or.inl ⟨by kernel_rfl, fun X hS => by obtain ⟨e0, e1, e2, e3, e4, e5, e6, e7, e8, e9, e10, e11, e12⟩ := hS; go_simp⟩) ⟨heap_cell X6.out 0, heap_cell X6.out 1, heap_cell X6.out 2, heap_cell X8.out 0, heap_cell X8.out 1, heap_cell X8.out 2, heap_cell X11.out 0, heap_cell X11.out 1, heap_cell X13.out 0, heap_cell X13.out 1, heap_cell X15.out 0, heap_cell X15.out 1, heap_cell X15.out 2⟩ ?_
  try go_simp
  refine wpAnyT_take (i := 1) (v := .agg #[.string x, .string y, .slice R2a xs.length R2c]) rfl (by kernel_rfl) (by kernel_rfl) (by kernel_rfl) (by kernel_rfl) (fun _ _ _ h => h) (Or.inl ⟨by kernel_rfl, fun X hS => by obtain ⟨e0, e1, e2, e3, e4, e5, e6, e7, e8, e9, e10, e11, e12⟩ := hS; go_simp⟩) ⟨heap_cell X6.out 0, heap_cell X6.out 1, heap_cell X6.out 2, heap_cell X8.out 0, heap_cell X8.out 1, heap_cell X8.out 2, heap_cell X11.out 0, heap_cell X11.out 1, heap_cell X13.out 0, heap_cell X13.out 1, heap_cell X15.out 0, heap_cell X15.out 1, heap_cell X15.out 2⟩ ?_
  try go_simp
  refine wpAnyT_one 2 rfl (by kernel_rfl) (fun K hK => ?_)
  go_simp
  refine (InsC.inInstance_same x y _ _ xs w12 _ _ (by omega) R1.out R2.out).mono ?_
  rintro e w13 ⟨rfl, hb⟩
  replace HB : Hid (Below w.heap.size w w13) := HB.out.trans (hb.mono HB.out.size)
  replace R1 : Hid (w13.ownsRow w1.heap.size 25 2 (.slice R1a xs.length R1c) xs.length (flat xs)) := row_below hb R1.out
  replace X6 : Hid (w13.heap[bX6]? = some (.cells #[.string x, .string y, .slice R1a xs.length R1c] 28 (0, 0))) := below_heap hb (lt_of_heap X6.out) X6.out
  replace R2 : Hid (w13.ownsRow w3.heap.size 25 2 (.slice R2a xs.length R2c) xs.length (flat xs)) := row_below hb R2.out
  replace X8 : Hid (w13.heap[bX8]? = some (.cells #[.string x, .string y, .slice R2a xs.length R2c] 28 (0, 0))) := below_heap hb (lt_of_heap X8.out) X8.out
  replace X11 : Hid (w13.heap[bX11]? = some (.cells #[.string nx, .string ny] 25 (0, 0))) := below_heap hb (lt_of_heap X11.out) X11.out
  replace X13 : Hid (w13.heap[bX13]? = some (.cells #[.string nx, .string ny] 25 (0, 0))) := below_heap hb (lt_of_heap X13.out) X13.out
  replace HT : Hid (w13.ownsRow w10.heap.size 25 2 (.slice ta n3.length tc) n3.length (flat n3)) := row_below hb HT.out
  replace X15 : Hid (w13.heap[bX15]? = some (.cells #[.string x3, .string y3, .slice ta n3.length tc] 28 (0, 0))) := below_heap hb (lt_of_heap X15.out) X15.out
  clear hb
  refine hK _ _ (fun _ => ⟨heap_cell X6.out 0, heap_cell X6.out 1, heap_cell X6.out 2, heap_cell X8.out 0, heap_cell X8.out 1, heap_cell X8.out 2, heap_cell X11.out 0, heap_cell X11.out 1, heap_cell X13.out 0, heap_cell X13.out 1, heap_cell X15.out 0, heap_cell X15.out 1, heap_cell X15.out 2⟩) ?_
  clear hK K
  refine wpAnyT_take (i := 3) (v := .bool false) rfl (by kernel_rfl) (by kernel_rfl) (by kernel_rfl) (by kernel_rfl) (fun _ _ _ h => h) (Or.inl ⟨by kernel_rfl, fun X hS => by obtain ⟨e0, e1, e2, e3, e4, e5, e6, e7, e8, e9, e10, e11, e12⟩ := hS; go_simp⟩) ⟨heap_cell X6.out 0, heap_cell X6.out 1, heap_cell X6.out 2, heap_cell X8.out 0, heap_cell X8.out 1, heap_cell X8.out 2, heap_cell X11.out 0, heap_cell X11.out 1, heap_cell X13.out 0, heap_cell X13.out 1, heap_cell X15.out 0, heap_cell X15.out 1, heap_cell X15.out 2⟩ ?_
  try go_simp
  refine wpAnyT_take (i := 4) (v := .bool false) rfl (by kernel_rfl) (by kernel_rfl) (by kernel_rfl) (by kernel_rfl) (fun _ _ _ h => h) (Or.inl ⟨by kernel_rfl, fun X hS => by obtain ⟨e0, e1, e2, e3, e4, e5, e6, e7, e8, e9, e10, e11, e12⟩ := hS; go_simp⟩) ⟨heap_cell X6.out 0, heap_cell X6.out 1, heap_cell X6.out 2, heap_cell X8.out 0, heap_cell X8.out 1, heap_cell X8.out 2, heap_cell X11.out 0, heap_cell X11.out 1, heap_cell X13.out 0, heap_cell X13.out 1, heap_cell X15.out 0, heap_cell X15.out 1, heap_cell X15.out 2⟩ ?_
  try go_simp
  refine wpAnyT_take (i := 5) (v := .bool ok) rfl (by kernel_rfl) (by kernel_rfl) (by kernel_rfl) (by kernel_rfl) (fun _ _ _ h => h) (Or.inl ⟨by kernel_rfl, fun X hS => by obtain ⟨e0, e1, e2, e3, e4, e5, e6, e7, e8, e9, e10, e11, e12⟩ := hS; go_simp⟩) ⟨heap_cell X6.out 0, heap_cell X6.out 1, heap_cell X6.out 2, heap_cell X8.out 0, heap_cell X8.out 1, heap_cell X8.out 2, heap_cell X11.out 0, heap_cell X11.out 1, heap_cell X13.out 0, heap_cell X13.out 1, heap_cell X15.out 0, heap_cell X15.out 1, heap_cell X15.out 2⟩ ?_
  try go_simp
  refine wpAnyT_take (i := 6) (v := .bool ok) rfl (by kernel_rfl) (by kernel_rfl) (by kernel_rfl) (by kernel_rfl) (fun _ _ _ h => h) (Or.inl ⟨by kernel_rfl, fun X hS => by obtain ⟨e0, e1, e2, e3, e4, e5, e6, e7, e8, e9, e10, e11, e12⟩ := hS; go_simp⟩) ⟨heap_cell X6.out 0, heap_cell X6.out 1, heap_cell X6.out 2, heap_cell X8.out 0, heap_cell X8.out 1, heap_cell X8.out 2, heap_cell X11.out 0, heap_cell X11.out 1, heap_cell X13.out 0, heap_cell X13.out 1, heap_cell X15.out 0, heap_cell X15.out 1, heap_cell X15.out 2⟩ ?_
  try go_simp
  refine wpAnyT_take (i := 7) (v := .bool false) rfl (by kernel_rfl) (by kernel_rfl) (by kernel_rfl) (by kernel_rfl) (fun _ _ _ h => h) (Or.inl ⟨by kernel_rfl, fun X hS => by obtain ⟨e0, e1, e2, e3, e4, e5, e6, e7, e8, e9, e10, e11, e12⟩ := hS; go_simp; try simp⟩) ⟨heap_cell X6.out 0, heap_cell X6.out 1, heap_cell X6.out 2, heap_cell X8.out 0, heap_cell X8.out 1, heap_cell X8.out 2, heap_cell X11.out 0, heap_cell X11.out 1, heap_cell X13.out 0, heap_cell X13.out 1, heap_cell X15.out 0, heap_cell X15.out 1, heap_cell X15.out 2⟩ ?_
  try go_simp
  refine wpAnyT_take (i := 8) (v := .bool false) rfl (by kernel_rfl) (by kernel_rfl) (by kernel_rfl) (by kernel_rfl) (fun _ _ _ h => h) (Or.inl ⟨by kernel_rfl, fun X hS => by obtain ⟨e0, e1, e2, e3, e4, e5, e6, e7, e8, e9, e10, e11, e12⟩ := hS; go_simp⟩) ⟨heap_cell X6.out 0, heap_cell X6.out 1, heap_cell X6.out 2, heap_cell X8.out 0, heap_cell X8.out 1, heap_cell X8.out 2, heap_cell X11.out 0, heap_cell X11.out 1, heap_cell X13.out 0, heap_cell X13.out 1, heap_cell X15.out 0, heap_cell X15.out 1, heap_cell X15.out 2⟩ ?_
  try go_simp
  refine wpAnyT_take (i := 9) (v := .bool false) rfl (by kernel_rfl) (by kernel_rfl) (by kernel_rfl) (by kernel_rfl) (fun _ _ _ h => h) (Or.inl ⟨by kernel_rfl, fun X hS => by obtain ⟨e0, e1, e2, e3, e4, e5, e6, e7, e8, e9, e10, e11, e12⟩ := hS; go_simp⟩) ⟨heap_cell X6.out 0, heap_cell X6.out 1, heap_cell X6.out 2, heap_cell X8.out 0, heap_cell X8.out 1, heap_cell X8.out 2, heap_cell X11.out 0, heap_cell X11.out 1, heap_cell X13.out 0, heap_cell X13.out 1, heap_cell X15.out 0, heap_cell X15.out 1, heap_cell X15.out 2⟩ ?_
  try go_simp
  refine wpAnyT_take (i := 10) (v := .agg #[.string nx, .string ny]) rfl (by kernel_rfl) (by kernel_rfl) (by kernel_rfl) (by kernel_rfl) (fun _ _ _ h => h) (Or.inl ⟨by kernel_rfl, fun X hS => by obtain ⟨e0, e1, e2, e3, e4, e5, e6, e7, e8, e9, e10, e11, e12⟩ := hS; go_simp⟩) ⟨heap_cell X6.out 0, heap_cell X6.out 1, heap_cell X6.out 2, heap_cell X8.out 0, heap_cell X8.out 1, heap_cell X8.out 2, heap_cell X11.out 0, heap_cell X11.out 1, heap_cell X13.out 0, heap_cell X13.out 1, heap_cell X15.out 0, heap_cell X15.out 1, heap_cell X15.out 2⟩ ?_
  try go_simp
  refine wpAnyT_take (i := 11) (v := .agg #[.string nx, .string ny]) rfl (by kernel_rfl) (by kernel_rfl) (by kernel_rfl) (by kernel_rfl) (fun _ _ _ h => h) (Or.inl ⟨by kernel_rfl, fun X hS => by obtain ⟨e0, e1, e2, e3, e4, e5, e6, e7, e8, e9, e10, e11, e12⟩ := hS; go_simp⟩) ⟨heap_cell X6.out 0, heap_cell X6.out 1, heap_cell X6.out 2, heap_cell X8.out 0, heap_cell X8.out 1, heap_cell X8.out 2, heap_cell X11.out 0, heap_cell X11.out 1, heap_cell X13.out 0, heap_cell X13.out 1, heap_cell X15.out 0, heap_cell X15.out 1, heap_cell X15.out 2⟩ ?_
  try go_simp
  refine wpAnyT_take (i := 12) (v := .bool false) rfl (by kernel_rfl) (by kernel_rfl) (by kernel_rfl) (by kernel_rfl) (fun _ _ _ h => h) (Or.inl ⟨by kernel_rfl, fun X hS => by obtain ⟨e0, e1, e2, e3, e4, e5, e6, e7, e8, e9, e10, e11, e12⟩ := hS; go_simp; try simp⟩) ⟨heap_cell X6.out 0, heap_cell X6.out 1, heap_cell X6.out 2, heap_cell X8.out 0, heap_cell X8.out 1, heap_cell X8.out 2, heap_cell X11.out 0, heap_cell X11.out 1, heap_cell X13.out 0, heap_cell X13.out 1, heap_cell X15.out 0, heap_cell X15.out 1, heap_cell X15.out 2⟩ ?_
  try go_simp
  refine wpAnyT_take (i := 13) (v := .bool false) rfl (by kernel_rfl) (by kernel_rfl) (by kernel_rfl) (by kernel_rfl) (fun _ _ _ h => h) (Or.inl ⟨by kernel_rfl, fun X hS => by obtain ⟨e0, e1, e2, e3, e4, e5, e6, e7, e8, e9, e10, e11, e12⟩ := hS; go_simp⟩) ⟨heap_cell X6.out 0, heap_cell X6.out 1, heap_cell X6.out 2, heap_cell X8.out 0, heap_cell X8.out 1, heap_cell X8.out 2, heap_cell X11.out 0, heap_cell X11.out 1, heap_cell X13.out 0, heap_cell X13.out 1, heap_cell X15.out 0, heap_cell X15.out 1, heap_cell X15.out 2⟩ ?_
  try go_simp
  refine wpAnyT_take (i := 14) (v := .bool false) rfl (by kernel_rfl) (by kernel_rfl) (by kernel_rfl) (by kernel_rfl) (fun _ _ _ h => h) (Or.inl ⟨by kernel_rfl, fun X hS => by obtain ⟨e0, e1, e2, e3, e4, e5, e6, e7, e8, e9, e10, e11, e12⟩ := hS; go_simp⟩) ⟨heap_cell X6.out 0, heap_cell X6.out 1, heap_cell X6.out 2, heap_cell X8.out 0, heap_cell X8.out 1, heap_cell X8.out 2, heap_cell X11.out 0, heap_cell X11.out 1, heap_cell X13.out 0, heap_cell X13.out 1, heap_cell X15.out 0, heap_cell X15.out 1, heap_cell X15.out 2⟩ ?_
  try go_simp
  refine wpAnyT_take (i := 15) (v := .bool fine) rfl (by kernel_rfl) (by kernel_rfl) (by kernel_rfl) (by kernel_rfl) (fun _ _ _ h => h) (Or.inl ⟨by kernel_rfl, fun X hS => by obtain ⟨e0, e1, e2, e3, e4, e5, e6, e7, e8, e9, e10, e11, e12⟩ := hS; go_simp⟩) ⟨heap_cell X6.out 0, heap_cell X6.out 1, heap_cell X6.out 2, heap_cell X8.out 0, heap_cell X8.out 1, heap_cell X8.out 2, heap_cell X11.out 0, heap_cell X11.out 1, heap_cell X13.out 0, heap_cell X13.out 1, heap_cell X15.out 0, heap_cell X15.out 1, heap_cell X15.out 2⟩ ?_
  try go_simp
  refine wpAnyT_take (i := 16) (v := .bool fine) rfl (by kernel_rfl) (by kernel_rfl) (by kernel_rfl) (by kernel_rfl) (fun _ _ _ h => h) (Or.inl ⟨by kernel_rfl, fun X hS => by obtain ⟨e0, e1, e2, e3, e4, e5, e6, e7, e8, e9, e10, e11, e12⟩ := hS; go_simp⟩) ⟨heap_cell X6.out 0, heap_cell X6.out 1, heap_cell X6.out 2, heap_cell X8.out 0, heap_cell X8.out 1, heap_cell X8.out 2, heap_cell X11.out 0, heap_cell X11.out 1, heap_cell X13.out 0, heap_cell X13.out 1, heap_cell X15.out 0, heap_cell X15.out 1, heap_cell X15.out 2⟩ ?_
  try go_simp
  refine wpAnyT_take (i := 17) (v := .bool false) rfl (by kernel_rfl) (by kernel_rfl) (by kernel_rfl) (by kernel_rfl) (fun _ _ _ h => h) (Or.inl ⟨by kernel_rfl, fun X hS => by obtain ⟨e0, e1, e2, e3, e4, e5, e6, e7, e8, e9, e10, e11, e12⟩ := hS; go_simp; try simp⟩) ⟨heap_cell X6.out 0, heap_cell X6.out 1, heap_cell X6.out 2, heap_cell X8.out 0, heap_cell X8.out 1, heap_cell X8.out 2, heap_cell X11.out 0, heap_cell X11.out 1, heap_cell X13.out 0, heap_cell X13.out 1, heap_cell X15.out 0, heap_cell X15.out 1, heap_cell X15.out 2⟩ ?_
  try go_simp
  refine wpAnyT_take (i := 18) (v := .bool false) rfl (by kernel_rfl) (by kernel_rfl) (by kernel_rfl) (by kernel_rfl) (fun _ _ _ h => h) (Or.inl ⟨by kernel_rfl, fun X hS => by obtain ⟨e0, e1, e2, e3, e4, e5, e6, e7, e8, e9, e10, e11, e12⟩ := hS; go_simp⟩) ⟨heap_cell X6.out 0, heap_cell X6.out 1, heap_cell X6.out 2, heap_cell X8.out 0, heap_cell X8.out 1, heap_cell X8.out 2, heap_cell X11.out 0, heap_cell X11.out 1, heap_cell X13.out 0, heap_cell X13.out 1, heap_cell X15.out 0, heap_cell X15.out 1, heap_cell X15.out 2⟩ ?_
  try go_simp
  refine wpAnyT_take (i := 19) (v := .bool false) rfl (by kernel_rfl) (by kernel_rfl) (by kernel_rfl) (by kernel_rfl) (fun _ _ _ h => h) (Or.inl ⟨by kernel_rfl, fun X hS => by obtain ⟨e0, e1, e2, e3, e4, e5, e6, e7, e8, e9, e10, e11, e12⟩ := hS; go_simp⟩) ⟨heap_cell X6.out 0, heap_cell X6.out 1, heap_cell X6.out 2, heap_cell X8.out 0, heap_cell X8.out 1, heap_cell X8.out 2, heap_cell X11.out 0, heap_cell X11.out 1, heap_cell X13.out 0, heap_cell X13.out 1, heap_cell X15.out 0, heap_cell X15.out 1, heap_cell X15.out 2⟩ ?_
  try go_simp
  refine wpAnyT_take (i := 20) (v := .agg #[.string x3, .string y3, .slice ta n3.length tc]) rfl (by kernel_rfl) (by kernel_rfl) (by kernel_rfl) (by kernel_rfl) (fun _ _ _ h => h) (Or.inl ⟨by kernel_rfl, fun X hS => by obtain ⟨e0, e1, e2, e3, e4, e5, e6, e7, e8, e9, e10, e11, e12⟩ := hS; go_simp⟩) ⟨heap_cell X6.out 0, heap_cell X6.out 1, heap_cell X6.out 2, heap_cell X8.out 0, heap_cell X8.out 1, heap_cell X8.out 2, heap_cell X11.out 0, heap_cell X11.out 1, heap_cell X13.out 0, heap_cell X13.out 1, heap_cell X15.out 0, heap_cell X15.out 1, heap_cell X15.out 2⟩ ?_
  try go_simp
  refine wpAnyT_take (i := 22) (v := .agg #[.string x3, .string y3, .slice ta n3.length tc]) rfl (by kernel_rfl) (by kernel_rfl) (by kernel_rfl) (by kernel_rfl) (fun _ _ _ h => h) (Or.inl ⟨by kernel_rfl, fun X hS => by obtain ⟨e0, e1, e2, e3, e4, e5, e6, e7, e8, e9, e10, e11, e12⟩ := hS; go_simp⟩) ⟨heap_cell X6.out 0, heap_cell X6.out 1, heap_cell X6.out 2, heap_cell X8.out 0, heap_cell X8.out 1, heap_cell X8.out 2, heap_cell X11.out 0, heap_cell X11.out 1, heap_cell X13.out 0, heap_cell X13.out 1, heap_cell X15.out 0, heap_cell X15.out 1, heap_cell X15.out 2⟩ ?_
  try go_simp
  refine wpAnyT_one 21 rfl (by kernel_rfl) (fun K hK => ?_)
  go_simp
  refine (FormatInstance_impl x3 y3 _ n3 w13 (by omega) (PWo.sp_of HT.out (by omega))).mono ?_
  rintro e w14 ⟨rfl, hb⟩
  replace HB : Hid (Below w.heap.size w w14) := HB.out.trans (hb.mono HB.out.size)
  replace R1 : Hid (w14.ownsRow w1.heap.size 25 2 (.slice R1a xs.length R1c) xs.length (flat xs)) := row_below hb R1.out
  replace X6 : Hid (w14.heap[bX6]? = some (.cells #[.string x, .string y, .slice R1a xs.length R1c] 28 (0, 0))) := below_heap hb (lt_of_heap X6.out) X6.out
  replace R2 : Hid (w14.ownsRow w3.heap.size 25 2 (.slice R2a xs.length R2c) xs.length (flat xs)) := row_below hb R2.out
  replace X8 : Hid (w14.heap[bX8]? = some (.cells #[.string x, .string y, .slice R2a xs.length R2c] 28 (0, 0))) := below_heap hb (lt_of_heap X8.out) X8.out
  replace X11 : Hid (w14.heap[bX11]? = some (.cells #[.string nx, .string ny] 25 (0, 0))) := below_heap hb (lt_of_heap X11.out) X11.out
  replace X13 : Hid (w14.heap[bX13]? = some (.cells #[.string nx, .string ny] 25 (0, 0))) := below_heap hb (lt_of_heap X13.out) X13.out
  replace HT : Hid (w14.ownsRow w10.heap.size 25 2 (.slice ta n3.length tc) n3.length (flat n3)) := row_below hb HT.out
  replace X15 : Hid (w14.heap[bX15]? = some (.cells #[.string x3, .string y3, .slice ta n3.length tc] 28 (0, 0))) := below_heap hb (lt_of_heap X15.out) X15.out
  clear hb
  refine hK _ _ (fun _ => ⟨heap_cell X6.out 0, heap_cell X6.out 1, heap_cell X6.out 2, heap_cell X8.out 0, heap_cell X8.out 1, heap_cell X8.out 2, heap_cell X11.out 0, heap_cell X11.out 1, heap_cell X13.out 0, heap_cell X13.out 1, heap_cell X15.out 0, heap_cell X15.out 1, heap_cell X15.out 2⟩) ?_
  clear hK K
  refine wpAnyT_one 23 rfl (by kernel_rfl) (fun K hK => ?_)
  go_simp
  refine (FormatInstance_spec x3 y3 _ n3 w14 (by omega) (PWo.sp_of HT.out (by omega))).mono ?_
  rintro e w15 ⟨rfl, hb⟩
  replace HB : Hid (Below w.heap.size w w15) := HB.out.trans (hb.mono HB.out.size)
  replace R1 : Hid (w15.ownsRow w1.heap.size 25 2 (.slice R1a xs.length R1c) xs.length (flat xs)) := row_below hb R1.out
  replace X6 : Hid (w15.heap[bX6]? = some (.cells #[.string x, .string y, .slice R1a xs.length R1c] 28 (0, 0))) := below_heap hb (lt_of_heap X6.out) X6.out
  replace R2 : Hid (w15.ownsRow w3.heap.size 25 2 (.slice R2a xs.length R2c) xs.length (flat xs)) := row_below hb R2.out
  replace X8 : Hid (w15.heap[bX8]? = some (.cells #[.string x, .string y, .slice R2a xs.length R2c] 28 (0, 0))) := below_heap hb (lt_of_heap X8.out) X8.out
  replace X11 : Hid (w15.heap[bX11]? = some (.cells #[.string nx, .string ny] 25 (0, 0))) := below_heap hb (lt_of_heap X11.out) X11.out
  replace X13 : Hid (w15.heap[bX13]? = some (.cells #[.string nx, .string ny] 25 (0, 0))) := below_heap hb (lt_of_heap X13.out) X13.out
  replace HT : Hid (w15.ownsRow w10.heap.size 25 2 (.slice ta n3.length tc) n3.length (flat n3)) := row_below hb HT.out
  replace X15 : Hid (w15.heap[bX15]? = some (.cells #[.string x3, .string y3, .slice ta n3.length tc] 28 (0, 0))) := below_heap hb (lt_of_heap X15.out) X15.out
  clear hb
  refine hK _ _ (fun _ => ⟨heap_cell X6.out 0, heap_cell X6.out 1, heap_cell X6.out 2, heap_cell X8.out 0, heap_cell X8.out 1, heap_cell X8.out 2, heap_cell X11.out 0, heap_cell X11.out 1, heap_cell X13.out 0, heap_cell X13.out 1, heap_cell X15.out 0, heap_cell X15.out 1, heap_cell X15.out 2⟩) ?_
  clear hK K
  refine wpAnyT_take (i := 24) (v := .bool false) rfl (by kernel_rfl) (by kernel_rfl) (by kernel_rfl) (by kernel_rfl) (fun _ _ _ h => h) (Or.inl ⟨by kernel_rfl, fun X hS => by obtain ⟨e0, e1, e2, e3, e4, e5, e6, e7, e8, e9, e10, e11, e12⟩ := hS; go_simp; try simp⟩) ⟨heap_cell X6.out 0, heap_cell X6.out 1, heap_cell X6.out 2, heap_cell X8.out 0, heap_cell X8.out 1, heap_cell X8.out 2, heap_cell X11.out 0, heap_cell X11.out 1, heap_cell X13.out 0, heap_cell X13.out 1, heap_cell X15.out 0, heap_cell X15.out 1, heap_cell X15.out 2⟩ ?_
  try go_simp
  refine wpAnyT_take (i := 25) (v := .bool false) rfl (by kernel_rfl) (by kernel_rfl) (by kernel_rfl) (by kernel_rfl) (fun _ _ _ h => h) (Or.inl ⟨by kernel_rfl, fun X hS => by obtain ⟨e0, e1, e2, e3, e4, e5, e6, e7, e8, e9, e10, e11, e12⟩ := hS; go_simp⟩) ⟨heap_cell X6.out 0, heap_cell X6.out 1, heap_cell X6.out 2, heap_cell X8.out 0, heap_cell X8.out 1, heap_cell X8.out 2, heap_cell X11.out 0, heap_cell X11.out 1, heap_cell X13.out 0, heap_cell X13.out 1, heap_cell X15.out 0, heap_cell X15.out 1, heap_cell X15.out 2⟩ ?_
  try go_simp
  refine wpAnyT_take (i := 26) (v := .bool false) rfl (by kernel_rfl) (by kernel_rfl) (by kernel_rfl) (by kernel_rfl) (fun _ _ _ h => h) (Or.inl ⟨by kernel_rfl, fun X hS => by obtain ⟨e0, e1, e2, e3, e4, e5, e6, e7, e8, e9, e10, e11, e12⟩ := hS; go_simp⟩) ⟨heap_cell X6.out 0, heap_cell X6.out 1, heap_cell X6.out 2, heap_cell X8.out 0, heap_cell X8.out 1, heap_cell X8.out 2, heap_cell X11.out 0, heap_cell X11.out 1, heap_cell X13.out 0, heap_cell X13.out 1, heap_cell X15.out 0, heap_cell X15.out 1, heap_cell X15.out 2⟩ ?_
  try go_simp
  refine wpAnyT_take (i := 27) (v := .agg #[.string nx, .string ny]) rfl (by kernel_rfl) (by kernel_rfl) (by kernel_rfl) (by kernel_rfl) (fun _ _ _ h => h) (Or.inl ⟨by kernel_rfl, fun X hS => by obtain ⟨e0, e1, e2, e3, e4, e5, e6, e7, e8, e9, e10, e11, e12⟩ := hS; go_simp⟩) ⟨heap_cell X6.out 0, heap_cell X6.out 1, heap_cell X6.out 2, heap_cell X8.out 0, heap_cell X8.out 1, heap_cell X8.out 2, heap_cell X11.out 0, heap_cell X11.out 1, heap_cell X13.out 0, heap_cell X13.out 1, heap_cell X15.out 0, heap_cell X15.out 1, heap_cell X15.out 2⟩ ?_
  try go_simp
  refine wpAnyT_take (i := 29) (v := .agg #[.string nx, .string ny]) rfl (by kernel_rfl) (by kernel_rfl) (by kernel_rfl) (by kernel_rfl) (fun _ _ _ h => h) (Or.inl ⟨by kernel_rfl, fun X hS => by obtain ⟨e0, e1, e2, e3, e4, e5, e6, e7, e8, e9, e10, e11, e12⟩ := hS; go_simp⟩) ⟨heap_cell X6.out 0, heap_cell X6.out 1, heap_cell X6.out 2, heap_cell X8.out 0, heap_cell X8.out 1, heap_cell X8.out 2, heap_cell X11.out 0, heap_cell X11.out 1, heap_cell X13.out 0, heap_cell X13.out 1, heap_cell X15.out 0, heap_cell X15.out 1, heap_cell X15.out 2⟩ ?_
  try go_simp
  refine wpAnyT_one 28 rfl (by kernel_rfl) (fun K hK => ?_)
  go_simp
  refine (FormatNeed_impl nx ny w15 (by omega)).mono ?_
  rintro e w16 ⟨rfl, hb⟩
  replace HB : Hid (Below w.heap.size w w16) := HB.out.trans (hb.mono HB.out.size)
  replace R1 : Hid (w16.ownsRow w1.heap.size 25 2 (.slice R1a xs.length R1c) xs.length (flat xs)) := row_below hb R1.out
  replace X6 : Hid (w16.heap[bX6]? = some (.cells #[.string x, .string y, .slice R1a xs.length R1c] 28 (0, 0))) := below_heap hb (lt_of_heap X6.out) X6.out
  replace R2 : Hid (w16.ownsRow w3.heap.size 25 2 (.slice R2a xs.length R2c) xs.length (flat xs)) := row_below hb R2.out
  replace X8 : Hid (w16.heap[bX8]? = some (.cells #[.string x, .string y, .slice R2a xs.length R2c] 28 (0, 0))) := below_heap hb (lt_of_heap X8.out) X8.out
  replace X11 : Hid (w16.heap[bX11]? = some (.cells #[.string nx, .string ny] 25 (0, 0))) := below_heap hb (lt_of_heap X11.out) X11.out
  replace X13 : Hid (w16.heap[bX13]? = some (.cells #[.string nx, .string ny] 25 (0, 0))) := below_heap hb (lt_of_heap X13.out) X13.out
  replace HT : Hid (w16.ownsRow w10.heap.size 25 2 (.slice ta n3.length tc) n3.length (flat n3)) := row_below hb HT.out
  replace X15 : Hid (w16.heap[bX15]? = some (.cells #[.string x3, .string y3, .slice ta n3.length tc] 28 (0, 0))) := below_heap hb (lt_of_heap X15.out) X15.out
  clear hb
  refine hK _ _ (fun _ => ⟨heap_cell X6.out 0, heap_cell X6.out 1, heap_cell X6.out 2, heap_cell X8.out 0, heap_cell X8.out 1, heap_cell X8.out 2, heap_cell X11.out 0, heap_cell X11.out 1, heap_cell X13.out 0, heap_cell X13.out 1, heap_cell X15.out 0, heap_cell X15.out 1, heap_cell X15.out 2⟩) ?_
  clear hK K
  refine wpAnyT_one 30 rfl (by kernel_rfl) (fun K hK => ?_)
  go_simp
  refine (FormatNeed_spec nx ny w16 (by omega)).mono ?_
  rintro e w17 ⟨rfl, hb⟩
  replace HB : Hid (Below w.heap.size w w17) := HB.out.trans (hb.mono HB.out.size)
  replace R1 : Hid (w17.ownsRow w1.heap.size 25 2 (.slice R1a xs.length R1c) xs.length (flat xs)) := row_below hb R1.out
  replace X6 : Hid (w17.heap[bX6]? = some (.cells #[.string x, .string y, .slice R1a xs.length R1c] 28 (0, 0))) := below_heap hb (lt_of_heap X6.out) X6.out
  replace R2 : Hid (w17.ownsRow w3.heap.size 25 2 (.slice R2a xs.length R2c) xs.length (flat xs)) := row_below hb R2.out
  replace X8 : Hid (w17.heap[bX8]? = some (.cells #[.string x, .string y, .slice R2a xs.length R2c] 28 (0, 0))) := below_heap hb (lt_of_heap X8.out) X8.out
  replace X11 : Hid (w17.heap[bX11]? = some (.cells #[.string nx, .string ny] 25 (0, 0))) := below_heap hb (lt_of_heap X11.out) X11.out
  replace X13 : Hid (w17.heap[bX13]? = some (.cells #[.string nx, .string ny] 25 (0, 0))) := below_heap hb (lt_of_heap X13.out) X13.out
  replace HT : Hid (w17.ownsRow w10.heap.size 25 2 (.slice ta n3.length tc) n3.length (flat n3)) := row_below hb HT.out
  replace X15 : Hid (w17.heap[bX15]? = some (.cells #[.string x3, .string y3, .slice ta n3.length tc] 28 (0, 0))) := below_heap hb (lt_of_heap X15.out) X15.out
  clear hb
  refine hK _ _ (fun _ => ⟨heap_cell X6.out 0, heap_cell X6.out 1, heap_cell X6.out 2, heap_cell X8.out 0, heap_cell X8.out 1, heap_cell X8.out 2, heap_cell X11.out 0, heap_cell X11.out 1, heap_cell X13.out 0, heap_cell X13.out 1, heap_cell X15.out 0, heap_cell X15.out 1, heap_cell X15.out 2⟩) ?_
  clear hK K
  refine wpAnyT_take (i := 31) (v := .bool false) rfl (by kernel_rfl) (by kernel_rfl) (by kernel_rfl) (by kernel_rfl) (fun _ _ _ h => h) (Or.inl ⟨by kernel_rfl, fun X hS => by obtain ⟨e0, e1, e2, e3, e4, e5, e6, e7, e8, e9, e10, e11, e12⟩ := hS; go_simp; try simp⟩) ⟨heap_cell X6.out 0, heap_cell X6.out 1, heap_cell X6.out 2, heap_cell X8.out 0, heap_cell X8.out 1, heap_cell X8.out 2, heap_cell X11.out 0, heap_cell X11.out 1, heap_cell X13.out 0, heap_cell X13.out 1, heap_cell X15.out 0, heap_cell X15.out 1, heap_cell X15.out 2⟩ ?_
  try go_simp
  refine wpAnyT_take (i := 32) (v := .bool false) rfl (by kernel_rfl) (by kernel_rfl) (by kernel_rfl) (by kernel_rfl) (fun _ _ _ h => h) (Or.inl ⟨by kernel_rfl, fun X hS => by obtain ⟨e0, e1, e2, e3, e4, e5, e6, e7, e8, e9, e10, e11, e12⟩ := hS; go_simp⟩) ⟨heap_cell X6.out 0, heap_cell X6.out 1, heap_cell X6.out 2, heap_cell X8.out 0, heap_cell X8.out 1, heap_cell X8.out 2, heap_cell X11.out 0, heap_cell X11.out 1, heap_cell X13.out 0, heap_cell X13.out 1, heap_cell X15.out 0, heap_cell X15.out 1, heap_cell X15.out 2⟩ ?_
  try go_simp
  refine wpAnyT_drop _ 33 _ _ _ (by decide) (by kernel_rfl) ?_
  change wpList _ _ _ [] _ _
  cases ok with
  | false =>
    cases fine with
    | false =>
      go_wp2
      go_ret
      exact ⟨rfl, HB.out⟩
    | true =>
      obtain ⟨hnt, hty⟩ := nB_ok HN.out
      obtain ⟨nyl, rfl, hnz⟩ := bytes ny
      have HTV := hid (fun W => TypeValid_impl nyl W (by unfold maxLen; omega))
      rw [show (ty nyl).isSome = true by simpa using hty] at HTV
      have HNT := hid hnt
      clear hnt hty
      obtain ⟨i0, i1, f0, f1⟩ := PWo.k2 X11.out
      have hli := lt_of_heap X11.out
      go_wp2_with fail
      clear i0 i1 f0 f1
      refine (FormatNeed_impl nx ⟨nyl.toArray⟩ w17 (by omega)).mono ?_
      rintro e w18 ⟨rfl, hb⟩
      replace HB : Hid (Below w.heap.size w w18) := HB.out.trans (hb.mono HB.out.size)
      replace R1 : Hid (w18.ownsRow w1.heap.size 25 2 (.slice R1a xs.length R1c) xs.length (flat xs)) := row_below hb R1.out
      replace X6 : Hid (w18.heap[bX6]? = some (.cells #[.string x, .string y, .slice R1a xs.length R1c] 28 (0, 0))) := below_heap hb (lt_of_heap X6.out) X6.out
      replace R2 : Hid (w18.ownsRow w3.heap.size 25 2 (.slice R2a xs.length R2c) xs.length (flat xs)) := row_below hb R2.out
      replace X8 : Hid (w18.heap[bX8]? = some (.cells #[.string x, .string y, .slice R2a xs.length R2c] 28 (0, 0))) := below_heap hb (lt_of_heap X8.out) X8.out
      replace X11 : Hid (w18.heap[bX11]? = some (.cells #[.string nx, .string ⟨nyl.toArray⟩] 25 (0, 0))) := below_heap hb (lt_of_heap X11.out) X11.out
      replace X13 : Hid (w18.heap[bX13]? = some (.cells #[.string nx, .string ⟨nyl.toArray⟩] 25 (0, 0))) := below_heap hb (lt_of_heap X13.out) X13.out
      replace HT : Hid (w18.ownsRow w10.heap.size 25 2 (.slice ta n3.length tc) n3.length (flat n3)) := row_below hb HT.out
      replace X15 : Hid (w18.heap[bX15]? = some (.cells #[.string x3, .string y3, .slice ta n3.length tc] 28 (0, 0))) := below_heap hb (lt_of_heap X15.out) X15.out
      clear hb
      rw [HNT.out]
      obtain ⟨i0, i1, f0, f1⟩ := PWo.k2 X11.out
      have hli := lt_of_heap X11.out
      go_wp2_with fail
      clear i0 i1 f0 f1
      refine (HTV.out w18).mono ?_
      rintro e w19 ⟨rfl, hb⟩
      replace HB : Hid (Below w.heap.size w w19) := HB.out.trans (hb.mono HB.out.size)
      replace R1 : Hid (w19.ownsRow w1.heap.size 25 2 (.slice R1a xs.length R1c) xs.length (flat xs)) := row_below hb R1.out
      replace X6 : Hid (w19.heap[bX6]? = some (.cells #[.string x, .string y, .slice R1a xs.length R1c] 28 (0, 0))) := below_heap hb (lt_of_heap X6.out) X6.out
      replace R2 : Hid (w19.ownsRow w3.heap.size 25 2 (.slice R2a xs.length R2c) xs.length (flat xs)) := row_below hb R2.out
      replace X8 : Hid (w19.heap[bX8]? = some (.cells #[.string x, .string y, .slice R2a xs.length R2c] 28 (0, 0))) := below_heap hb (lt_of_heap X8.out) X8.out
      replace X11 : Hid (w19.heap[bX11]? = some (.cells #[.string nx, .string ⟨nyl.toArray⟩] 25 (0, 0))) := below_heap hb (lt_of_heap X11.out) X11.out
      replace X13 : Hid (w19.heap[bX13]? = some (.cells #[.string nx, .string ⟨nyl.toArray⟩] 25 (0, 0))) := below_heap hb (lt_of_heap X13.out) X13.out
      replace HT : Hid (w19.ownsRow w10.heap.size 25 2 (.slice ta n3.length tc) n3.length (flat n3)) := row_below hb HT.out
      replace X15 : Hid (w19.heap[bX15]? = some (.cells #[.string x3, .string y3, .slice ta n3.length tc] 28 (0, 0))) := below_heap hb (lt_of_heap X15.out) X15.out
      clear hb
      go_wp2
      go_ret
      exact ⟨rfl, HB.out⟩
  | true =>
    have HFT := hid (rI_ok HR.out)
    obtain ⟨i0, i1, i2, f0, f1, f2⟩ := PIn.k3 X6.out
    have hlx := lt_of_heap X6.out
    go_wp2_with fail
    clear i0 i1 i2 f0 f1 f2 hlx
    refine (FormatInstance_impl x y _ xs w17 (by omega) (PWo.sp_of R1.out (by omega))).mono ?_
    rintro e w18 ⟨rfl, hb⟩
    replace HB : Hid (Below w.heap.size w w18) := HB.out.trans (hb.mono HB.out.size)
    replace R1 : Hid (w18.ownsRow w1.heap.size 25 2 (.slice R1a xs.length R1c) xs.length (flat xs)) := row_below hb R1.out
    replace X6 : Hid (w18.heap[bX6]? = some (.cells #[.string x, .string y, .slice R1a xs.length R1c] 28 (0, 0))) := below_heap hb (lt_of_heap X6.out) X6.out
    replace R2 : Hid (w18.ownsRow w3.heap.size 25 2 (.slice R2a xs.length R2c) xs.length (flat xs)) := row_below hb R2.out
    replace X8 : Hid (w18.heap[bX8]? = some (.cells #[.string x, .string y, .slice R2a xs.length R2c] 28 (0, 0))) := below_heap hb (lt_of_heap X8.out) X8.out
    replace X11 : Hid (w18.heap[bX11]? = some (.cells #[.string nx, .string ny] 25 (0, 0))) := below_heap hb (lt_of_heap X11.out) X11.out
    replace X13 : Hid (w18.heap[bX13]? = some (.cells #[.string nx, .string ny] 25 (0, 0))) := below_heap hb (lt_of_heap X13.out) X13.out
    replace HT : Hid (w18.ownsRow w10.heap.size 25 2 (.slice ta n3.length tc) n3.length (flat n3)) := row_below hb HT.out
    replace X15 : Hid (w18.heap[bX15]? = some (.cells #[.string x3, .string y3, .slice ta n3.length tc] 28 (0, 0))) := below_heap hb (lt_of_heap X15.out) X15.out
    clear hb
    rw [HFT.out]
    cases fine with
    | false =>
      go_wp2
      go_ret
      exact ⟨rfl, HB.out⟩
    | true =>
      obtain ⟨hnt, hty⟩ := nB_ok HN.out
      obtain ⟨nyl, rfl, hnz⟩ := bytes ny
      have HTV := hid (fun W => TypeValid_impl nyl W (by unfold maxLen; omega))
      rw [show (ty nyl).isSome = true by simpa using hty] at HTV
      have HNT := hid hnt
      clear hnt hty
      obtain ⟨i0, i1, f0, f1⟩ := PWo.k2 X11.out
      have hli := lt_of_heap X11.out
      go_wp2_with fail
      clear i0 i1 f0 f1
      refine (FormatNeed_impl nx ⟨nyl.toArray⟩ w18 (by omega)).mono ?_
      rintro e w19 ⟨rfl, hb⟩
      replace HB : Hid (Below w.heap.size w w19) := HB.out.trans (hb.mono HB.out.size)
      replace R1 : Hid (w19.ownsRow w1.heap.size 25 2 (.slice R1a xs.length R1c) xs.length (flat xs)) := row_below hb R1.out
      replace X6 : Hid (w19.heap[bX6]? = some (.cells #[.string x, .string y, .slice R1a xs.length R1c] 28 (0, 0))) := below_heap hb (lt_of_heap X6.out) X6.out
      replace R2 : Hid (w19.ownsRow w3.heap.size 25 2 (.slice R2a xs.length R2c) xs.length (flat xs)) := row_below hb R2.out
      replace X8 : Hid (w19.heap[bX8]? = some (.cells #[.string x, .string y, .slice R2a xs.length R2c] 28 (0, 0))) := below_heap hb (lt_of_heap X8.out) X8.out
      replace X11 : Hid (w19.heap[bX11]? = some (.cells #[.string nx, .string ⟨nyl.toArray⟩] 25 (0, 0))) := below_heap hb (lt_of_heap X11.out) X11.out
      replace X13 : Hid (w19.heap[bX13]? = some (.cells #[.string nx, .string ⟨nyl.toArray⟩] 25 (0, 0))) := below_heap hb (lt_of_heap X13.out) X13.out
      replace HT : Hid (w19.ownsRow w10.heap.size 25 2 (.slice ta n3.length tc) n3.length (flat n3)) := row_below hb HT.out
      replace X15 : Hid (w19.heap[bX15]? = some (.cells #[.string x3, .string y3, .slice ta n3.length tc] 28 (0, 0))) := below_heap hb (lt_of_heap X15.out) X15.out
      clear hb
      rw [HNT.out]
      obtain ⟨i0, i1, f0, f1⟩ := PWo.k2 X11.out
      have hli := lt_of_heap X11.out
      go_wp2_with fail
      clear i0 i1 f0 f1
      refine (HTV.out w19).mono ?_
      rintro e w20 ⟨rfl, hb⟩
      replace HB : Hid (Below w.heap.size w w20) := HB.out.trans (hb.mono HB.out.size)
      replace R1 : Hid (w20.ownsRow w1.heap.size 25 2 (.slice R1a xs.length R1c) xs.length (flat xs)) := row_below hb R1.out
      replace X6 : Hid (w20.heap[bX6]? = some (.cells #[.string x, .string y, .slice R1a xs.length R1c] 28 (0, 0))) := below_heap hb (lt_of_heap X6.out) X6.out
      replace R2 : Hid (w20.ownsRow w3.heap.size 25 2 (.slice R2a xs.length R2c) xs.length (flat xs)) := row_below hb R2.out
      replace X8 : Hid (w20.heap[bX8]? = some (.cells #[.string x, .string y, .slice R2a xs.length R2c] 28 (0, 0))) := below_heap hb (lt_of_heap X8.out) X8.out
      replace X11 : Hid (w20.heap[bX11]? = some (.cells #[.string nx, .string ⟨nyl.toArray⟩] 25 (0, 0))) := below_heap hb (lt_of_heap X11.out) X11.out
      replace X13 : Hid (w20.heap[bX13]? = some (.cells #[.string nx, .string ⟨nyl.toArray⟩] 25 (0, 0))) := below_heap hb (lt_of_heap X13.out) X13.out
      replace HT : Hid (w20.ownsRow w10.heap.size 25 2 (.slice ta n3.length tc) n3.length (flat n3)) := row_below hb HT.out
      replace X15 : Hid (w20.heap[bX15]? = some (.cells #[.string x3, .string y3, .slice ta n3.length tc] 28 (0, 0))) := below_heap hb (lt_of_heap X15.out) X15.out
      clear hb
      go_wp2
      go_ret
      exact ⟨rfl, HB.out⟩

theorem lifted (os : Os) (started : os.Started) (H : Type) (enc : TypeId × Value → H) :
    ReturnsInHanded {} Tryd.checked os 3 .any (fun w args => (Rows.fnInstanceTextSpec.pre enc Tryd.prog Tryd.f3 Rows.fnInstanceTextRow.domain false w args ∧ laidMetH Tryd.prog Rows.fnInstanceTextRow.laid w) ∧ sizedMet enc Tryd.prog Tryd.f3 (OpenSpec.ofChange Rows.fnInstanceTextSpec) false w args) (Rows.fnInstanceTextSpec.post enc Tryd.prog Tryd.f3 false true false false) := by
  refine Shp.lifted_and_shape (C := Tryd.checked) (X := fun w _ => laidMetH Tryd.prog Rows.fnInstanceTextRow.laid w) (fun _ _ _ hh h => h.of_heap hh) own started (by kernel_rfl) Tryd.func3
    (ChangeSpec.witness_shaped (enc := enc) (C := Tryd.checked) (os := os) (X := fun w _ => laidMetH Tryd.prog Rows.fnInstanceTextRow.laid w) false (World.laidAll Tryd.prog os Rows.fnInstanceTextRow.laid) #[.slice none 0 0, .slice none 0 0] 8 (World.laidAll_os _ _ _)
      (World.shaped_of_ZipB (by kernel_rfl) (by kernel_rfl)) (by kernel_rfl) (by kernel_rfl) (by kernel_rfl)
      (by rw [MakeChecks.laidMetH_plain _ _ _ (by kernel_rfl)]; exact laidMet_laidAll _ (by kernel_rfl) (by kernel_rfl))) ?_
  intro W base args ds gs before hsh _ hval0 hW hcnd _
  have hmx := cell_of_shapedOpen_int (P := Tryd.prog) (g := 0) (t := 3) (zero := #[.int .i64 0]) hsh (of_decide_eq_true (by kernel_rfl)) (by kernel_rfl) rfl (by kernel_rfl) (by kernel_rfl) Tryd.underlying3
  have hval : ∀ (j : Nat) t v, Tryd.f3.params[j]? = some t → args[j]? = some v → Value.okWide Tryd.prog W .any base t v := hval0
  have hW' := hW
  obtain ⟨p, q, hA0, hV, rfl, hfz, hnd⟩ := hW
  have hA : DataW.TrodAll enc Tryd.prog W 0 (fun _ => true) true Tryd.f3.params.toList args.toList ds p := hA0
  rw [Tryd.params3] at hA hval
  have hL := DataW.TrodAll.lt hA
  obtain ⟨v0, vs0, d0, ds0, p0, q0, hargs, rfl, rfl, h0, r0⟩ := trodAll_cons hA
  obtain ⟨v1, vs1, d1, ds1, p1, q1, rfl, rfl, rfl, h1, r1⟩ := trodAll_cons r0
  obtain ⟨rfl, rfl, rfl⟩ := trodAll_nil r1
  obtain rfl : args = #[v0, v1] := by cases args; simp_all
  obtain ⟨rfl, rfl⟩ := trodVars_none hV
  have k0 := h0
  have l0 : ∀ x ∈ p0, x.block < W.heap.size := fun x hx => hL x (by simp [hx])
  have k1 := h1
  have l1 : ∀ x ∈ p1, x.block < W.heap.size := fun x hx => hL x (by simp [hx])
  obtain ⟨xs0, s0⟩ := Draw.open_sb Tryd.underlying22 Tryd.underlying5 (by kernel_rfl) (hval 0 22 v0 rfl rfl) h0
  obtain ⟨xs1, s1⟩ := Draw.open_sb Tryd.underlying22 Tryd.underlying5 (by kernel_rfl) (hval 1 22 v1 rfl rfl) h1
  clear hA0 hval0
  simp only [List.append_nil] at hW'
  refine (walk W _ _ s0 _ _ s1 hmx).mono fun e W' ⟨he, bel⟩ => ?_
  subst he
  exact ⟨_, rfl, _, _, _, [], _, [], hW', (trodAll_cons_mk (shut_bool Tryd.underlying4 _) trodAll_mk0), (trodAll_cons_mk (Below.trod laidOut (by kernel_rfl) (of_decide_eq_true (by kernel_rfl)) k0 bel l0) (trodAll_cons_mk (Below.trod laidOut (by kernel_rfl) (of_decide_eq_true (by kernel_rfl)) k1 bel l1) trodAll_mk0)), rfl, bel.frame _, fun h => by cases h⟩
theorem e1 : Rows.fnInstanceTextRow.lifted = Rows.fnInstanceTextRow.lifted := rfl
theorem e2 : Rows.fnInstanceTextRow.make = Rows.fnInstanceTextRow.make := rfl
theorem e3 : Rows.fnInstanceTextRow.plainKeys = Rows.fnInstanceTextRow.plainKeys := rfl
theorem facts : joinedFacts Tryd.pinned.checked.prog 3 Tryd.f3 Rows.fnInstanceTextSpec Rows.fnInstanceTextRow = true := by
  refine Facts.joined e1 e2 e3 ?_ ?_ ?_ ?_ ?_ ?_ ?_ ?_ ?_ ?_ ?_ ?_ ?_ ?_ ?_ ?_ ?_ ?_ ?_ ?_ ?_ ?_ ?_
  all_goals as_aux_lemma => kernel_rfl
theorem over : Rows.fnInstanceTextRow.holds Tryd.pinned (OpenSpec.ofChange Rows.fnInstanceTextSpec) :=
  OpenClaim.holds_of_wide 3 Tryd.f3 rfl rfl rfl rfl rfl rfl rfl ⟨rfl, rfl, rfl, rfl, rfl⟩ rfl rfl rfl rfl rfl (by kernel_rfl) Tryd.func3 facts
    (of_decide_eq_true (by kernel_rfl)) (by unfold Func.isWrapper; first | (rw [if_pos (by decide +kernel)]; kernel_rfl) | (rw [if_neg (by decide +kernel)]; exact ⟨rfl, rfl⟩))
    (fun os started H enc _ => lifted os started H enc)
end Go.Proofs.YtbdnhcfebgkpdaaDoor.fnInstanceText
namespace Go.Proofs.YtbdnhcfebgkpdaaDoor
theorem fnInstanceText_holds : Rows.FnInstanceTextCardSaid :=
  Claim7.holds_tied_plain_at .later [] Rows.fnInstanceTextCard.laidKinds true Rows.fnInstanceTextCard.stood.harness Rows.fnInstanceTextCard.stood.looks
    fnInstanceText.over (fun _ h => by cases h) (by kernel_rfl) (fun _ h => by cases h) fnInstanceText_row_tie rfl ⟨rfl, rfl⟩ (by kernel_rfl) rfl
    (fun f fn hf hfn => by
      obtain rfl : f = 3 := Option.some.inj ((show Tryd.prog.funcNamed "loop.example/instancesearch/laws.FnInstanceText" = some 3 by kernel_rfl).symm.trans hf) |>.symm
      obtain rfl : fn = Tryd.f3 := (Option.some.inj (Tryd.func3.symm.trans hfn)).symm
      exact ⟨by kernel_rfl, fun j t ht => by
        rw [Tryd.params3] at ht
        have hm := Array.mem_of_getElem? ht
        have hall : (Tryd.f3.params.all fun u => !Tryd.prog.wantsStandIn u) = true := by kernel_rfl
        rw [Tryd.params3] at hall
        have := Array.all_eq_true'.1 hall t hm
        exact (show Tryd.prog.wantsStandIn t = false by simpa using this)⟩)
    (by kernel_rfl)
end Go.Proofs.YtbdnhcfebgkpdaaDoor
