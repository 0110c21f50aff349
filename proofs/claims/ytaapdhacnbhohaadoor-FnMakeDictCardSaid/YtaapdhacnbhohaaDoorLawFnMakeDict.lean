/- FnMakeDict answers true for every input: what is made of drawn numbers and dictionaries is made alike, and a drawn dictionary is made again of its number and its parts, its size and its depth being theirs. Conditions: none. -/
import Derived.Test.YtaapdhacnbhohaaDoorDrawD
import Derived.Test.YtaapdhacnbhohaaDoorMdPl
import Derived.Test.YtaapdhacnbhohaaDoorL6Read
import Derived.Test.YtaapdhacnbhohaaDoorRows
import Derived.Test.YtaapdhacnbhohaaDoorCards
import Derived.Test.YtaapdhacnbhohaaDoorTie
import Derived.LaidMore
import Derived.Lay
import Derived.SevenTiedAt
import Derived.Stop.Joined
import Derived.Test.YtaapdhacnbhohaaDoorFacts
import Derived.WalkKit
import Derived.ProofKit
import Derived.OpenShut
import Derived.ShutString
import Derived.ChangeOld
import Derived.Below
import Derived.Carry
import Derived.Lib.SmallJoins
set_option linter.unusedVariables false
set_option linter.unusedSimpArgs false
set_option maxRecDepth 100000
namespace Go.Proofs.YtaapdhacnbhohaaDoor.fnMakeDict
open Go.ChangeShapes Go.WideShapes Go.ChangeAt Go.RowKit Go.Joins Dt ListS DictI
open Go.ChangeMaps (open_string shut_string)

theorem own : ownKnob Tryd.prog.godebug = none := by kernel_rfl
theorem laidOut : laidOutB Tryd.prog = true := by kernel_rfl
theorem bytes (s : ByteArray) : ∃ l : List UInt8, s = ⟨l.toArray⟩ ∧ s.size = l.length := ⟨s.data.toList, rfl, by simp⟩
set_option maxHeartbeats 16000000 in
theorem walk (w : World) (v0 : Value) (xs0 : List Int) (s0 : Draw.SB w v0 xs0) (v1 : Value) (xs1 : List Int) (s1 : Draw.SB w v1 xs1) :
    Calls Tryd.prog 4 #[v0, v1] w fun e w' => e = .returned (.bool true) ∧ Below w.heap.size w w' := by
  obtain ⟨a0, c0, rfl⟩ := Draw.sb_slice s0
  obtain ⟨a1, c1, rfl⟩ := Draw.sb_slice s1
  by_cases hl0 : 1048576 < xs0.length
  · have hl0' : (xs0.length : Int) > 1048576 := by omega
    go_enter Tryd.func4, Tryd.ntmps4
    go_wp2
    go_ret
    exact ⟨rfl, Below.refl _ _⟩
  by_cases hl1 : 1048576 < xs1.length
  · have hl0' : ¬ (xs0.length : Int) > 1048576 := by omega
    have hl1' : (xs1.length : Int) > 1048576 := by omega
    go_enter Tryd.func4, Tryd.ntmps4
    go_wp2
    go_ret
    exact ⟨rfl, Below.refl _ _⟩
  have hl0' : ¬ (xs0.length : Int) > 1048576 := by omega
  have hl1' : ¬ (xs1.length : Int) > 1048576 := by omega
  have S0 := hid s0
  have S1 := hid s1
  have B : Hid (Below w.heap.size w w) := Below.refl _ _
  clear s0 s1
  go_enter Tryd.func4, Tryd.ntmps4
  go_wp2_with fail
  refine (Draw.DrawPartsOfDict_any _ xs0 w S0.out).mono ?_
  rintro e w1 ⟨s, rfl, -, hs, hb⟩
  replace B : Hid (Below w.heap.size w w1) := B.out.trans (hb.mono B.out.size)
  replace S1 : Hid (Draw.SB w1 (.slice a1 xs1.length c1) xs1) := S1.out.below hb
  clear hb 
  obtain ⟨l, rfl, hz⟩ := bytes s
  have hl : l.length ≤ 2147483648 := by omega
  clear hz hs S0
  obtain ⟨ps, hps⟩ : ∃ ps, ps = DText.ftexts (DText.dparts l) := ⟨_, rfl⟩
  have HPS := hid hps
  obtain ⟨is, his⟩ : ∃ is, is = Insts.sel l 10 := ⟨_, rfl⟩
  have HIS := hid his
  have hil : is.length ≤ 10 := by rw [his]; exact Insts.sel_len l 10
  have hpl : ps.length ≤ 3 := by
    rw [hps, DText.ftexts_len]
    unfold DText.dparts
    cases h : dt l with
    | none => simp [F.len]
    | some p => obtain ⟨c, f⟩ := p; exact (dt_some h).2.2.1
  obtain ⟨iv, hiv⟩ : ∃ iv, iv = instI l := ⟨_, rfl⟩
  have HIV := hid hiv
  clear hps his hiv
  go_wp2_with fail
  refine ((show Calls Tryd.prog _ _ w1 (LPost w1 ps) from by rw [HPS.out]; exact DText.PartsOfDict_impl l w1 hl)).mono ?_
  rintro e w2 ⟨gR1, cR1, rfl, hrow, hb⟩
  replace B : Hid (Below w.heap.size w w2) := B.out.trans (hb.mono B.out.size)
  replace S1 : Hid (Draw.SB w2 (.slice a1 xs1.length c1) xs1) := S1.out.below hb
  have R1 : Hid (World.ownsRow w2 w1.heap.size 9 1 (.slice (some ⟨gR1, 0, none⟩) ps.length cR1) ps.length (ListS.strs ps)) := hrow
  clear hb hrow
  go_wp2_with fail
  refine ((show Calls Tryd.prog _ _ w2 (fun e w' => e = .returned (.int .i64 iv) ∧ Below (w2).heap.size w2 w') from by rw [HIV.out]; exact InstanceOf_impl l w2 hl)).mono ?_
  rintro e w3 ⟨rfl, hb⟩
  replace B : Hid (Below w.heap.size w w3) := B.out.trans (hb.mono B.out.size)
  replace S1 : Hid (Draw.SB w3 (.slice a1 xs1.length c1) xs1) := S1.out.below hb
  replace R1 : Hid (World.ownsRow w3 w1.heap.size 9 1 (.slice (some ⟨gR1, 0, none⟩) ps.length cR1) ps.length (ListS.strs ps)) := row_below hb R1.out
  clear hb 
  go_wp2_with fail
  refine ((show Calls Tryd.prog _ _ w3 (LPost w3 ps) from by rw [HPS.out]; exact DText.PartsOfDict_spec l w3 hl)).mono ?_
  rintro e w4 ⟨gR2, cR2, rfl, hrow, hb⟩
  replace B : Hid (Below w.heap.size w w4) := B.out.trans (hb.mono B.out.size)
  replace S1 : Hid (Draw.SB w4 (.slice a1 xs1.length c1) xs1) := S1.out.below hb
  replace R1 : Hid (World.ownsRow w4 w1.heap.size 9 1 (.slice (some ⟨gR1, 0, none⟩) ps.length cR1) ps.length (ListS.strs ps)) := row_below hb R1.out
  have R2 : Hid (World.ownsRow w4 w3.heap.size 9 1 (.slice (some ⟨gR2, 0, none⟩) ps.length cR2) ps.length (ListS.strs ps)) := hrow
  clear hb hrow
  go_wp2_with fail
  refine (Draw.inTexts_same _ _ ps w4 _ _ (by omega) R1.out R2.out).mono ?_
  rintro e w5 ⟨rfl, hb⟩
  replace B : Hid (Below w.heap.size w w5) := B.out.trans (hb.mono B.out.size)
  replace S1 : Hid (Draw.SB w5 (.slice a1 xs1.length c1) xs1) := S1.out.below hb
  replace R1 : Hid (World.ownsRow w5 w1.heap.size 9 1 (.slice (some ⟨gR1, 0, none⟩) ps.length cR1) ps.length (ListS.strs ps)) := row_below hb R1.out
  replace R2 : Hid (World.ownsRow w5 w3.heap.size 9 1 (.slice (some ⟨gR2, 0, none⟩) ps.length cR2) ps.length (ListS.strs ps)) := row_below hb R2.out
  clear hb 
  clear R2
  go_wp2_with fail
  refine ((show Calls Tryd.prog _ _ w5 (fun e w' => e = .returned (.int .i64 iv) ∧ Below (w5).heap.size w5 w') from by rw [HIV.out]; exact L6.InstanceOf_spec l w5 hl)).mono ?_
  rintro e w6 ⟨rfl, hb⟩
  replace B : Hid (Below w.heap.size w w6) := B.out.trans (hb.mono B.out.size)
  replace S1 : Hid (Draw.SB w6 (.slice a1 xs1.length c1) xs1) := S1.out.below hb
  replace R1 : Hid (World.ownsRow w6 w1.heap.size 9 1 (.slice (some ⟨gR1, 0, none⟩) ps.length cR1) ps.length (ListS.strs ps)) := row_below hb R1.out
  clear hb 
  go_wp2_with fail
  refine (DictValid_impl l w6 hl).mono ?_
  rintro e w7 ⟨rfl, hb⟩
  replace B : Hid (Below w.heap.size w w7) := B.out.trans (hb.mono B.out.size)
  replace S1 : Hid (Draw.SB w7 (.slice a1 xs1.length c1) xs1) := S1.out.below hb
  replace R1 : Hid (World.ownsRow w7 w1.heap.size 9 1 (.slice (some ⟨gR1, 0, none⟩) ps.length cR1) ps.length (ListS.strs ps)) := row_below hb R1.out
  clear hb 
  go_wp2_with fail
  refine (L6.DictValid_spec l w7 hl).mono ?_
  rintro e w8 ⟨rfl, hb⟩
  replace B : Hid (Below w.heap.size w w8) := B.out.trans (hb.mono B.out.size)
  replace S1 : Hid (Draw.SB w8 (.slice a1 xs1.length c1) xs1) := S1.out.below hb
  replace R1 : Hid (World.ownsRow w8 w1.heap.size 9 1 (.slice (some ⟨gR1, 0, none⟩) ps.length cR1) ps.length (ListS.strs ps)) := row_below hb R1.out
  clear hb 
  go_wp2_with fail
  refine ((show Calls Tryd.prog _ _ w8 (Insts.IPost w8 is) from by rw [HIS.out]; exact Insts.InstancesIn_impl l w8 hl)).mono ?_
  rintro e w9 ⟨gR3, cR3, rfl, hrow, hb⟩
  replace B : Hid (Below w.heap.size w w9) := B.out.trans (hb.mono B.out.size)
  replace S1 : Hid (Draw.SB w9 (.slice a1 xs1.length c1) xs1) := S1.out.below hb
  replace R1 : Hid (World.ownsRow w9 w1.heap.size 9 1 (.slice (some ⟨gR1, 0, none⟩) ps.length cR1) ps.length (ListS.strs ps)) := row_below hb R1.out
  have R3 : Hid (World.ownsRow w9 w8.heap.size 3 1 (.slice (some ⟨gR3, 0, none⟩) is.length cR3) is.length (ListS.ints is)) := hrow
  clear hb hrow
  go_wp2_with fail
  refine ((show Calls Tryd.prog _ _ w9 (Insts.IPost w9 is) from by rw [HIS.out]; exact Insts.InstancesIn_spec l w9 hl)).mono ?_
  rintro e w10 ⟨gR4, cR4, rfl, hrow, hb⟩
  replace B : Hid (Below w.heap.size w w10) := B.out.trans (hb.mono B.out.size)
  replace S1 : Hid (Draw.SB w10 (.slice a1 xs1.length c1) xs1) := S1.out.below hb
  replace R1 : Hid (World.ownsRow w10 w1.heap.size 9 1 (.slice (some ⟨gR1, 0, none⟩) ps.length cR1) ps.length (ListS.strs ps)) := row_below hb R1.out
  replace R3 : Hid (World.ownsRow w10 w8.heap.size 3 1 (.slice (some ⟨gR3, 0, none⟩) is.length cR3) is.length (ListS.ints is)) := row_below hb R3.out
  have R4 : Hid (World.ownsRow w10 w9.heap.size 3 1 (.slice (some ⟨gR4, 0, none⟩) is.length cR4) is.length (ListS.ints is)) := hrow
  clear hb hrow
  go_wp2_with fail
  refine (Draw.inSame_same _ _ is w10 _ _ (by omega) R3.out R4.out).mono ?_
  rintro e w11 ⟨rfl, hb⟩
  replace B : Hid (Below w.heap.size w w11) := B.out.trans (hb.mono B.out.size)
  replace S1 : Hid (Draw.SB w11 (.slice a1 xs1.length c1) xs1) := S1.out.below hb
  replace R1 : Hid (World.ownsRow w11 w1.heap.size 9 1 (.slice (some ⟨gR1, 0, none⟩) ps.length cR1) ps.length (ListS.strs ps)) := row_below hb R1.out
  replace R3 : Hid (World.ownsRow w11 w8.heap.size 3 1 (.slice (some ⟨gR3, 0, none⟩) is.length cR3) is.length (ListS.ints is)) := row_below hb R3.out
  replace R4 : Hid (World.ownsRow w11 w9.heap.size 3 1 (.slice (some ⟨gR4, 0, none⟩) is.length cR4) is.length (ListS.ints is)) := row_below hb R4.out
  clear hb 
  clear R3 R4
  go_wp2_with fail
  refine (Draw.DrawMakeDict_any _ xs1 w11 S1.out).mono ?_
  rintro e w12 ⟨x, xs, g, c, rfl, hx1, hx2, hxn, hxs, hrow, hb⟩
  replace B : Hid (Below w.heap.size w w12) := B.out.trans (hb.mono B.out.size)
  replace S1 : Hid (Draw.SB w12 (.slice a1 xs1.length c1) xs1) := S1.out.below hb
  replace R1 : Hid (World.ownsRow w12 w1.heap.size 9 1 (.slice (some ⟨gR1, 0, none⟩) ps.length cR1) ps.length (ListS.strs ps)) := row_below hb R1.out
  have RL : Hid (World.ownsRow w12 w11.heap.size 9 1 (.slice (some ⟨g, 0, none⟩) xs.length c) xs.length (ListS.strs xs)) := hrow
  clear hb hrow
  clear S1
  have HSZ : Hid (∀ (k : Nat) (y : ByteArray), xs[k]? = some y → y.size ≤ 2147483648) := fun k y hy => Nat.le_trans (hxs y (List.mem_of_getElem? hy)) (by decide)
  have hxi : -9223372036854775808 ≤ x ∧ x ≤ 9223372036854775807 := ⟨by omega, by omega⟩
  have HXI := hid hxi
  clear hxs hx1 hx2 hxi
  obtain ⟨o, ho⟩ : ∃ o, o = MkDict.md x xs := ⟨_, rfl⟩
  have HO := hid ho
  clear ho
  go_wp2_with fail
  refine ((show Calls Tryd.prog _ _ w12 (MkDict.MPost w12 o) from by rw [HO.out]; exact MkDict.MakeDict_impl x xs _ _ w12 HXI.out (by omega) HSZ.out RL.out)).mono ?_
  rintro e w13 ⟨rfl, hb⟩
  replace B : Hid (Below w.heap.size w w13) := B.out.trans (hb.mono B.out.size)
  replace R1 : Hid (World.ownsRow w13 w1.heap.size 9 1 (.slice (some ⟨gR1, 0, none⟩) ps.length cR1) ps.length (ListS.strs ps)) := row_below hb R1.out
  replace RL : Hid (World.ownsRow w13 w11.heap.size 9 1 (.slice (some ⟨g, 0, none⟩) xs.length c) xs.length (ListS.strs xs)) := row_below hb RL.out
  clear hb 
  go_wp2_with fail
  refine ((show Calls Tryd.prog _ _ w13 (MkDict.MPost w13 o) from by rw [HO.out]; exact MkDict.MakeDict_spec x xs _ _ w13 HXI.out (by omega) HSZ.out RL.out)).mono ?_
  rintro e w14 ⟨rfl, hb⟩
  replace B : Hid (Below w.heap.size w w14) := B.out.trans (hb.mono B.out.size)
  replace R1 : Hid (World.ownsRow w14 w1.heap.size 9 1 (.slice (some ⟨gR1, 0, none⟩) ps.length cR1) ps.length (ListS.strs ps)) := row_below hb R1.out
  replace RL : Hid (World.ownsRow w14 w11.heap.size 9 1 (.slice (some ⟨g, 0, none⟩) xs.length c) xs.length (ListS.strs xs)) := row_below hb RL.out
  clear hb 
  clear RL
  clear HSZ HXI HO
  cases ht : dt l with
  | none =>
    have hp0 : ps = [] := by rw [HPS.out]; unfold DText.dparts; rw [ht]; rfl
    have hi0 : iv = -1 := by rw [HIV.out]; unfold instI; rw [ht]
    have HZ : Hid (sizeI l = -1) := by show _ = _; unfold sizeI; rw [ht]
    have HD : Hid (depthI l = -1) := by show _ = _; unfold depthI; rw [ht]
    clear R1
    subst hi0
    subst hp0
    go_wp2_with fail
    refine (SizeOfDict_impl l w14 hl).mono ?_
    rintro e w15 ⟨rfl, hb⟩
    replace B : Hid (Below w.heap.size w w15) := B.out.trans (hb.mono B.out.size)
    clear hb 
    rw [HZ.out]
    go_wp2_with fail
    refine (DepthOfDict_impl l w15 hl).mono ?_
    rintro e w16 ⟨rfl, hb⟩
    replace B : Hid (Below w.heap.size w w16) := B.out.trans (hb.mono B.out.size)
    clear hb 
    rw [HD.out]
    go_wp2
    go_ret
    exact ⟨rfl, B.out⟩
  | some dcf =>
    obtain ⟨dc, f⟩ := dcf
    have hp1 : DText.dparts l = f := by unfold DText.dparts; rw [ht]
    have HPT : Hid (ps = DText.ftexts f) := by show _ = _; rw [HPS.out, hp1]
    have hlen : ps.length = f.len := by rw [HPT.out, DText.ftexts_len]
    obtain ⟨n, hn⟩ : ∃ n, n = ps.length := ⟨_, rfl⟩
    have hdv := MdPl.dv_bounds (dt_some ht).2.1
    have HIC : Hid (iv = dv dc) := by show _ = _; rw [HIV.out]; unfold instI; rw [ht]
    have hiv0 : ¬ iv < 0 := by rw [HIC.out]; omega
    have hiv9 : iv ≤ 9 := by rw [HIC.out]; omega
    have HT := hid ht
    have HNE := hid hn
    have HLN : Hid (n = f.len) := by show _ = _; rw [hn, hlen]
    rw [← hn] at R1 hpl
    rw [← hn]
    clear hp1 hlen hn ht hdv
    go_wp2_with fail
    have HB0 := B
    have hfz := MdPl.size_le f
    have hl12 : l.length ≤ 1200 := (dt_some HT.out).2.2.2.2
    have hfc : f.ct.length ≤ l.length := by
      rw [(dt_some HT.out).1]
      unfold dtext
      rw [List.length_cons]
      cases hc : f.ct with
      | nil => simp
      | cons x y => simp [wrap]
    have HFZ : Hid (f.size ≤ 1200 ∧ f.depth ≤ 1200) := by show _ ∧ _; omega
    clear hfz hfc
    go_loopg [14, 15, 102] n (fun q sm dm i wr => ∃ k : Nat, k ≤ n ∧ n - k ≤ q ∧ i = .int .i64 k ∧ sm = .int .i64 ((1 + MdPl.sz f k : Nat) : Int) ∧ dm = .int .i64 (MdPl.dp f k) ∧ MdPl.sz f k ≤ 1300 * k ∧ MdPl.dp f k ≤ 1300 ∧ Below w14.heap.size w14 wr)
    case atStart => exact ⟨0, Nat.zero_le _, by simp, rfl, by cases f <;> rfl, by cases f <;> rfl, by cases f <;> simp [MdPl.sz], by cases f <;> simp [MdPl.dp], Below.refl _ _⟩
    case round =>
      obtain ⟨k, hk, hq, rfl, rfl, rfl, hs1, hd1, hb⟩ := hrel
      have HB := hid hb
      clear hb
      by_cases hlt : k < n
      · obtain ⟨d, g0, hsx0, hdd, hd12, hs2, hd2⟩ := MdPl.part_dt HT.out (show k < f.len by have := HLN.out; omega)
        have hgz := MdPl.size_le g0
        have hgc : g0.ct.length ≤ (dtext d g0).length := by
          unfold dtext
          rw [List.length_cons]
          cases hc : g0.ct with
          | nil => simp
          | cons x y => simp [wrap]
        have hg12 : g0.size ≤ 1200 ∧ g0.depth ≤ 1200 := by omega
        obtain ⟨hg1, hg2⟩ := hg12
        have HS1 := hid hs2
        have HD1 := hid hd2
        have hsx : (ListS.strs ps)[k]? = some (.string ⟨(dtext d g0).toArray⟩) := by rw [HPT.out]; simp [ListS.strs, hsx0]
        obtain ⟨gq, cc1, e1, -, hgg, cs1, hc1, hd3⟩ := row_at R1.out (by omega)
        cases e1
        have q1 : w14.cell? ⟨gR1, k, none⟩ = some (.string ⟨(dtext d g0).toArray⟩) := (heap_cell hc1 k).trans (hd3 k _ hsx)
        have k1 : wr.cell? ⟨gR1, k, none⟩ = some (.string ⟨(dtext d g0).toArray⟩) := (HB.out.cell (Draw.lt_cell q1)).trans q1
        have HZU : Hid (sizeI (dtext d g0) = 1 + (g0.size : Int)) := by show _ = _; unfold sizeI; rw [hdd]
        have HDU : Hid (depthI (dtext d g0) = (g0.depth : Int)) := by show _ = _; unfold depthI; rw [hdd]
        clear hsx0 hdd hsx hc1 hd3 q1 hs2 hd2 hgz hgc
        generalize dtext d g0 = pt at *
        go_wp2_with fail
        refine (SizeOfDict_impl pt wr (by omega)).mono ?_
        rintro e w1 ⟨rfl, hb⟩
        rw [HZU.out]
        have HB1 : Hid (Below w14.heap.size w14 w1) := HB.out.trans (hb.mono HB.out.size)
        clear hb k1
        go_wp2_with fail
        refine (DepthOfDict_impl pt w1 (by omega)).mono ?_
        rintro e w2 ⟨rfl, hb⟩
        rw [HDU.out]
        have HB2 : Hid (Below w14.heap.size w14 w2) := HB1.out.trans (hb.mono HB1.out.size)
        clear hb
        go_wp2_with fail
        go_roundg (n - (k + 1))
        case measure => omega
        case rel => exact ⟨k + 1, by omega, by omega, by go_num, by rw [HS1.out]; go_num, by rw [HD1.out]; go_num, by rw [HS1.out]; omega, by rw [HD1.out]; omega, HB2.out⟩
      · have hke : k = n := by omega
        subst hke
        clear hlt hq hk
        have HSA : Hid (MdPl.sz f k = f.size) := by show _ = _; rw [HLN.out]; exact MdPl.sz_all f
        have HDA : Hid (MdPl.dp f k = f.depth) := by show _ = _; rw [HLN.out]; exact MdPl.dp_all f
        have HMS := hid (MdPl.md_self HT.out)
        rw [← HPT.out, ← HIC.out] at HMS
        have HSL : Hid (∀ (j : Nat) (y : ByteArray), ps[j]? = some y → y.size ≤ 2147483648) := fun j y hy => by
          rw [HPT.out] at hy
          have h9 := MdPl.parts_len HT.out y (List.mem_of_getElem? hy)
          have h10 : y.size = y.data.toList.length := by simp
          omega
        have HZL : Hid (sizeI l = 1 + (f.size : Int)) := by show _ = _; unfold sizeI; rw [HT.out]
        have HDL : Hid (depthI l = (f.depth : Int)) := by show _ = _; unfold depthI; rw [HT.out]
        have HIL : Hid (is.length ≤ 1 + f.size) := by show _ ≤ _; rw [HIS.out]; exact MdPl.sel_small HT.out
        have HR1 := hid (row_below HB.out R1.out)
        have HB1 : Hid (Below w.heap.size w wr) := HB0.out.trans (HB.out.mono HB0.out.size)
        rw [HSA.out, HDA.out]
        rw [HSA.out] at hs1
        rw [HDA.out] at hd1
        clear B HB HB0 R1
        have hmk := hid (show Calls Tryd.prog _ _ wr (MkDict.MPost wr (some l)) from by rw [← HMS.out]; exact MkDict.MakeDict_impl iv ps (.slice (some ⟨gR1, 0, none⟩) k cR1) _ wr ⟨by omega, by omega⟩ (by rw [← HNE.out]; omega) HSL.out (by rw [← HNE.out]; exact HR1.out))
        go_wp2_with fail
        refine hmk.out.mono ?_
        rintro e v1 ⟨rfl, hb⟩
        have HB2 : Hid (Below w.heap.size w v1) := HB1.out.trans (hb.mono HB1.out.size)
        clear hb hmk
        go_wp2_with fail
        refine (SizeOfDict_impl l v1 hl).mono ?_
        rintro e v2 ⟨rfl, hb⟩
        rw [HZL.out]
        have HB3 : Hid (Below w.heap.size w v2) := HB2.out.trans (hb.mono HB2.out.size)
        clear hb
        go_wp2_with fail
        refine (DepthOfDict_impl l v2 hl).mono ?_
        rintro e v3 ⟨rfl, hb⟩
        rw [HDL.out]
        have HB4 : Hid (Below w.heap.size w v3) := HB3.out.trans (hb.mono HB3.out.size)
        clear hb
        go_wp2_with fail
        refine (show Calls Tryd.prog _ _ v3 (Insts.IPost v3 is) from by rw [HIS.out]; exact Insts.InstancesIn_impl l v3 hl).mono ?_
        rintro e v4 ⟨g9, c9, rfl, -, hb⟩
        have HB5 : Hid (Below w.heap.size w v4) := HB4.out.trans (hb.mono HB4.out.size)
        have hil2 : (is.length : Int) ≤ 1 + (f.size : Int) := by have := HIL.out; omega
        clear hb
        go_wp2
        go_ret
        exact ⟨rfl, HB5.out⟩

theorem lifted (os : Os) (started : os.Started) (H : Type) (enc : TypeId × Value → H) :
    ReturnsInHanded {} Tryd.checked os 4 .any (fun w args => (Rows.fnMakeDictSpec.pre enc Tryd.prog Tryd.f4 Rows.fnMakeDictRow.domain false w args ∧ laidMetH Tryd.prog Rows.fnMakeDictRow.laid w) ∧ sizedMet enc Tryd.prog Tryd.f4 (OpenSpec.ofChange Rows.fnMakeDictSpec) false w args) (Rows.fnMakeDictSpec.post enc Tryd.prog Tryd.f4 false true false false) := by
  refine returnsInHanded_of_change_and (C := Tryd.checked) (X := fun w _ => laidMetH Tryd.prog Rows.fnMakeDictRow.laid w) (fun _ _ _ hh h => h.of_heap hh) own started (by kernel_rfl) Tryd.func4
    (ChangeSpec.witness_shaped (enc := enc) (C := Tryd.checked) (os := os) (X := fun w _ => laidMetH Tryd.prog Rows.fnMakeDictRow.laid w) false (World.laidAll Tryd.prog os Rows.fnMakeDictRow.laid) #[.slice none 0 0, .slice none 0 0] 8 (World.laidAll_os _ _ _)
      (World.shaped_of_ZipB (by kernel_rfl) (by kernel_rfl)) (by kernel_rfl) (by kernel_rfl) (by kernel_rfl)
      (by rw [MakeChecks.laidMetH_plain _ _ _ (by kernel_rfl)]; exact laidMet_laidAll _ (by kernel_rfl) (by kernel_rfl))) ?_
  intro W base args ds gs before hval0 hW hcnd _ _ _
  have hval : ∀ (j : Nat) t v, Tryd.f4.params[j]? = some t → args[j]? = some v → Value.okWide Tryd.prog W .any base t v := hval0
  have hW' := hW
  obtain ⟨p, q, hA0, hV, rfl, hfz, hnd⟩ := hW
  have hA : DataW.TrodAll enc Tryd.prog W 0 (fun _ => true) true Tryd.f4.params.toList args.toList ds p := hA0
  rw [Tryd.params4] at hA hval
  have hL := DataW.TrodAll.lt hA
  obtain ⟨v0, vs0, d0, ds0, p0, q0, hargs, rfl, rfl, h0, r0⟩ := trodAll_cons hA
  obtain ⟨v1, vs1, d1, ds1, p1, q1, rfl, rfl, rfl, h1, r1⟩ := trodAll_cons r0
  obtain ⟨rfl, rfl, rfl⟩ := trodAll_nil r1
  obtain rfl : args = #[v0, v1] := by cases args; simp_all
  obtain ⟨rfl, rfl⟩ := trodVars_none hV
  have k0 := h0
  have l0 : ∀ x ∈ p0, x.block < W.heap.size := fun x hx => hL x (by simp [hx])
  have k1 := h1
  have l1 : ∀ x ∈ p1, x.block < W.heap.size := fun x hx => hL x (by simp [hx])
  obtain ⟨xs0, s0⟩ := Draw.open_sb Tryd.underlying22 Tryd.underlying5 (by kernel_rfl) (hval 0 22 v0 rfl rfl) h0
  obtain ⟨xs1, s1⟩ := Draw.open_sb Tryd.underlying22 Tryd.underlying5 (by kernel_rfl) (hval 1 22 v1 rfl rfl) h1
  clear hA0 hval0
  simp only [List.append_nil] at hW'
  refine (walk W _ _ s0 _ _ s1).mono fun e W' ⟨he, bel⟩ => ?_
  subst he
  exact ⟨_, rfl, _, _, _, [], _, [], hW', (trodAll_cons_mk (shut_bool Tryd.underlying4 _) trodAll_mk0), (trodAll_cons_mk (Below.trod laidOut (by kernel_rfl) (of_decide_eq_true (by kernel_rfl)) k0 bel l0) (trodAll_cons_mk (Below.trod laidOut (by kernel_rfl) (of_decide_eq_true (by kernel_rfl)) k1 bel l1) trodAll_mk0)), rfl, bel.frame _, fun h => by cases h⟩
theorem e1 : Rows.fnMakeDictRow.lifted = Rows.fnWorldTextRow.lifted := rfl
theorem e2 : Rows.fnMakeDictRow.make = Rows.fnWorldTextRow.make := rfl
theorem e3 : Rows.fnMakeDictRow.plainKeys = Rows.fnWorldTextRow.plainKeys := rfl
theorem facts : joinedFacts Tryd.pinned.checked.prog 4 Tryd.f4 Rows.fnMakeDictSpec Rows.fnMakeDictRow = true := by
  refine Facts.joined e1 e2 e3 ?_ ?_ ?_ ?_ ?_ ?_ ?_ ?_ ?_ ?_ ?_ ?_ ?_ ?_ ?_ ?_ ?_ ?_ ?_ ?_ ?_ ?_ ?_
  all_goals as_aux_lemma => kernel_rfl
theorem over : Rows.fnMakeDictRow.holds Tryd.pinned (OpenSpec.ofChange Rows.fnMakeDictSpec) :=
  OpenClaim.holds_of_wide 4 Tryd.f4 rfl rfl rfl rfl rfl rfl rfl ⟨rfl, rfl, rfl, rfl, rfl⟩ rfl rfl rfl rfl rfl (by kernel_rfl) Tryd.func4 facts
    (of_decide_eq_true (by kernel_rfl)) (by unfold Func.isWrapper; first | (rw [if_pos (by decide +kernel)]; kernel_rfl) | (rw [if_neg (by decide +kernel)]; exact ⟨rfl, rfl⟩))
    (fun os started H enc _ => lifted os started H enc)
end Go.Proofs.YtaapdhacnbhohaaDoor.fnMakeDict
namespace Go.Proofs.YtaapdhacnbhohaaDoor
theorem fnMakeDict_holds : Rows.FnMakeDictCardSaid :=
  Claim7.holds_tied_plain_at .later [] Rows.fnMakeDictCard.laidKinds true Rows.fnMakeDictCard.stood.harness Rows.fnMakeDictCard.stood.looks
    fnMakeDict.over (fun _ h => by cases h) (by kernel_rfl) (fun _ h => by cases h) fnMakeDict_row_tie rfl ⟨rfl, rfl⟩ (by kernel_rfl) rfl
    (fun f fn hf hfn => by
      obtain rfl : f = 4 := Option.some.inj ((show Tryd.prog.funcNamed "loop.example/instancesearch/laws.FnMakeDict" = some 4 by kernel_rfl).symm.trans hf) |>.symm
      obtain rfl : fn = Tryd.f4 := (Option.some.inj (Tryd.func4.symm.trans hfn)).symm
      exact ⟨by kernel_rfl, fun j t ht => by
        rw [Tryd.params4] at ht
        have hm := Array.mem_of_getElem? ht
        have hall : (Tryd.f4.params.all fun u => !Tryd.prog.wantsStandIn u) = true := by kernel_rfl
        rw [Tryd.params4] at hall
        have := Array.all_eq_true'.1 hall t hm
        exact (show Tryd.prog.wantsStandIn t = false by simpa using this)⟩)
    (by kernel_rfl)
end Go.Proofs.YtaapdhacnbhohaaDoor
