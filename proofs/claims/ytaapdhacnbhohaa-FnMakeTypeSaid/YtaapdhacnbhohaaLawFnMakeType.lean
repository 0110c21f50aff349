/- FnMakeType answers true for every input: what is made of drawn heads and parts is read back alike, and a drawn type is made again of its head and its parts, its size and its depth being theirs. Conditions: none. -/
import Derived.Test.YtaapdhacnbhohaaDrawM
import Derived.Test.YtaapdhacnbhohaaMkPl
import Derived.Test.YtaapdhacnbhohaaMkTypeS
import Derived.Test.YtaapdhacnbhohaaTypeFns
import Derived.Test.YtaapdhacnbhohaaRows
import Derived.Test.YtaapdhacnbhohaaFacts
import Derived.WalkKit
import Derived.ProofKit
import Derived.OpenShut
import Derived.ShutString
import Derived.ChangeOld
import Derived.Below
import Derived.Carry
import Derived.Lib.SmallJoins
set_option linter.unusedVariables false
set_option linter.unusedSimpArgs false
set_option maxRecDepth 100000
namespace Go.Proofs.Ytaapdhacnbhohaa.fnMakeType
open Go.ChangeShapes Go.WideShapes Go.ChangeAt Go.RowKit Go.Joins Ty ListS Parts MkType Go.Proofs.Ytaapdhacnbhohaa.Text
open Go.ChangeMaps (open_string shut_string)

theorem own : ownKnob Try.prog.godebug = none := by kernel_rfl
theorem laidOut : laidOutB Try.prog = true := by kernel_rfl
theorem bytes (s : ByteArray) : ∃ l : List UInt8, s = ⟨l.toArray⟩ ∧ s.size = l.length := ⟨s.data.toList, rfl, by simp⟩
set_option maxHeartbeats 16000000 in
theorem walk (w : World) (v0 : Value) (xs0 : List Int) (s0 : Draw.SB w v0 xs0) (v1 : Value) (xs1 : List Int) (s1 : Draw.SB w v1 xs1) :
    Calls Try.prog 4 #[v0, v1] w fun e w' => e = .returned (.bool true) ∧ Below w.heap.size w w' := by
  obtain ⟨a0, c0, rfl⟩ := Draw.sb_slice s0
  obtain ⟨a1, c1, rfl⟩ := Draw.sb_slice s1
  by_cases hl0 : 1048576 < xs0.length
  · have hl0' : (xs0.length : Int) > 1048576 := by omega
    go_enter Try.func4, Try.ntmps4
    go_wp2
    go_ret
    exact ⟨rfl, Below.refl _ _⟩
  by_cases hl1 : 1048576 < xs1.length
  · have hl0' : ¬ (xs0.length : Int) > 1048576 := by omega
    have hl1' : (xs1.length : Int) > 1048576 := by omega
    go_enter Try.func4, Try.ntmps4
    go_wp2
    go_ret
    exact ⟨rfl, Below.refl _ _⟩
  have hl0' : ¬ (xs0.length : Int) > 1048576 := by omega
  have hl1' : ¬ (xs1.length : Int) > 1048576 := by omega
  have S0 := hid s0
  have S1 := hid s1
  have B : Hid (Below w.heap.size w w) := Below.refl _ _
  clear s0 s1
  go_enter Try.func4, Try.ntmps4
  go_wp2_with fail
  refine (Draw.DrawPartsOf_any _ xs0 w S0.out).mono ?_
  rintro e w1 ⟨s, rfl, -, hs, hb⟩
  replace B : Hid (Below w.heap.size w w1) := B.out.trans (hb.mono B.out.size)
  replace S1 : Hid (Draw.SB w1 (.slice a1 xs1.length c1) xs1) := S1.out.below hb
  clear hb 
  obtain ⟨l, rfl, hz⟩ := bytes s
  have hl : l.length ≤ 2147483648 := by omega
  have hl1 : l.length ≤ 1048576 := by omega
  have hl2 : l.length + 4 ≤ maxLen := by unfold maxLen; omega
  clear hz hs S0
  obtain ⟨ps, hps⟩ : ∃ ps, ps = texts (partsL l) := ⟨_, rfl⟩
  have HPS := hid hps
  have hpl : ps.length ≤ 2 := by rw [hps]; unfold partsL; split <;> simp [texts, parts_len]
  clear hps
  go_wp2_with fail
  refine ((show Calls Try.prog _ _ w1 (LPost w1 ps) from by rw [HPS.out]; exact PartsOf_impl2 l w1 hl)).mono ?_
  rintro e w2 ⟨gR1, cR1, rfl, hrow, hb⟩
  replace B : Hid (Below w.heap.size w w2) := B.out.trans (hb.mono B.out.size)
  replace S1 : Hid (Draw.SB w2 (.slice a1 xs1.length c1) xs1) := S1.out.below hb
  have R1 : Hid (w2.ownsRow w1.heap.size 9 1 (.slice (some ⟨gR1, 0, none⟩) (ps).length cR1) (ps).length (ListS.strs (ps))) := hrow
  clear hb hrow
  go_wp2_with fail
  refine (HeadOf_impl l w2 hl).mono ?_
  rintro e w3 ⟨rfl, hb⟩
  replace B : Hid (Below w.heap.size w w3) := B.out.trans (hb.mono B.out.size)
  replace S1 : Hid (Draw.SB w3 (.slice a1 xs1.length c1) xs1) := S1.out.below hb
  replace R1 : Hid (World.ownsRow w3 w1.heap.size 9 1 (.slice (some ⟨gR1, 0, none⟩) (ps).length cR1) (ps).length (ListS.strs (ps))) := row_below hb R1.out
  clear hb 
  go_wp2_with fail
  refine ((show Calls Try.prog _ _ w3 (LPost w3 ps) from by rw [HPS.out]; exact PartsOf_spec2 l w3 hl)).mono ?_
  rintro e w4 ⟨gR2, cR2, rfl, hrow, hb⟩
  replace B : Hid (Below w.heap.size w w4) := B.out.trans (hb.mono B.out.size)
  replace S1 : Hid (Draw.SB w4 (.slice a1 xs1.length c1) xs1) := S1.out.below hb
  replace R1 : Hid (World.ownsRow w4 w1.heap.size 9 1 (.slice (some ⟨gR1, 0, none⟩) (ps).length cR1) (ps).length (ListS.strs (ps))) := row_below hb R1.out
  have R2 : Hid (w4.ownsRow w3.heap.size 9 1 (.slice (some ⟨gR2, 0, none⟩) (ps).length cR2) (ps).length (ListS.strs (ps))) := hrow
  clear hb hrow
  go_wp2_with fail
  refine (Draw.inTexts_same _ _ ps w4 _ _ (by omega) R1.out R2.out).mono ?_
  rintro e w5 ⟨rfl, hb⟩
  replace B : Hid (Below w.heap.size w w5) := B.out.trans (hb.mono B.out.size)
  replace S1 : Hid (Draw.SB w5 (.slice a1 xs1.length c1) xs1) := S1.out.below hb
  replace R1 : Hid (World.ownsRow w5 w1.heap.size 9 1 (.slice (some ⟨gR1, 0, none⟩) (ps).length cR1) (ps).length (ListS.strs (ps))) := row_below hb R1.out
  replace R2 : Hid (World.ownsRow w5 w3.heap.size 9 1 (.slice (some ⟨gR2, 0, none⟩) (ps).length cR2) (ps).length (ListS.strs (ps))) := row_below hb R2.out
  clear hb 
  clear R2
  go_wp2_with fail
  refine (HeadOf_spec l w5 hl).mono ?_
  rintro e w6 ⟨rfl, hb⟩
  replace B : Hid (Below w.heap.size w w6) := B.out.trans (hb.mono B.out.size)
  replace S1 : Hid (Draw.SB w6 (.slice a1 xs1.length c1) xs1) := S1.out.below hb
  replace R1 : Hid (World.ownsRow w6 w1.heap.size 9 1 (.slice (some ⟨gR1, 0, none⟩) (ps).length cR1) (ps).length (ListS.strs (ps))) := row_below hb R1.out
  clear hb 
  go_wp2_with fail
  refine (TypeValid_impl l w6 hl2).mono ?_
  rintro e w7 ⟨rfl, hb⟩
  replace B : Hid (Below w.heap.size w w7) := B.out.trans (hb.mono B.out.size)
  replace S1 : Hid (Draw.SB w7 (.slice a1 xs1.length c1) xs1) := S1.out.below hb
  replace R1 : Hid (World.ownsRow w7 w1.heap.size 9 1 (.slice (some ⟨gR1, 0, none⟩) (ps).length cR1) (ps).length (ListS.strs (ps))) := row_below hb R1.out
  clear hb 
  go_wp2_with fail
  refine (TypeValid_spec l w7 hl2).mono ?_
  rintro e w8 ⟨rfl, hb⟩
  replace B : Hid (Below w.heap.size w w8) := B.out.trans (hb.mono B.out.size)
  replace S1 : Hid (Draw.SB w8 (.slice a1 xs1.length c1) xs1) := S1.out.below hb
  replace R1 : Hid (World.ownsRow w8 w1.heap.size 9 1 (.slice (some ⟨gR1, 0, none⟩) (ps).length cR1) (ps).length (ListS.strs (ps))) := row_below hb R1.out
  clear hb 
  go_wp2_with fail
  refine (Draw.DrawMakeType_any _ xs1 w8 S1.out).mono ?_
  rintro e w9 ⟨s, xs, g, c, rfl, hs, hxn, hxs, hrow, hb⟩
  replace B : Hid (Below w.heap.size w w9) := B.out.trans (hb.mono B.out.size)
  replace S1 : Hid (Draw.SB w9 (.slice a1 xs1.length c1) xs1) := S1.out.below hb
  replace R1 : Hid (World.ownsRow w9 w1.heap.size 9 1 (.slice (some ⟨gR1, 0, none⟩) (ps).length cR1) (ps).length (ListS.strs (ps))) := row_below hb R1.out
  have RL : Hid (World.ownsRow w9 w8.heap.size 9 1 (.slice (some ⟨g, 0, none⟩) xs.length c) xs.length (ListS.strs xs)) := hrow
  clear hb hrow
  clear S1
  obtain ⟨nm, rfl, hz⟩ := bytes s
  have hnm : nm.length ≤ 1048576 := by omega
  have HSL : Hid (StrsLen xs) := MkPl.strsLen3 xs hxn (fun x hx => Nat.le_trans (hxs x hx) (by decide))
  have HSZ : Hid (∀ (k : Nat) (x : ByteArray), xs[k]? = some x → x.size ≤ 2147483648) := fun k x hx => Nat.le_trans (hxs x (List.mem_of_getElem? hx)) (by decide)
  clear hz hs hxs
  obtain ⟨o, ho⟩ : ∃ o, o = mkT nm xs := ⟨_, rfl⟩
  have HO := hid ho
  clear ho
  go_wp2_with fail
  refine ((show Calls Try.prog _ _ w9 (MkType.MPost w9 o) from by rw [HO.out]; exact MakeType_impl nm xs _ _ w9 hnm HSL.out RL.out)).mono ?_
  rintro e w10 ⟨rfl, hb⟩
  replace B : Hid (Below w.heap.size w w10) := B.out.trans (hb.mono B.out.size)
  replace R1 : Hid (World.ownsRow w10 w1.heap.size 9 1 (.slice (some ⟨gR1, 0, none⟩) (ps).length cR1) (ps).length (ListS.strs (ps))) := row_below hb R1.out
  replace RL : Hid (World.ownsRow w10 w8.heap.size 9 1 (.slice (some ⟨g, 0, none⟩) xs.length c) xs.length (ListS.strs xs)) := row_below hb RL.out
  clear hb 
  go_wp2_with fail
  refine ((show Calls Try.prog _ _ w10 (MkType.MPost w10 o) from by rw [HO.out]; exact MakeType_spec nm xs _ _ w10 hnm HSL.out HSZ.out RL.out)).mono ?_
  rintro e w11 ⟨rfl, hb⟩
  replace B : Hid (Below w.heap.size w w11) := B.out.trans (hb.mono B.out.size)
  replace R1 : Hid (World.ownsRow w11 w1.heap.size 9 1 (.slice (some ⟨gR1, 0, none⟩) (ps).length cR1) (ps).length (ListS.strs (ps))) := row_below hb R1.out
  replace RL : Hid (World.ownsRow w11 w8.heap.size 9 1 (.slice (some ⟨g, 0, none⟩) xs.length c) xs.length (ListS.strs xs)) := row_below hb RL.out
  clear hb 
  clear HSL HSZ hnm
  cases o with
  | none =>
    clear HO
    clear RL
    cases ht : ty l with
    | none =>
      have hh : headL l = [] := by unfold headL; rw [ht]
      have hp0 : ps = [] := by rw [HPS.out]; unfold partsL; rw [ht]; rfl
      have HT1 := hid (fun x => TypeValid_impl l x hl2)
      rw [ht] at HT1
      rw [hh]
      clear R1
      subst hp0
      clear hh
      go_wp2_with fail
      refine (HT1.out w11).mono ?_
      rintro e w12 ⟨rfl, hb⟩
      replace B : Hid (Below w.heap.size w w12) := B.out.trans (hb.mono B.out.size)
      clear hb 
      go_wp2
      go_ret
      exact ⟨rfl, B.out⟩
    | some t =>
      have hh : headL l = [t.head] := by unfold headL; rw [ht]
      have hp1 : partsL l = t.parts := by unfold partsL; rw [ht]
      have HPT : Hid (ps = texts t.parts) := by show _ = _; rw [HPS.out, hp1]
      have hlen : ps.length = t.parts.length := by rw [HPT.out]; simp [texts]
      obtain ⟨n, hn⟩ : ∃ n, n = ps.length := ⟨_, rfl⟩
      have hemp : (headL l).isEmpty = false := by rw [hh]; rfl
      have HT := hid ht
      have HNE := hid hn
      have HLN : Hid (n = t.parts.length) := by show _ = _; rw [hn, hlen]
      rw [← hn] at R1 hpl
      rw [← hn]
      clear hh hp1 hlen hn ht
      go_wp2_with fail
      have hsl := (MkPl.size_le t).1
      have hdl := (MkPl.size_le t).2
      have HTX := hid (ty_some HT.out)
      have HB0 := B
      go_loopg [14, 15, 105] n (fun q sm dm i wr => ∃ k : Nat, k ≤ n ∧ n - k ≤ q ∧ i = .int .i64 k ∧ sm = .int .i64 (MkPl.sz t.parts k) ∧ dm = .int .i64 (MkPl.dp t.parts k) ∧ MkPl.sz t.parts k ≤ 1 + 100 * k ∧ MkPl.dp t.parts k ≤ 100 ∧ Below w11.heap.size w11 wr)
      case atStart => exact ⟨0, Nat.zero_le _, by simp, rfl, rfl, rfl, by simp [MkPl.sz], by simp [MkPl.dp], Below.refl _ _⟩
      case round =>
        obtain ⟨k, hk, hq, rfl, rfl, rfl, hs1, hd1, hb⟩ := hrel
        have HB := hid hb
        clear hb
        by_cases hlt : k < n
        · obtain ⟨u, hu⟩ : ∃ u, t.parts[k]? = some u := ⟨_, List.getElem?_eq_getElem (by have := HLN.out; omega)⟩
          obtain ⟨-, hul, hut⟩ := MkPl.part_ok HT.out (List.mem_of_getElem? hu)
          have hus := MkPl.size_le u
          have HS1 := hid (MkPl.sz_step hu)
          have HD1 := hid (MkPl.dp_step hu)
          have hsx : (ListS.strs ps)[k]? = some (.string ⟨u.text.toArray⟩) := by rw [HPT.out]; simp [ListS.strs, texts, hu]
          obtain ⟨g1, cc1, e1, -, hg1, cs1, hc1, hd2⟩ := row_at R1.out (by omega)
          cases e1
          have q1 : w11.cell? ⟨gR1, k, none⟩ = some (.string ⟨u.text.toArray⟩) := (heap_cell hc1 k).trans (hd2 k _ hsx)
          have k1 : wr.cell? ⟨gR1, k, none⟩ = some (.string ⟨u.text.toArray⟩) := (HB.out.cell (Draw.lt_cell q1)).trans q1
          have HZU : Hid (sizeI u.text = (u.size : Int)) := by show _ = _; unfold sizeI; rw [hut]
          have HDU : Hid (depthI u.text = (u.depth : Int)) := by show _ = _; unfold depthI; rw [hut]
          clear hu hut hsx hc1 hd2 q1
          go_wp2_with fail
          refine (SizeOf_impl u.text wr (by omega)).mono ?_
          rintro e w1 ⟨rfl, hb⟩
          rw [HZU.out]
          have HB1 : Hid (Below w11.heap.size w11 w1) := HB.out.trans (hb.mono HB.out.size)
          clear hb k1
          go_wp2_with fail
          refine (DepthOf_impl u.text w1 (by omega)).mono ?_
          rintro e w2 ⟨rfl, hb⟩
          rw [HDU.out]
          have HB2 : Hid (Below w11.heap.size w11 w2) := HB1.out.trans (hb.mono HB1.out.size)
          clear hb
          go_wp2_with fail
          go_roundg (n - (k + 1))
          case measure => omega
          case rel => exact ⟨k + 1, by omega, by omega, by go_num, by rw [HS1.out]; go_num, by rw [HD1.out]; go_num, by rw [HS1.out]; omega, by rw [HD1.out]; omega, HB2.out⟩
        · have hke : k = n := by omega
          subst hke
          clear hlt hq hk
          have HSA : Hid (MkPl.sz t.parts k = t.size) := by show _ = _; rw [HLN.out]; exact MkPl.sz_all t
          have HDA : Hid (MkPl.dp t.parts k = t.depth) := by show _ = _; rw [HLN.out]; exact MkPl.dp_all t
          have HMS := hid (MkPl.mk_self HT.out)
          rw [← HPS.out] at HMS
          have hps3 := MkPl.parts_small HT.out
          rw [← HPS.out] at hps3
          have HSL := hid (MkPl.strsLen3 ps hps3.1 hps3.2)
          have hhl : (headL l).length ≤ 1048576 := Nat.le_trans (headL_len l) (by decide)
          have HZL : Hid (sizeI l = (t.size : Int)) := by show _ = _; unfold sizeI; rw [HT.out]
          have HDL : Hid (depthI l = (t.depth : Int)) := by show _ = _; unfold depthI; rw [HT.out]
          have HR1 := hid (row_below HB.out R1.out)
          have HB1 : Hid (Below w.heap.size w wr) := HB0.out.trans (HB.out.mono HB0.out.size)
          rw [HSA.out, HDA.out]
          rw [HSA.out] at hs1
          rw [HDA.out] at hd1
          clear hps3 B HB HB0 R1
          have hmk := hid (show Calls Try.prog _ _ wr (MkType.MPost wr (some l)) from by rw [← HMS.out]; exact MakeType_impl (headL l) ps (.slice (some ⟨gR1, 0, none⟩) k cR1) _ wr hhl HSL.out (by rw [← HNE.out]; exact HR1.out))
          go_wp2_with fail
          refine hmk.out.mono ?_
          rintro e v1 ⟨rfl, hb⟩
          have HB2 : Hid (Below w.heap.size w v1) := HB1.out.trans (hb.mono HB1.out.size)
          clear hb hmk
          go_wp2_with fail
          refine (SizeOf_impl l v1 hl).mono ?_
          rintro e v2 ⟨rfl, hb⟩
          rw [HZL.out]
          have HB3 : Hid (Below w.heap.size w v2) := HB2.out.trans (hb.mono HB2.out.size)
          clear hb
          go_wp2_with fail
          refine (DepthOf_impl l v2 hl).mono ?_
          rintro e v3 ⟨rfl, hb⟩
          rw [HDL.out]
          have HB4 : Hid (Below w.heap.size w v3) := HB3.out.trans (hb.mono HB3.out.size)
          clear hb
          go_wp2
          go_ret
          exact ⟨rfl, HB4.out⟩
  | some made =>
    obtain ⟨hm1, hm2, hm3⟩ := MkPl.mk_back HO.out.symm
    have hml : made.length ≤ 2147483648 := by omega
    have HM2 := hid hm2
    have HM1 := hid hm1
    clear HO hm1 hm2
    go_wp2_with fail
    refine ((show Calls Try.prog _ _ w11 _ from HeadOf_impl made w11 hml)).mono ?_
    rintro e w12 ⟨rfl, hb⟩
    replace B : Hid (Below w.heap.size w w12) := B.out.trans (hb.mono B.out.size)
    replace R1 : Hid (World.ownsRow w12 w1.heap.size 9 1 (.slice (some ⟨gR1, 0, none⟩) (ps).length cR1) (ps).length (ListS.strs (ps))) := row_below hb R1.out
    replace RL : Hid (World.ownsRow w12 w8.heap.size 9 1 (.slice (some ⟨g, 0, none⟩) xs.length c) xs.length (ListS.strs xs)) := row_below hb RL.out
    clear hb 
    rw [HM1.out]
    go_wp2_with fail
    refine ((show Calls Try.prog _ _ w12 (LPost w12 xs) from by rw [← HM2.out]; exact PartsOf_impl2 made w12 hml)).mono ?_
    rintro e w13 ⟨gR3, cR3, rfl, hrow, hb⟩
    replace B : Hid (Below w.heap.size w w13) := B.out.trans (hb.mono B.out.size)
    replace R1 : Hid (World.ownsRow w13 w1.heap.size 9 1 (.slice (some ⟨gR1, 0, none⟩) (ps).length cR1) (ps).length (ListS.strs (ps))) := row_below hb R1.out
    replace RL : Hid (World.ownsRow w13 w8.heap.size 9 1 (.slice (some ⟨g, 0, none⟩) xs.length c) xs.length (ListS.strs xs)) := row_below hb RL.out
    have R3 : Hid (w13.ownsRow w12.heap.size 9 1 (.slice (some ⟨gR3, 0, none⟩) (xs).length cR3) (xs).length (ListS.strs (xs))) := hrow
    clear hb hrow
    go_wp2_with fail
    refine (Draw.inTexts_same _ _ xs w13 _ _ (by omega) R3.out RL.out).mono ?_
    rintro e w14 ⟨rfl, hb⟩
    replace B : Hid (Below w.heap.size w w14) := B.out.trans (hb.mono B.out.size)
    replace R1 : Hid (World.ownsRow w14 w1.heap.size 9 1 (.slice (some ⟨gR1, 0, none⟩) (ps).length cR1) (ps).length (ListS.strs (ps))) := row_below hb R1.out
    replace RL : Hid (World.ownsRow w14 w8.heap.size 9 1 (.slice (some ⟨g, 0, none⟩) xs.length c) xs.length (ListS.strs xs)) := row_below hb RL.out
    replace R3 : Hid (World.ownsRow w14 w12.heap.size 9 1 (.slice (some ⟨gR3, 0, none⟩) (xs).length cR3) (xs).length (ListS.strs (xs))) := row_below hb R3.out
    clear hb 
    clear R3 RL
    clear HM1 HM2 hml hm3
    cases ht : ty l with
    | none =>
      have hh : headL l = [] := by unfold headL; rw [ht]
      have hp0 : ps = [] := by rw [HPS.out]; unfold partsL; rw [ht]; rfl
      have HT1 := hid (fun x => TypeValid_impl l x hl2)
      rw [ht] at HT1
      rw [hh]
      clear R1
      subst hp0
      clear hh
      go_wp2_with fail
      refine (HT1.out w14).mono ?_
      rintro e w15 ⟨rfl, hb⟩
      replace B : Hid (Below w.heap.size w w15) := B.out.trans (hb.mono B.out.size)
      clear hb 
      go_wp2
      go_ret
      exact ⟨rfl, B.out⟩
    | some t =>
      have hh : headL l = [t.head] := by unfold headL; rw [ht]
      have hp1 : partsL l = t.parts := by unfold partsL; rw [ht]
      have HPT : Hid (ps = texts t.parts) := by show _ = _; rw [HPS.out, hp1]
      have hlen : ps.length = t.parts.length := by rw [HPT.out]; simp [texts]
      obtain ⟨n, hn⟩ : ∃ n, n = ps.length := ⟨_, rfl⟩
      have hemp : (headL l).isEmpty = false := by rw [hh]; rfl
      have HT := hid ht
      have HNE := hid hn
      have HLN : Hid (n = t.parts.length) := by show _ = _; rw [hn, hlen]
      rw [← hn] at R1 hpl
      rw [← hn]
      clear hh hp1 hlen hn ht
      go_wp2_with fail
      have hsl := (MkPl.size_le t).1
      have hdl := (MkPl.size_le t).2
      have HTX := hid (ty_some HT.out)
      have HB0 := B
      go_loopg [14, 15, 105] n (fun q sm dm i wr => ∃ k : Nat, k ≤ n ∧ n - k ≤ q ∧ i = .int .i64 k ∧ sm = .int .i64 (MkPl.sz t.parts k) ∧ dm = .int .i64 (MkPl.dp t.parts k) ∧ MkPl.sz t.parts k ≤ 1 + 100 * k ∧ MkPl.dp t.parts k ≤ 100 ∧ Below w14.heap.size w14 wr)
      case atStart => exact ⟨0, Nat.zero_le _, by simp, rfl, rfl, rfl, by simp [MkPl.sz], by simp [MkPl.dp], Below.refl _ _⟩
      case round =>
        obtain ⟨k, hk, hq, rfl, rfl, rfl, hs1, hd1, hb⟩ := hrel
        have HB := hid hb
        clear hb
        by_cases hlt : k < n
        · obtain ⟨u, hu⟩ : ∃ u, t.parts[k]? = some u := ⟨_, List.getElem?_eq_getElem (by have := HLN.out; omega)⟩
          obtain ⟨-, hul, hut⟩ := MkPl.part_ok HT.out (List.mem_of_getElem? hu)
          have hus := MkPl.size_le u
          have HS1 := hid (MkPl.sz_step hu)
          have HD1 := hid (MkPl.dp_step hu)
          have hsx : (ListS.strs ps)[k]? = some (.string ⟨u.text.toArray⟩) := by rw [HPT.out]; simp [ListS.strs, texts, hu]
          obtain ⟨g1, cc1, e1, -, hg1, cs1, hc1, hd2⟩ := row_at R1.out (by omega)
          cases e1
          have q1 : w14.cell? ⟨gR1, k, none⟩ = some (.string ⟨u.text.toArray⟩) := (heap_cell hc1 k).trans (hd2 k _ hsx)
          have k1 : wr.cell? ⟨gR1, k, none⟩ = some (.string ⟨u.text.toArray⟩) := (HB.out.cell (Draw.lt_cell q1)).trans q1
          have HZU : Hid (sizeI u.text = (u.size : Int)) := by show _ = _; unfold sizeI; rw [hut]
          have HDU : Hid (depthI u.text = (u.depth : Int)) := by show _ = _; unfold depthI; rw [hut]
          clear hu hut hsx hc1 hd2 q1
          go_wp2_with fail
          refine (SizeOf_impl u.text wr (by omega)).mono ?_
          rintro e w1 ⟨rfl, hb⟩
          rw [HZU.out]
          have HB1 : Hid (Below w14.heap.size w14 w1) := HB.out.trans (hb.mono HB.out.size)
          clear hb k1
          go_wp2_with fail
          refine (DepthOf_impl u.text w1 (by omega)).mono ?_
          rintro e w2 ⟨rfl, hb⟩
          rw [HDU.out]
          have HB2 : Hid (Below w14.heap.size w14 w2) := HB1.out.trans (hb.mono HB1.out.size)
          clear hb
          go_wp2_with fail
          go_roundg (n - (k + 1))
          case measure => omega
          case rel => exact ⟨k + 1, by omega, by omega, by go_num, by rw [HS1.out]; go_num, by rw [HD1.out]; go_num, by rw [HS1.out]; omega, by rw [HD1.out]; omega, HB2.out⟩
        · have hke : k = n := by omega
          subst hke
          clear hlt hq hk
          have HSA : Hid (MkPl.sz t.parts k = t.size) := by show _ = _; rw [HLN.out]; exact MkPl.sz_all t
          have HDA : Hid (MkPl.dp t.parts k = t.depth) := by show _ = _; rw [HLN.out]; exact MkPl.dp_all t
          have HMS := hid (MkPl.mk_self HT.out)
          rw [← HPS.out] at HMS
          have hps3 := MkPl.parts_small HT.out
          rw [← HPS.out] at hps3
          have HSL := hid (MkPl.strsLen3 ps hps3.1 hps3.2)
          have hhl : (headL l).length ≤ 1048576 := Nat.le_trans (headL_len l) (by decide)
          have HZL : Hid (sizeI l = (t.size : Int)) := by show _ = _; unfold sizeI; rw [HT.out]
          have HDL : Hid (depthI l = (t.depth : Int)) := by show _ = _; unfold depthI; rw [HT.out]
          have HR1 := hid (row_below HB.out R1.out)
          have HB1 : Hid (Below w.heap.size w wr) := HB0.out.trans (HB.out.mono HB0.out.size)
          rw [HSA.out, HDA.out]
          rw [HSA.out] at hs1
          rw [HDA.out] at hd1
          clear hps3 B HB HB0 R1
          have hmk := hid (show Calls Try.prog _ _ wr (MkType.MPost wr (some l)) from by rw [← HMS.out]; exact MakeType_impl (headL l) ps (.slice (some ⟨gR1, 0, none⟩) k cR1) _ wr hhl HSL.out (by rw [← HNE.out]; exact HR1.out))
          go_wp2_with fail
          refine hmk.out.mono ?_
          rintro e v1 ⟨rfl, hb⟩
          have HB2 : Hid (Below w.heap.size w v1) := HB1.out.trans (hb.mono HB1.out.size)
          clear hb hmk
          go_wp2_with fail
          refine (SizeOf_impl l v1 hl).mono ?_
          rintro e v2 ⟨rfl, hb⟩
          rw [HZL.out]
          have HB3 : Hid (Below w.heap.size w v2) := HB2.out.trans (hb.mono HB2.out.size)
          clear hb
          go_wp2_with fail
          refine (DepthOf_impl l v2 hl).mono ?_
          rintro e v3 ⟨rfl, hb⟩
          rw [HDL.out]
          have HB4 : Hid (Below w.heap.size w v3) := HB3.out.trans (hb.mono HB3.out.size)
          clear hb
          go_wp2
          go_ret
          exact ⟨rfl, HB4.out⟩

theorem lifted (os : Os) (started : os.Started) (H : Type) (enc : TypeId × Value → H) :
    ReturnsInHanded {} Try.checked os 4 .any (Rows.fnMakeTypeSpec.pre6 enc Try.prog Try.f4 Rows.fnMakeTypeRow.domain false) (Rows.fnMakeTypeSpec.post enc Try.prog Try.f4 false true false false) := by
  refine returnsInHanded_of_change (C := Try.checked) own started (by kernel_rfl) Try.func4
    (ChangeSpec.witness6 (enc := enc) (C := Try.checked) false ⟨#[], #[.slice none 0 0, .slice none 0 0], []⟩ 8 (by kernel_rfl) (by kernel_rfl) (by kernel_rfl) (by kernel_rfl)) ?_
  intro W base args ds gs before hval0 hW hcnd _
  have hval : ∀ (j : Nat) t v, Try.f4.params[j]? = some t → args[j]? = some v → Value.okWide Try.prog W .any base t v := hval0
  have hW' := hW
  obtain ⟨p, q, hA0, hV, rfl, hfz, hnd⟩ := hW
  have hA : DataW.TrodAll enc Try.prog W 0 (fun _ => true) true Try.f4.params.toList args.toList ds p := hA0
  rw [Try.params4] at hA hval
  have hL := DataW.TrodAll.lt hA
  obtain ⟨v0, vs0, d0, ds0, p0, q0, hargs, rfl, rfl, h0, r0⟩ := trodAll_cons hA
  obtain ⟨v1, vs1, d1, ds1, p1, q1, rfl, rfl, rfl, h1, r1⟩ := trodAll_cons r0
  obtain ⟨rfl, rfl, rfl⟩ := trodAll_nil r1
  obtain rfl : args = #[v0, v1] := by cases args; simp_all
  obtain ⟨rfl, rfl⟩ := trodVars_none hV
  have k0 := h0
  have l0 : ∀ x ∈ p0, x.block < W.heap.size := fun x hx => hL x (by simp [hx])
  have k1 := h1
  have l1 : ∀ x ∈ p1, x.block < W.heap.size := fun x hx => hL x (by simp [hx])
  obtain ⟨xs0, s0⟩ := Draw.open_sb Try.underlying22 Try.underlying5 (by kernel_rfl) (hval 0 22 v0 rfl rfl) h0
  obtain ⟨xs1, s1⟩ := Draw.open_sb Try.underlying22 Try.underlying5 (by kernel_rfl) (hval 1 22 v1 rfl rfl) h1
  clear hA0 hval0
  simp only [List.append_nil] at hW'
  refine (walk W _ _ s0 _ _ s1).mono fun e W' ⟨he, bel⟩ => ?_
  subst he
  exact ⟨_, rfl, _, _, _, [], _, [], hW', (trodAll_cons_mk (shut_bool Try.underlying4 _) trodAll_mk0), (trodAll_cons_mk (Below.trod laidOut (by kernel_rfl) (of_decide_eq_true (by kernel_rfl)) k0 bel l0) (trodAll_cons_mk (Below.trod laidOut (by kernel_rfl) (of_decide_eq_true (by kernel_rfl)) k1 bel l1) trodAll_mk0)), rfl, bel.frame _, fun h => by cases h⟩
theorem e1 : Rows.fnMakeTypeRow.lifted = Rows.fnVarsOfRow.lifted := rfl
theorem e2 : Rows.fnMakeTypeRow.make = Rows.fnVarsOfRow.make := rfl
theorem e3 : Rows.fnMakeTypeRow.plainKeys = Rows.fnVarsOfRow.plainKeys := rfl
theorem facts : joinedFacts Try.pinned.checked.prog 4 Try.f4 Rows.fnMakeTypeSpec Rows.fnMakeTypeRow = true := by
  refine Facts.joined e1 e2 e3 ?_ ?_ ?_ ?_ ?_ ?_ ?_ ?_ ?_ ?_ ?_ ?_ ?_ ?_ ?_ ?_ ?_ ?_ ?_ ?_ ?_ ?_ ?_
  all_goals as_aux_lemma => kernel_rfl
theorem over : Rows.fnMakeTypeRow.holds Try.pinned (OpenSpec.ofChange Rows.fnMakeTypeSpec) :=
  OpenClaim.holds_of_wide 4 Try.f4 rfl rfl rfl rfl rfl rfl rfl ⟨rfl, rfl, rfl, rfl, rfl⟩ rfl rfl rfl rfl rfl (by kernel_rfl) Try.func4 facts
    (of_decide_eq_true (by kernel_rfl)) (by unfold Func.isWrapper; first | (rw [if_pos (by decide +kernel)]; kernel_rfl) | (rw [if_neg (by decide +kernel)]; exact ⟨rfl, rfl⟩))
    (fun os started H enc _ => lifted os started H enc)
end Go.Proofs.Ytaapdhacnbhohaa.fnMakeType
namespace Go.Proofs.Ytaapdhacnbhohaa
theorem fnMakeType_holds : Rows.FnMakeTypeSaid := fnMakeType.over
end Go.Proofs.Ytaapdhacnbhohaa
