/- FnApply answers true for every input: drawn bindings applied to a drawn type are applied alike, and what they make of a type they make of its parts. Conditions: none. -/
import Derived.Test.YtaapdhacnbhohaaDrawB
import Derived.Test.YtaapdhacnbhohaaApPl
import Derived.Test.YtaapdhacnbhohaaSubA
import Derived.Test.YtaapdhacnbhohaaBindV
import Derived.Test.YtaapdhacnbhohaaFmtB
import Derived.Test.YtaapdhacnbhohaaMkTypeS
import Derived.Test.YtaapdhacnbhohaaRows
import Derived.Test.YtaapdhacnbhohaaFacts
import Derived.WalkKit
import Derived.ProofKit
import Derived.OpenShut
import Derived.ShutString
import Derived.ChangeOld
import Derived.Below
import Derived.Carry
import Derived.Lib.SmallJoins
set_option linter.unusedVariables false
set_option linter.unusedSimpArgs false
set_option maxRecDepth 100000
namespace Go.Proofs.Ytaapdhacnbhohaa.fnApply
open Go.ChangeShapes Go.WideShapes Go.ChangeAt Go.RowKit Go.Joins Ty ListS Parts MkType Go.Proofs.Ytaapdhacnbhohaa.Text Go.Proofs.Ytaapdhacnbhohaa.Sub
open Go.ChangeMaps (open_string shut_string)

theorem own : ownKnob Try.prog.godebug = none := by kernel_rfl
theorem laidOut : laidOutB Try.prog = true := by kernel_rfl
theorem bytes (s : ByteArray) : ∃ l : List UInt8, s = ⟨l.toArray⟩ ∧ s.size = l.length := ⟨s.data.toList, rfl, by simp⟩
set_option maxHeartbeats 16000000 in
theorem walk (w : World) (v0 : Value) (xs0 : List Int) (s0 : Draw.SB w v0 xs0) (v1 : Value) (xs1 : List Int) (s1 : Draw.SB w v1 xs1) :
    Calls Try.prog 5 #[v0, v1] w fun e w' => e = .returned (.bool true) ∧ Below w.heap.size w w' := by
  obtain ⟨a0, c0, rfl⟩ := Draw.sb_slice s0
  obtain ⟨a1, c1, rfl⟩ := Draw.sb_slice s1
  by_cases hl0 : 1048576 < xs0.length
  · have hl0' : (xs0.length : Int) > 1048576 := by omega
    go_enter Try.func5, Try.ntmps5
    go_wp2
    go_ret
    exact ⟨rfl, Below.refl _ _⟩
  by_cases hl1 : 1048576 < xs1.length
  · have hl0' : ¬ (xs0.length : Int) > 1048576 := by omega
    have hl1' : (xs1.length : Int) > 1048576 := by omega
    go_enter Try.func5, Try.ntmps5
    go_wp2
    go_ret
    exact ⟨rfl, Below.refl _ _⟩
  have hl0' : ¬ (xs0.length : Int) > 1048576 := by omega
  have hl1' : ¬ (xs1.length : Int) > 1048576 := by omega
  have S0 := hid s0
  have S1 := hid s1
  have B : Hid (Below w.heap.size w w) := Below.refl _ _
  clear s0 s1
  go_enter Try.func5, Try.ntmps5
  go_wp2_with fail
  refine (Draw.DrawApplyBindings_any _ xs0 w S0.out).mono ?_
  rintro e w1 ⟨lv, xs, s, rfl, hs, g, c, rfl, hx7, htx, hsp, hsz, hb⟩
  replace B : Hid (Below w.heap.size w w1) := B.out.trans (hb.mono B.out.size)
  replace S1 : Hid (Draw.SB w1 (.slice a1 xs1.length c1) xs1) := S1.out.below hb
  have P1 : Hid (World.ownsRow w1 w.heap.size 46 2 (.slice (some ⟨g, 0, none⟩) xs.length c) xs.length (flat xs)) := hsp
  have HSZ := hid hsz
  clear hb hsp hsz S0
  obtain ⟨l, rfl, hz⟩ := bytes s
  have hl : l.length ≤ 2147483648 := by omega
  have hl1 : l.length ≤ 1048576 := by omega
  have hl2 : l.length + 4 ≤ maxLen := by unfold maxLen; omega
  clear hz hs
  obtain ⟨o, ho⟩ : ∃ o, o = applyB xs l := ⟨_, rfl⟩
  have HO := hid ho
  clear ho
  have HTX := hid htx
  clear htx
  go_wp2_with fail
  refine ((show Calls Try.prog _ _ w1 (APost w1 o) from by rw [HO.out]; exact ApplyBindings_impl _ xs l w1 hl HTX.out (Draw.sp_rowB P1.out HSZ.out))).mono ?_
  rintro e w2 ⟨rfl, hb⟩
  replace B : Hid (Below w.heap.size w w2) := B.out.trans (hb.mono B.out.size)
  replace S1 : Hid (Draw.SB w2 (.slice a1 xs1.length c1) xs1) := S1.out.below hb
  replace P1 : Hid (World.ownsRow w2 w.heap.size 46 2 (.slice (some ⟨g, 0, none⟩) xs.length c) xs.length (flat xs)) := row_below hb P1.out
  clear hb 
  go_wp2_with fail
  refine ((show Calls Try.prog _ _ w2 (APost w2 o) from by rw [HO.out]; exact ApplyBindings_spec _ xs l w2 hl HTX.out (Draw.sp_rowB P1.out HSZ.out))).mono ?_
  rintro e w3 ⟨rfl, hb⟩
  replace B : Hid (Below w.heap.size w w3) := B.out.trans (hb.mono B.out.size)
  replace S1 : Hid (Draw.SB w3 (.slice a1 xs1.length c1) xs1) := S1.out.below hb
  replace P1 : Hid (World.ownsRow w3 w.heap.size 46 2 (.slice (some ⟨g, 0, none⟩) xs.length c) xs.length (flat xs)) := row_below hb P1.out
  clear hb 
  go_wp2_with fail
  refine (Draw.DrawBindingsValid_any _ xs1 w3 S1.out).mono ?_
  rintro e w4 ⟨lv, ys, rfl, g2, c2, rfl, hy7, hty, hsp, hsz, hb⟩
  replace B : Hid (Below w.heap.size w w4) := B.out.trans (hb.mono B.out.size)
  replace S1 : Hid (Draw.SB w4 (.slice a1 xs1.length c1) xs1) := S1.out.below hb
  replace P1 : Hid (World.ownsRow w4 w.heap.size 46 2 (.slice (some ⟨g, 0, none⟩) xs.length c) xs.length (flat xs)) := row_below hb P1.out
  have P2 : Hid (SP w4 (.slice (some ⟨g2, 0, none⟩) ys.length c2) ys) := Draw.sp_rowB hsp hsz
  clear hb hsp hsz
  have HTY := hid hty
  clear hty
  clear S1
  cases o with
  | none =>
    clear HO
    go_wp2_with fail
    refine (BindingsValid_impl _ ys w4 HTY.out P2.out).mono ?_
    rintro e w5 ⟨rfl, hb⟩
    replace B : Hid (Below w.heap.size w w5) := B.out.trans (hb.mono B.out.size)
    replace P1 : Hid (World.ownsRow w5 w.heap.size 46 2 (.slice (some ⟨g, 0, none⟩) xs.length c) xs.length (flat xs)) := row_below hb P1.out
    replace P2 : Hid (SP w5 (.slice (some ⟨g2, 0, none⟩) ys.length c2) ys) := P2.out.below hb
    clear hb 
    go_wp2_with fail
    refine (BindingsValid_spec _ ys w5 HTY.out P2.out).mono ?_
    rintro e w6 ⟨rfl, hb⟩
    replace B : Hid (Below w.heap.size w w6) := B.out.trans (hb.mono B.out.size)
    replace P1 : Hid (World.ownsRow w6 w.heap.size 46 2 (.slice (some ⟨g, 0, none⟩) xs.length c) xs.length (flat xs)) := row_below hb P1.out
    replace P2 : Hid (SP w6 (.slice (some ⟨g2, 0, none⟩) ys.length c2) ys) := P2.out.below hb
    clear hb 
    go_wp2_with fail
    refine (FormatBindings_impl _ ys w6 HTY.out P2.out).mono ?_
    rintro e w7 ⟨rfl, hb⟩
    replace B : Hid (Below w.heap.size w w7) := B.out.trans (hb.mono B.out.size)
    replace P1 : Hid (World.ownsRow w7 w.heap.size 46 2 (.slice (some ⟨g, 0, none⟩) xs.length c) xs.length (flat xs)) := row_below hb P1.out
    replace P2 : Hid (SP w7 (.slice (some ⟨g2, 0, none⟩) ys.length c2) ys) := P2.out.below hb
    clear hb 
    go_wp2_with fail
    refine (FormatBindings_spec _ ys w7 HTY.out P2.out).mono ?_
    rintro e w8 ⟨rfl, hb⟩
    replace B : Hid (Below w.heap.size w w8) := B.out.trans (hb.mono B.out.size)
    replace P1 : Hid (World.ownsRow w8 w.heap.size 46 2 (.slice (some ⟨g, 0, none⟩) xs.length c) xs.length (flat xs)) := row_below hb P1.out
    replace P2 : Hid (SP w8 (.slice (some ⟨g2, 0, none⟩) ys.length c2) ys) := P2.out.below hb
    clear hb 
    go_wp2_with fail
    refine (BindingsValid_impl _ ys w8 HTY.out P2.out).mono ?_
    rintro e w9 ⟨rfl, hb⟩
    replace B : Hid (Below w.heap.size w w9) := B.out.trans (hb.mono B.out.size)
    replace P1 : Hid (World.ownsRow w9 w.heap.size 46 2 (.slice (some ⟨g, 0, none⟩) xs.length c) xs.length (flat xs)) := row_below hb P1.out
    replace P2 : Hid (SP w9 (.slice (some ⟨g2, 0, none⟩) ys.length c2) ys) := P2.out.below hb
    clear hb 
    go_wp2_with fail
    refine (BindingsValid_spec _ ys w9 HTY.out P2.out).mono ?_
    rintro e w10 ⟨rfl, hb⟩
    replace B : Hid (Below w.heap.size w w10) := B.out.trans (hb.mono B.out.size)
    replace P1 : Hid (World.ownsRow w10 w.heap.size 46 2 (.slice (some ⟨g, 0, none⟩) xs.length c) xs.length (flat xs)) := row_below hb P1.out
    replace P2 : Hid (SP w10 (.slice (some ⟨g2, 0, none⟩) ys.length c2) ys) := P2.out.below hb
    clear hb 
    go_wp2_with fail
    refine (FormatBindings_impl _ ys w10 HTY.out P2.out).mono ?_
    rintro e w11 ⟨rfl, hb⟩
    replace B : Hid (Below w.heap.size w w11) := B.out.trans (hb.mono B.out.size)
    replace P1 : Hid (World.ownsRow w11 w.heap.size 46 2 (.slice (some ⟨g, 0, none⟩) xs.length c) xs.length (flat xs)) := row_below hb P1.out
    replace P2 : Hid (SP w11 (.slice (some ⟨g2, 0, none⟩) ys.length c2) ys) := P2.out.below hb
    clear hb 
    go_wp2_with fail
    refine (FormatBindings_spec _ ys w11 HTY.out P2.out).mono ?_
    rintro e w12 ⟨rfl, hb⟩
    replace B : Hid (Below w.heap.size w w12) := B.out.trans (hb.mono B.out.size)
    replace P1 : Hid (World.ownsRow w12 w.heap.size 46 2 (.slice (some ⟨g, 0, none⟩) xs.length c) xs.length (flat xs)) := row_below hb P1.out
    replace P2 : Hid (SP w12 (.slice (some ⟨g2, 0, none⟩) ys.length c2) ys) := P2.out.below hb
    clear hb 
    go_wp2
    go_ret
    exact ⟨rfl, B.out⟩
  | some u =>
    go_wp2_with fail
    refine (BindingsValid_impl _ ys w4 HTY.out P2.out).mono ?_
    rintro e w5 ⟨rfl, hb⟩
    replace B : Hid (Below w.heap.size w w5) := B.out.trans (hb.mono B.out.size)
    replace P1 : Hid (World.ownsRow w5 w.heap.size 46 2 (.slice (some ⟨g, 0, none⟩) xs.length c) xs.length (flat xs)) := row_below hb P1.out
    replace P2 : Hid (SP w5 (.slice (some ⟨g2, 0, none⟩) ys.length c2) ys) := P2.out.below hb
    clear hb 
    go_wp2_with fail
    refine (BindingsValid_spec _ ys w5 HTY.out P2.out).mono ?_
    rintro e w6 ⟨rfl, hb⟩
    replace B : Hid (Below w.heap.size w w6) := B.out.trans (hb.mono B.out.size)
    replace P1 : Hid (World.ownsRow w6 w.heap.size 46 2 (.slice (some ⟨g, 0, none⟩) xs.length c) xs.length (flat xs)) := row_below hb P1.out
    replace P2 : Hid (SP w6 (.slice (some ⟨g2, 0, none⟩) ys.length c2) ys) := P2.out.below hb
    clear hb 
    go_wp2_with fail
    refine (FormatBindings_impl _ ys w6 HTY.out P2.out).mono ?_
    rintro e w7 ⟨rfl, hb⟩
    replace B : Hid (Below w.heap.size w w7) := B.out.trans (hb.mono B.out.size)
    replace P1 : Hid (World.ownsRow w7 w.heap.size 46 2 (.slice (some ⟨g, 0, none⟩) xs.length c) xs.length (flat xs)) := row_below hb P1.out
    replace P2 : Hid (SP w7 (.slice (some ⟨g2, 0, none⟩) ys.length c2) ys) := P2.out.below hb
    clear hb 
    go_wp2_with fail
    refine (FormatBindings_spec _ ys w7 HTY.out P2.out).mono ?_
    rintro e w8 ⟨rfl, hb⟩
    replace B : Hid (Below w.heap.size w w8) := B.out.trans (hb.mono B.out.size)
    replace P1 : Hid (World.ownsRow w8 w.heap.size 46 2 (.slice (some ⟨g, 0, none⟩) xs.length c) xs.length (flat xs)) := row_below hb P1.out
    replace P2 : Hid (SP w8 (.slice (some ⟨g2, 0, none⟩) ys.length c2) ys) := P2.out.below hb
    clear hb 
    clear P2
    obtain ⟨-, ⟨t, ht⟩, hu, hu60⟩ := ApPl.of_some HO.out.symm
    have HU := hid hu
    have HT := hid ht
    have hp1 : partsL l = t.parts := by unfold partsL; rw [ht]
    obtain ⟨ps, hps⟩ : ∃ ps, ps = texts t.parts := ⟨_, rfl⟩
    have HPS := hid hps
    have HPL : Hid (texts (partsL l) = ps) := by show _ = _; rw [hp1, hps]
    have hpl : ps.length = t.parts.length := by rw [hps]; simp [texts]
    have hp2 := parts_len t
    clear hu ht hp1 hps
    go_wp2_with fail
    have HOW : Hid ((w8.alloc (.cells #[] 9)).ownsRow w8.heap.size 9 1 (.slice (some ⟨w8.heap.size, 0, none⟩) 0 0) 0 []) := by
      have h := World.ownsRow_made (base := w8.heap.size) (e := 9) (size := 1) w8 #[] 0 (Nat.le_refl _) (by simp [maxLen]) rfl
      show World.ownsRow _ _ _ _ _ _ _
      simpa using h
    have hzB : w.heap.size ≤ w8.heap.size := B.out.size
    have hb : Below w8.heap.size w8 (w8.alloc (.cells #[] 9)) := (Below.refl _ _).alloc (Nat.le_refl _) _
    replace B : Hid (Below w.heap.size w (w8.alloc (.cells #[] 9))) := B.out.trans (hb.mono B.out.size)
    replace P1 : Hid (World.ownsRow (w8.alloc (.cells #[] 9)) w.heap.size 46 2 (.slice (some ⟨g, 0, none⟩) xs.length c) xs.length (flat xs)) := row_below hb P1.out
    have hzw9 : (w8.alloc (.cells #[] 9)).heap.size = w8.heap.size + 1 := by simp
    clear hb
    generalize w8.alloc (.cells #[] 9) = w9 at *
    obtain ⟨gb, hgb⟩ : ∃ gb, gb = w8.heap.size := ⟨_, rfl⟩
    have HWGB : Hid (w.heap.size ≤ gb) := by show _ ≤ _; rw [hgb]; exact hzB
    rw [← hgb] at HOW hzw9
    rw [← hgb]
    clear hgb hzB
    refine (show Calls Try.prog _ _ w9 (LPost w9 ps) from by rw [← HPL.out]; exact PartsOf_impl2 l w9 hl).mono ?_
    rintro e w10 ⟨gR, cR, rfl, hrow, hb⟩
    replace B : Hid (Below w.heap.size w w10) := B.out.trans (hb.mono B.out.size)
    replace P1 : Hid (World.ownsRow w10 w.heap.size 46 2 (.slice (some ⟨g, 0, none⟩) xs.length c) xs.length (flat xs)) := row_below hb P1.out
    replace HOW : Hid (World.ownsRow w10 gb 9 1 (.slice (some ⟨gb, 0, none⟩) 0 0) 0 []) := row_below hb HOW.out
    have R1 : Hid (World.ownsRow w10 w9.heap.size 9 1 (.slice (some ⟨gR, 0, none⟩) ps.length cR) ps.length (ListS.strs ps)) := hrow
    have hgs : gb ≤ w10.heap.size := by have := hb.size; omega
    clear hb hrow
    have hgne : gb ≠ gR := by have := (row_own R1.out gR rfl).1; omega
    obtain ⟨qs, hqs⟩ : ∃ qs, qs = texts (t.parts.map (sub (bmap xs))) := ⟨_, rfl⟩
    have HQS := hid hqs
    have HQL : Hid (qs.length = ps.length) := by show _ = _; rw [hqs, hpl]; simp [texts]
    obtain ⟨n, hn⟩ : ∃ n, n = ps.length := ⟨_, rfl⟩
    rw [← hn] at R1 hpl HQL
    rw [← hn]
    have HN := hid hn
    clear hqs hn
    have HB0 := B
    have hpl2 : n ≤ 2 := by omega
    have hwgb : w.heap.size ≤ gb := HWGB.out
    have HPLN := hid hpl
    clear hpl hp2
    go_wp2_with fail
    go_loopg [12, 100] n (fun q ov i wr => ∃ (k g1 cw : Nat), k ≤ n ∧ n - k ≤ q ∧ i = .int .i64 k ∧ ov = .slice (some ⟨g1, 0, none⟩) k cw ∧ g1 ≠ gR ∧ Hid (wr.ownsRow gb 9 1 (.slice (some ⟨g1, 0, none⟩) k cw) k (ListS.strs (qs.take k))) ∧ Hid (World.ownsRow wr w9.heap.size 9 1 (.slice (some ⟨gR, 0, none⟩) n cR) n (ListS.strs ps)) ∧ Hid (World.ownsRow wr w.heap.size 46 2 (.slice (some ⟨g, 0, none⟩) xs.length c) xs.length (flat xs)) ∧ Below w.heap.size w wr)
    case atStart => exact ⟨0, gb, 0, Nat.zero_le _, by simp, rfl, rfl, hgne, HOW.out, R1.out, P1.out, B.out⟩
    case round =>
      clear HOW R1 P1 B
      obtain ⟨k, g1, cw, hk, hq, rfl, rfl, hne, hrow, hr1, hp1, hb⟩ := hrel
      have HO1 := hid hrow.out
      have R1 := hid hr1.out
      have P1 := hid hp1.out
      have HB := hid hb
      have hbz := hb.size
      have hgr1 : gR < wr.heap.size := (row_own R1.out gR rfl).2
      have hgbw := row_own HO1.out g1 rfl
      obtain ⟨hgb1, hgb2⟩ := hgbw
      clear hrow hb hr1 hp1
      by_cases hlt : k < n
      · obtain ⟨p, hp⟩ : ∃ p, t.parts[k]? = some p := ⟨_, List.getElem?_eq_getElem (by have := HPLN.out; omega)⟩
        have hpm := List.mem_of_getElem? hp
        obtain ⟨-, hul, hut⟩ := MkPl.part_ok HT.out hpm
        have HAP := hid (ApPl.part_apply HO.out.symm HT.out hpm)
        have hsm := ApPl.sub_small HO.out.symm HT.out hpm
        have hsx : (ListS.strs ps)[k]? = some (.string ⟨p.text.toArray⟩) := by rw [HPS.out]; simp [ListS.strs, texts, hp]
        have HTK : Hid (ListS.strs (qs.take (k + 1)) = ListS.strs (qs.take k) ++ [.string ⟨(sub (bmap xs) p).text.toArray⟩]) := by
          show _ = _
          have : qs[k]? = some ⟨(sub (bmap xs) p).text.toArray⟩ := by rw [HQS.out]; simp [texts, hp]
          rw [List.take_add_one, this]
          simp [ListS.strs]
        obtain ⟨gq, cc1, e1, -, hg1, cs1, hc1, hd2⟩ := row_at R1.out (by omega)
        cases e1
        have k1 : wr.cell? ⟨gR, k, none⟩ = some (.string ⟨p.text.toArray⟩) := (heap_cell hc1 k).trans (hd2 k _ hsx)
        obtain ⟨d, hd⟩ : ∃ d, d = (sub (bmap xs) p).text := ⟨_, rfl⟩
        rw [← hd] at HAP HTK hsm
        clear hp hpm hut hsx hc1 hd2 hd
        generalize ListS.strs (qs.take k) = xv at *
        go_wp2_with fail
        refine (show Calls Try.prog _ _ wr (APost wr (some d)) from by rw [← HAP.out]; exact ApplyBindings_impl _ xs p.text wr (by omega) HTX.out (Draw.sp_rowB P1.out HSZ.out)).mono ?_
        rintro e w5 ⟨rfl, hb⟩
        have HB5 : Hid (Below w.heap.size w w5) := HB.out.trans (hb.mono hbz)
        have HO5 := hid (row_below hb HO1.out)
        have HR5 := hid (row_below hb R1.out)
        have HP5 := hid (row_below hb P1.out)
        have hz5 := hb.size
        clear hb k1 HAP
        go_wp2_with (first
          | (at_builtin; refine app_push_at 31 9 (.string ⟨#[]⟩) 1 16 Try.underlying31 infoStr rfl (by decide) rfl _ _ rfl gb (.slice (some ⟨g1, 0, none⟩) k cw) k xv rfl (World.ownsRow.alloc HO5.out _) w5.heap.size 1 [.string ⟨d.toArray⟩] rfl rfl (news_one (heap_cell (heap_alloc_new _ _) 0)) (by simp [Value.oneCell']) (by unfold maxLen; omega) (by omega) (by simp; omega) ?_))
        intro g1' cap1 w6 hown hgr hlie
        have hoA : World.ownsRow (w5.alloc (.cells #[.string ⟨d.toArray⟩] 9)) gb 9 1 (.slice (some ⟨g1, 0, none⟩) k cw) k xv := World.ownsRow.alloc HO5.out _
        have HO6 := hid hown
        have HB6 : Hid (Below w.heap.size w w6) := (HB5.out.alloc (by omega) _).grown hgr (by simp; omega) (fun g hg => by have := (row_own hoA g hg).1; omega)
        have HR6 := hid (row_grown hgr (World.ownsRow.alloc HR5.out (.cells #[.string ⟨d.toArray⟩] 9)) (fun g h1 h2 => by simp [Value.ownBlock] at h1 h2; omega))
        have HP6 := hid (Draw.row_grownT hgr (World.ownsRow.alloc HP5.out (.cells #[.string ⟨d.toArray⟩] 9)) hoA (by decide))
        have hne6 : g1' ≠ gR := by
          rcases hlie with h | h
          · have h5 : g1 = g1' := by simpa [Value.ownBlock] using h
            omega
          · first | omega | (simp at h; omega)
        clear hown hgr hlie hoA
        go_wp2_with fail
        go_roundg (n - (k + 1))
        case measure => omega
        case rel => exact ⟨k + 1, g1', cap1, by omega, by omega, by go_num, rfl, hne6, (by show World.ownsRow _ _ _ _ _ _ _; rw [HTK.out]; exact HO6.out), HR6.out, HP6.out, HB6.out⟩
      · have hke : k = n := by omega
        subst hke
        clear hlt hq hk
        have HQ : Hid (wr.ownsRow gb 9 1 (.slice (some ⟨g1, 0, none⟩) k cw) qs.length (ListS.strs qs)) := by
          show World.ownsRow _ _ _ _ _ _ _
          have h := HO1.out
          have e : ListS.strs (qs.take k) = ListS.strs qs := by rw [show k = qs.length from HQL.out.symm, List.take_length]
          rw [e] at h
          rw [HQL.out]
          exact h
        by_cases h0 : 0 < k
        · have hpn : t.parts ≠ [] := by
            intro h
            have h9 := HPLN.out
            rw [h] at h9
            simp at h9
            omega
          have HMK := hid (ApPl.whole HO.out.symm HT.out hpn)
          rw [← HQS.out] at HMK
          have HSL : Hid (StrsLen qs) := MkPl.strsLen3 qs (by rw [HQL.out]; omega) (fun x hx => by
            rw [HQS.out] at hx
            simp only [texts, List.mem_map] at hx
            obtain ⟨v, ⟨p, hp, rfl⟩, rfl⟩ := hx
            exact ApPl.sub_small HO.out.symm HT.out hp)
          have hhl : (headL l).length ≤ 1048576 := Nat.le_trans (headL_len l) (by decide)
          clear hpn
          go_wp2_with fail
          refine (HeadOf_impl l wr hl).mono ?_
          rintro e w7 ⟨rfl, hb⟩
          have HB7 : Hid (Below w.heap.size w w7) := HB.out.trans (hb.mono hbz)
          have HQ7 := hid (row_below hb HQ.out)
          clear hb
          go_wp2_with fail
          refine (show Calls Try.prog _ _ w7 (MkType.MPost w7 (some u)) from by rw [← HMK.out]; exact MakeType_impl (headL l) qs _ gb w7 hhl HSL.out HQ7.out).mono ?_
          rintro e w8 ⟨rfl, hb⟩
          have HB8 : Hid (Below w.heap.size w w8) := HB7.out.trans (hb.mono HB7.out.size)
          clear hb
          go_wp2
          go_ret
          exact ⟨rfl, HB8.out⟩
        · have hk0 : k = 0 := by omega
          subst hk0
          have hp0 : t.parts = [] := List.length_eq_zero_iff.1 HPLN.out.symm
          obtain ⟨cc, hlc⟩ := ApPl.leaf_one HT.out hp0
          have HU1 : Hid (u = chL xs cc) := by show _ = _; rw [HU.out, hlc]; simp
          have HLC := hid hlc
          have HBL : Hid (bvB xs = true) := (ApPl.of_some HO.out.symm).1
          clear hp0 hlc h0
          obtain ⟨wo, hwo⟩ : ∃ x, x = wr := ⟨_, rfl⟩
          subst hwo
          go_wp2_with fail
          go_loopg [135] xs.length (fun q i wr2 => ∃ k2 : Nat, k2 ≤ xs.length ∧ xs.length - k2 ≤ q ∧ i = .int .i64 k2 ∧ Hid ((xs.take k2).find? (fun p => decide (p.1 = ⟨#[cc]⟩)) = none) ∧ Below wo.heap.size wo wr2)
          case atStart => exact ⟨0, Nat.zero_le _, by simp, rfl, rfl, Below.refl _ _⟩
          case round =>
            obtain ⟨k2, hk, hq, rfl, hf, hb2⟩ := hrel
            have HF := hid hf.out
            have HB2 := hid hb2
            have hbz2 := hb2.size
            clear hf hb2
            by_cases hlt : k2 < xs.length
            · obtain ⟨⟨x, y⟩, hp⟩ : ∃ p, xs[k2]? = some p := ⟨_, List.getElem?_eq_getElem hlt⟩
              obtain ⟨f0, f1⟩ := flat_get xs k2 _ hp
              have q0 := row_cell P1.out (k2 * 2) f0
              have q1 := row_cell P1.out (k2 * 2 + 1) f1
              have k0 : wr.cell? ⟨g, k2 * 2, none⟩ = some (.string x) := (HB2.out.cell (Draw.lt_cell q0)).trans q0
              have k1 : wr.cell? ⟨g, k2 * 2 + 1, none⟩ = some (.string y) := (HB2.out.cell (Draw.lt_cell q1)).trans q1
              have HPK := hid hp
              clear f0 f1 q0 q1 hp
              by_cases hx : x = ⟨#[cc]⟩
              · have hch := chL_found HF.out HPK.out hx
                have hb1 : (x.toList == l) = true := by rw [HLC.out, hx, ByteArray.toList_eq]; simp
                have hb3 : (u == y.toList) = true := by rw [HU1.out, hch, ByteArray.toList_eq]; simp
                clear hch hx
                go_wp2
                go_ret
                exact ⟨rfl, HB.out.trans ((HB2.out.alloc hbz2 _).mono hbz)⟩
              · have HF3 : Hid ((xs.take (k2 + 1)).find? (fun p => decide (p.1 = ⟨#[cc]⟩)) = none) := find_none_take HF.out HPK.out hx
                have hb1 : (x.toList == l) = false := by
                  rw [beq_eq_false_iff_ne]
                  intro h
                  apply hx
                  apply ByteArray.ext
                  rw [HLC.out, ByteArray.toList_eq] at h
                  have := congrArg List.toArray h
                  simpa using this
                clear hx
                go_wp2_with fail
                go_roundg (xs.length - (k2 + 1))
                case measure => omega
                case rel => exact ⟨k2 + 1, by omega, by omega, by go_num, HF3.out, HB2.out.alloc hbz2 _⟩
            · have hke : k2 = xs.length := by omega
              have hul : u = l := by
                have h9 := HF.out
                rw [hke] at h9
                rw [HU1.out, chL_own h9, HLC.out]
              have HTV : Hid ((ty u).isSome = true) := by show _ = _; rw [hul, HT.out]; rfl
              have hu2 : u.length + 4 ≤ maxLen := by rw [hul]; exact hl2
              subst hke
              clear hlt hq hk
              subst hul
              go_wp2_with fail
              refine (TypeValid_impl u wr hu2).mono ?_
              rintro e w7 ⟨rfl, hb⟩
              rw [HTV.out]
              have HB7 : Hid (Below w.heap.size w w7) := (HB.out.trans (HB2.out.mono hbz)).trans (hb.mono (Nat.le_trans hbz hbz2))
              clear hb
              go_wp2
              go_ret
              exact ⟨rfl, HB7.out⟩

theorem lifted (os : Os) (started : os.Started) (H : Type) (enc : TypeId × Value → H) :
    ReturnsInHanded {} Try.checked os 5 .any (Rows.fnApplySpec.pre6 enc Try.prog Try.f5 Rows.fnApplyRow.domain false) (Rows.fnApplySpec.post enc Try.prog Try.f5 false true false false) := by
  refine returnsInHanded_of_change (C := Try.checked) own started (by kernel_rfl) Try.func5
    (ChangeSpec.witness6 (enc := enc) (C := Try.checked) false ⟨#[], #[.slice none 0 0, .slice none 0 0], []⟩ 8 (by kernel_rfl) (by kernel_rfl) (by kernel_rfl) (by kernel_rfl)) ?_
  intro W base args ds gs before hval0 hW hcnd _
  have hval : ∀ (j : Nat) t v, Try.f5.params[j]? = some t → args[j]? = some v → Value.okWide Try.prog W .any base t v := hval0
  have hW' := hW
  obtain ⟨p, q, hA0, hV, rfl, hfz, hnd⟩ := hW
  have hA : DataW.TrodAll enc Try.prog W 0 (fun _ => true) true Try.f5.params.toList args.toList ds p := hA0
  rw [Try.params5] at hA hval
  have hL := DataW.TrodAll.lt hA
  obtain ⟨v0, vs0, d0, ds0, p0, q0, hargs, rfl, rfl, h0, r0⟩ := trodAll_cons hA
  obtain ⟨v1, vs1, d1, ds1, p1, q1, rfl, rfl, rfl, h1, r1⟩ := trodAll_cons r0
  obtain ⟨rfl, rfl, rfl⟩ := trodAll_nil r1
  obtain rfl : args = #[v0, v1] := by cases args; simp_all
  obtain ⟨rfl, rfl⟩ := trodVars_none hV
  have k0 := h0
  have l0 : ∀ x ∈ p0, x.block < W.heap.size := fun x hx => hL x (by simp [hx])
  have k1 := h1
  have l1 : ∀ x ∈ p1, x.block < W.heap.size := fun x hx => hL x (by simp [hx])
  obtain ⟨xs0, s0⟩ := Draw.open_sb Try.underlying22 Try.underlying5 (by kernel_rfl) (hval 0 22 v0 rfl rfl) h0
  obtain ⟨xs1, s1⟩ := Draw.open_sb Try.underlying22 Try.underlying5 (by kernel_rfl) (hval 1 22 v1 rfl rfl) h1
  clear hA0 hval0
  simp only [List.append_nil] at hW'
  refine (walk W _ _ s0 _ _ s1).mono fun e W' ⟨he, bel⟩ => ?_
  subst he
  exact ⟨_, rfl, _, _, _, [], _, [], hW', (trodAll_cons_mk (shut_bool Try.underlying4 _) trodAll_mk0), (trodAll_cons_mk (Below.trod laidOut (by kernel_rfl) (of_decide_eq_true (by kernel_rfl)) k0 bel l0) (trodAll_cons_mk (Below.trod laidOut (by kernel_rfl) (of_decide_eq_true (by kernel_rfl)) k1 bel l1) trodAll_mk0)), rfl, bel.frame _, fun h => by cases h⟩
theorem e1 : Rows.fnApplyRow.lifted = Rows.fnVarsOfRow.lifted := rfl
theorem e2 : Rows.fnApplyRow.make = Rows.fnVarsOfRow.make := rfl
theorem e3 : Rows.fnApplyRow.plainKeys = Rows.fnVarsOfRow.plainKeys := rfl
theorem facts : joinedFacts Try.pinned.checked.prog 5 Try.f5 Rows.fnApplySpec Rows.fnApplyRow = true := by
  refine Facts.joined e1 e2 e3 ?_ ?_ ?_ ?_ ?_ ?_ ?_ ?_ ?_ ?_ ?_ ?_ ?_ ?_ ?_ ?_ ?_ ?_ ?_ ?_ ?_ ?_ ?_
  all_goals as_aux_lemma => kernel_rfl
theorem over : Rows.fnApplyRow.holds Try.pinned (OpenSpec.ofChange Rows.fnApplySpec) :=
  OpenClaim.holds_of_wide 5 Try.f5 rfl rfl rfl rfl rfl rfl rfl ⟨rfl, rfl, rfl, rfl, rfl⟩ rfl rfl rfl rfl rfl (by kernel_rfl) Try.func5 facts
    (of_decide_eq_true (by kernel_rfl)) (by unfold Func.isWrapper; first | (rw [if_pos (by decide +kernel)]; kernel_rfl) | (rw [if_neg (by decide +kernel)]; exact ⟨rfl, rfl⟩))
    (fun os started H enc _ => lifted os started H enc)
end Go.Proofs.Ytaapdhacnbhohaa.fnApply
namespace Go.Proofs.Ytaapdhacnbhohaa
theorem fnApply_holds : Rows.FnApplySaid := fnApply.over
end Go.Proofs.Ytaapdhacnbhohaa
