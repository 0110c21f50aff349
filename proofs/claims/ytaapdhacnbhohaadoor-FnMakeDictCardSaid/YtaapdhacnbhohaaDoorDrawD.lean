/- The draws of dictionaries. Conditions: those typed. -/
import Derived.Test.YtaapdhacnbhohaaDoorDrawN
import Derived.Test.YtaapdhacnbhohaaDoorDText
import Derived.Test.YtaapdhacnbhohaaDoorInsts
set_option linter.unusedVariables false
set_option linter.unusedSimpArgs false
set_option maxRecDepth 100000
namespace Go.Proofs.YtaapdhacnbhohaaDoor
open Go.RowKit ListS Dt
namespace Draw
theorem infoStrD : (Tryd.prog.info? 9).map (fun i => (i.zero, i.size, i.bytes)) = some (some (.string ⟨#[]⟩), 1, 16) := by kernel_rfl
theorem slice_oneD (l : List UInt8) (k : Nat) (c : UInt8) (h : l[k]? = some c) : (ByteArray.mk l.toArray).extract k (k + 1) = ⟨#[c]⟩ := by
  obtain ⟨hlt, rfl⟩ := List.getElem?_eq_some_iff.1 h
  apply ByteArray.ext
  simp [ByteArray.data_extract]
  rw [List.drop_eq_getElem_cons hlt]
  rfl
theorem run_oneD (l : List UInt8) (k : Nat) (c : UInt8) (h : l[k]? = some c) (x : World) : (Instr.slice 9 (.string ⟨l.toArray⟩) (some (.int .i64 (k : Int))) (some (.int .i64 ((k : Int) + 1))) none).run Tryd.prog x = .ok (.string ⟨#[c]⟩) x := by
  have hlt := (List.getElem?_eq_some_iff.1 h).1
  have hsz : (ByteArray.mk l.toArray).size = l.length := by simp [ByteArray.size]
  rw [run_slice_string x 9 ⟨l.toArray⟩ .i64 .i64 (k : Int) ((k : Int) + 1) Tryd.underlying9 (by omega) (by omega) (by rw [hsz]; omega)]
  rw [show ((k : Int)).toNat = k by omega, show ((k : Int) + 1).toNat = k + 1 by omega, slice_oneD l k c h]
theorem l13Dec_nat (k : Nat) (h : k < 10) (w : World) : Calls Tryd.prog 101 #[.int .i64 (k : Int)] w fun e w' => ∃ s : ByteArray, e = .returned (.string s) ∧ s.size = 1 ∧ Below w.heap.size w w' := by
  have e1 := Insts.chr_nat k h
  have hd : dig (Insts.chr k) := by
    unfold dig
    rw [UInt8.le_iff_toNat_le, UInt8.le_iff_toNat_le, e1]
    simp
    omega
  have hv : dv (Insts.chr k) = (k : Int) := by unfold dv; rw [e1]; omega
  have h1 := DText.l13Dec_dig (Insts.chr k) hd w
  rw [hv] at h1
  exact h1.mono fun e w' ⟨h2, h3⟩ => ⟨_, h2, rfl, h3⟩
set_option maxHeartbeats 8000000 in
theorem l6Draw_any (a : Nat) : ∀ (d : Nat), d ≤ 3 → ∀ (q : Nat) (w : World), q + 100 * d ≤ 90000 → RD w a q → Calls Tryd.prog 98 #[.pointer (some ⟨a, 0, none⟩), .int .i64 d] w (SPost w a (q + 3 * LB d) 1 (LB d))
  | 0, _, q, w, hq, h => by
    have HR := hid h
    clear h
    go_enter Tryd.func98, Tryd.ntmps98
    go_wp2_with fail
    refine (pick_any a q 6 w (by decide) (by decide) (by omega) HR.out).mono ?_
    rintro e w1 ⟨i, hi, rfl, hr, hgr⟩
    have HR1 := hid hr
    have HG1 := hid hgr
    clear hr hgr
    go_wp2_with fail
    refine (l13Dec_nat i (by omega) w1).mono ?_
    rintro e w2 ⟨s, rfl, hs, hb⟩
    have HR2 := hid (HR1.out.below hb)
    have HG2 := hid (grown_trans HG1.out (gb0 hb _))
    clear hb
    go_wp2
    go_ret
    exact ⟨s, rfl, by omega, by show s.size ≤ 1; omega, HR2.out.mono (by show q + 1 ≤ q + 3 * 1; omega), HG2.out⟩
  | d + 1, hd, q, w, hq, h => by
    have HR := hid h
    have IH := hid (l6Draw_any a d (by omega))
    have hb : LB d ≤ 16 := by
      rcases (by omega : d = 0 ∨ d = 1 ∨ d = 2) with rfl | rfl | rfl <;> decide
    have hb1 : 1 ≤ LB d := by
      rcases (by omega : d = 0 ∨ d = 1 ∨ d = 2) with rfl | rfl | rfl <;> decide
    have hLB : LB (d + 1) = 2 * LB d + 4 := rfl
    obtain ⟨L, hL⟩ : ∃ L, L = 3 * LB d := ⟨_, rfl⟩
    obtain ⟨L1, hL1⟩ : ∃ L1, L1 = LB d := ⟨_, rfl⟩
    obtain ⟨M, hM⟩ : ∃ M, M = LB (d + 1) := ⟨_, rfl⟩
    have HLB : Hid (M = 2 * L1 + 4 ∧ L = 3 * L1) := by show _ ∧ _; omega
    rw [← hL, ← hL1] at IH
    rw [← hL1] at hb hb1
    rw [← hM]
    obtain ⟨D, hD⟩ : ∃ D, D = d + 1 := ⟨_, rfl⟩
    rw [← hD]
    have hD0 : ((D : Int) == 0) = false := by rw [beq_eq_false_iff_ne]; omega
    have hDs : (D : Int) - 1 = (d : Int) := by omega
    have hD3 : D ≤ 3 ∧ 1 ≤ D := by omega
    obtain ⟨hD4, hD5⟩ := hD3
    have hL48 : L ≤ 48 := by omega
    have HDs := hid hDs
    clear h hL hL1 hM hD hDs hLB
    go_enter Tryd.func98, Tryd.ntmps98
    go_wp2_with fail
    refine (pick_any a q 6 w (by decide) (by decide) (by omega) HR.out).mono ?_
    rintro e w1 ⟨i, hi, rfl, hr, hgr⟩
    have HR1 := hid hr
    have HG1 := hid hgr
    clear hr hgr
    go_wp2_with fail
    refine (l13Dec_nat i (by omega) w1).mono ?_
    rintro e w2 ⟨s0, rfl, hs0, hb⟩
    have HR2 := hid (HR1.out.below hb)
    have HG2 := hid (grown_trans HG1.out (gb0 hb _))
    clear hb
    go_wp2_with fail
    refine (pick_any a (q + 1) 3 w2 (by decide) (by decide) (by omega) HR2.out).mono ?_
    rintro e w3 ⟨j, hj, rfl, hr, hgr⟩
    have HR3 := hid hr
    have HG3 := hid (grown_trans HG2.out hgr)
    clear hr hgr
    by_cases hj0 : j = 0
    · subst hj0
      go_wp2
      go_ret
      exact ⟨s0, rfl, by omega, by have := HLB.out; omega, HR3.out.mono (by have := HLB.out; omega), HG3.out⟩
    · have hj1 : ((j : Int) == 0) = false := by rw [beq_eq_false_iff_ne]; omega
      go_wp2_with fail
      refine (pick_any a (q + 1 + 1) 2 w3 (by decide) (by decide) (by omega) HR3.out).mono ?_
      rintro e w4 ⟨m, hm, rfl, hr, hgr⟩
      have HR4 := hid hr
      have HG4 := hid (grown_trans HG3.out hgr)
      clear hr hgr
      obtain ⟨n, hn⟩ : ∃ n : Nat, n = 1 + m := ⟨_, rfl⟩
      have hn2 : n ≤ 2 := by omega
      have hn1 : (1 : Int) + (m : Int) = (n : Int) := by omega
      have HN1 := hid hn1
      clear hn hn1
      go_wp2_with fail
      rw [HN1.out]
      go_loopg [5, 21] n (fun u ov i wr => ∃ (k : Nat) (o : ByteArray), k ≤ n ∧ n - k ≤ u ∧ i = .int .i64 k ∧ ov = .string o ∧ Hid (1 ≤ o.size) ∧ Hid (o.size ≤ 1 + k * (L1 + 1)) ∧ Hid (RD wr a (q + 3 + k * (L + 1))) ∧ Hid (w.grownBy wr (some a)))
      case atStart => exact ⟨0, s0, Nat.zero_le _, by simp, rfl, rfl, (by show 1 ≤ s0.size; omega), (by show s0.size ≤ _; omega), HR4.out.mono (by omega), HG4.out⟩
      case round =>
        clear HR4 HG4
        obtain ⟨k, o, hk, hu, rfl, rfl, ho1, ho2, hrd, hg⟩ := hrel
        have HRR := hid hrd.out
        have HG := hid hg.out
        have hos := ho2.out
        have hos1 := ho1.out
        clear ho1 ho2 hrd hg
        by_cases hlt : k < n
        · have hk01 : k = 0 ∨ k = 1 := by omega
          have hos2 : o.size ≤ 60 := by rcases hk01 with rfl | rfl <;> omega
          go_wp2_with fail
          have hwr : Below wr.heap.size wr wr.drew := (Below.refl _ _).drew
          have HR6 := hid (HRR.out.below hwr)
          have HG6 := hid (grown_trans HG.out (gb0 hwr _))
          clear hwr
          obtain ⟨cc, hcc⟩ : ∃ cc, ([40, 44] : List UInt8)[k]? = some cc := ⟨_, List.getElem?_eq_getElem (by simp; omega)⟩
          have hsl : ∀ x : World, (Instr.slice 9 (.string ⟨#[40, 44]⟩) (some (.int .i64 (k : Int))) (some (.int .i64 ((k : Int) + 1))) none).run Tryd.prog x = .ok (.string ⟨#[cc]⟩) x := fun x => run_oneD [40, 44] k cc hcc x
          clear hcc
          refine wp_region_any (by kernel_rfl) ?_
          change wpAny _ _ _ _ _ _ _ (World.drew _)
          have SX : True := trivial
          refine wpAny_of_T (S := fun X => True) (m := 12) _ _ _ _ ?_
          generalize wr.drew = w6 at *
          refine wpAnyT_take (i := 0) (v := .string o) rfl (by kernel_rfl) (by kernel_rfl) (by kernel_rfl) (by kernel_rfl) (fun _ _ _ h => h) (Or.inl ⟨by kernel_rfl, fun X hS => by clear hS; go_simp⟩) trivial ?_
          try go_simp
          refine wpAnyT_take (i := 1) (v := .int .i64 k) rfl (by kernel_rfl) (by kernel_rfl) (by kernel_rfl) (by kernel_rfl) (fun _ _ _ h => h) (Or.inl ⟨by kernel_rfl, fun X hS => by clear hS; go_simp⟩) trivial ?_
          try go_simp
          refine wpAnyT_take (i := 2) (v := .int .i64 k) rfl (by kernel_rfl) (by kernel_rfl) (by kernel_rfl) (by kernel_rfl) (fun _ _ _ h => h) (Or.inl ⟨by kernel_rfl, fun X hS => by clear hS; go_simp⟩) trivial ?_
          try go_simp
          refine wpAnyT_take (i := 3) (v := .int .i64 ((k : Int) + 1)) rfl (by kernel_rfl) (by kernel_rfl) (by kernel_rfl) (by kernel_rfl) (fun _ _ _ h => h) (Or.inl ⟨by kernel_rfl, fun X hS => by clear hS; go_simp; rw [IntKind.wrap_i64]; omega⟩) trivial ?_
          try go_simp
          refine wpAnyT_take (i := 4) (v := .string (ByteArray.mk #[cc])) rfl (by kernel_rfl) (by kernel_rfl) (by kernel_rfl) (by kernel_rfl) (fun _ _ _ h => h) (Or.inl ⟨by kernel_rfl, fun X hS => by clear hS; go_simp⟩) trivial ?_
          try go_simp
          clear hsl
          have hes : ((ByteArray.mk #[cc])).size = 1 := rfl
          generalize (ByteArray.mk #[cc]) = vb at *
          refine wpAnyT_take (i := 5) (v := .string (o ++ vb)) rfl (by kernel_rfl) (by kernel_rfl) (by kernel_rfl) (by kernel_rfl) (fun _ _ _ h => h) (Or.inl ⟨by kernel_rfl, fun X hS => by clear hS; go_simp; omega⟩) trivial ?_
          try go_simp
          refine wpAnyT_take (i := 6) (v := .pointer (some ⟨a, 0, none⟩)) rfl (by kernel_rfl) (by kernel_rfl) (by kernel_rfl) (by kernel_rfl) (fun _ _ _ h => h) (Or.inl ⟨by kernel_rfl, fun X hS => by clear hS; go_simp⟩) trivial ?_
          try go_simp
          refine wpAnyT_take (i := 7) (v := .int .i64 D) rfl (by kernel_rfl) (by kernel_rfl) (by kernel_rfl) (by kernel_rfl) (fun _ _ _ h => h) (Or.inl ⟨by kernel_rfl, fun X hS => by clear hS; go_simp⟩) trivial ?_
          try go_simp
          refine wpAnyT_take (i := 8) (v := .int .i64 ((D : Int) - 1)) rfl (by kernel_rfl) (by kernel_rfl) (by kernel_rfl) (by kernel_rfl) (fun _ _ _ h => h) (Or.inl ⟨by kernel_rfl, fun X hS => by clear hS; go_simp; first | done | (rw [IntKind.wrap_i64]; omega)⟩) trivial ?_
          try go_simp
          refine wpAnyT_one 9 rfl (by kernel_rfl) (fun K hK => ?_)
          go_simp
          refine (show Calls Tryd.prog _ #[_, .int .i64 ((D : Int) - 1)] w6 _ from by rw [HDs.out]; exact IH.out (q + 3 + k * (L + 1)) w6 (by rcases hk01 with rfl | rfl <;> omega) HR6.out).mono ?_
          rintro e w7 ⟨s, rfl, hs1, hs2, hr, hgr⟩
          have HR7 := hid hr
          have HG7 := hid (grown_trans HG6.out hgr)
          clear hr hgr
          refine hK _ _ (fun _ => trivial) ?_
          clear hK K
          refine wpAnyT_take (i := 10) (v := .string (o ++ vb ++ s)) rfl (by kernel_rfl) (by kernel_rfl) (by kernel_rfl) (by kernel_rfl) (fun _ _ _ h => h) (Or.inl ⟨by kernel_rfl, fun X hS => by clear hS; go_simp; omega⟩) trivial ?_
          try go_simp
          refine wpAnyT_take (i := 11) (v := .string (o ++ vb ++ s)) rfl (by kernel_rfl) (by kernel_rfl) (by kernel_rfl) (by kernel_rfl) (fun _ _ _ h => h) (Or.inl ⟨by kernel_rfl, fun X hS => by clear hS; go_simp⟩) trivial ?_
          try go_simp
          refine wpAnyT_drop _ 12 _ _ _ (by decide) (by kernel_rfl) ?_
          change wpList _ _ _ [] _ _
          go_wp2_with fail
          go_roundg (n - (k + 1))
          case measure => omega
          case rel =>
            refine ⟨k + 1, o ++ vb ++ s, by omega, by omega, by go_num, rfl, ?_, ?_, HR7.out.mono ?_, HG7.out⟩
            · show _ ≤ (o ++ vb ++ s).size
              simp [ByteArray.size_append]
              omega
            · show (o ++ vb ++ s).size ≤ _
              simp [ByteArray.size_append]
              rcases hk01 with rfl | rfl <;> omega
            · rcases hk01 with rfl | rfl <;> omega
        · have hke : k = n := by omega
          subst hke
          have hos2 : o.size ≤ 1 + 2 * (L1 + 1) := by
            rcases (by omega : k = 0 ∨ k = 1 ∨ k = 2) with rfl | rfl | rfl <;> omega
          have hqk : k * (L + 1) ≤ 2 * (L + 1) := Nat.mul_le_mul_right _ hn2
          go_wp2
          go_ret
          refine ⟨_, rfl, ?_, ?_, HRR.out.mono (by have := HLB.out; omega), HG.out⟩
          · simp [ByteArray.size_append, bsz]
          · simp [ByteArray.size_append, bsz]
            have := HLB.out
            omega
set_option maxHeartbeats 8000000 in
theorem l6Any_any (a q : Nat) (w : World) (hq : q ≤ 80000) (h : RD w a q) : Calls Tryd.prog 60 #[.pointer (some ⟨a, 0, none⟩)] w (SPost w a (q + 200) 0 40) := by
  have HR := hid h
  clear h
  go_enter Tryd.func60, Tryd.ntmps60
  go_wp2_with fail
  refine (pick_any a q 4 w (by decide) (by decide) (by omega) HR.out).mono ?_
  rintro e w1 ⟨i, hi, rfl, hr, hgr⟩
  have HR1 := hid hr
  have HG1 := hid hgr
  clear hr hgr
  go_wp2_with fail
  refine (l6Draw_any a i (by omega) (q + 1) w1 (by omega) HR1.out).mono ?_
  rintro e w3 ⟨s, rfl, h1, h2, hr, hgr⟩
  have hb : LB i ≤ 36 := by
    rcases (by omega : i = 0 ∨ i = 1 ∨ i = 2 ∨ i = 3) with rfl | rfl | rfl | rfl <;> decide
  have HR3 : Hid (RD w3 a (q + 150)) := hr.mono (by omega)
  have HG3 := hid (grown_trans HG1.out hgr)
  clear hr hgr
  have hs36 : s.size ≤ 36 := by omega
  clear h2 hb
  go_wp2_with fail
  refine (pick_any a (q + 150) 12 w3 (by decide) (by decide) (by omega) HR3.out).mono ?_
  rintro e w4 ⟨k, hk, rfl, hr, hgr⟩
  have HR4 := hid hr
  have HG4 := hid (grown_trans HG3.out hgr)
  clear hr hgr
  by_cases hk0 : 0 < k
  · have hk1 : (k : Int) > 0 := by omega
    go_wp2
    go_ret
    exact ⟨s, rfl, by omega, by omega, HR4.out.mono (by omega), HG4.out⟩
  · have hk1 : ¬ (k : Int) > 0 := by omega
    go_wp2_with fail
    refine (pick_any a (q + 150 + 1) s.size w4 h1 (by omega) (by omega) HR4.out).mono ?_
    rintro e w5 ⟨m, hm, rfl, hr, hgr⟩
    have HR5 : Hid (RD w5 a (q + 160)) := hr.mono (by omega)
    have HG5 := hid (grown_trans HG4.out hgr)
    clear hr hgr
    go_wp2_with fail
    have hw5 : Below w5.heap.size w5 w5.drew := (Below.refl _ _).drew
    have HR6 := hid (HR5.out.below hw5)
    have HG6 := hid (grown_trans HG5.out (gb0 hw5 _))
    clear hw5
    have hms : (m : Int) ≤ s.size := by omega
    refine wp_region_any (by kernel_rfl) ?_
    change wpAny _ _ _ _ _ _ _ (World.drew _)
    have SX : True := trivial
    refine wpAny_of_T (S := fun X => True) (m := 15) _ _ _ _ ?_
    generalize w5.drew = w6 at *
    refine wpAnyT_take (i := 0) (v := .string s) rfl (by kernel_rfl) (by kernel_rfl) (by kernel_rfl) (by kernel_rfl) (fun _ _ _ h => h) (Or.inl ⟨by kernel_rfl, fun X hS => by clear hS; go_simp⟩) trivial ?_
    try go_simp
    refine wpAnyT_take (i := 1) (v := .int .i64 m) rfl (by kernel_rfl) (by kernel_rfl) (by kernel_rfl) (by kernel_rfl) (fun _ _ _ h => h) (Or.inl ⟨by kernel_rfl, fun X hS => by clear hS; go_simp⟩) trivial ?_
    try go_simp
    refine wpAnyT_take (i := 2) (v := .string (s.extract 0 m)) rfl (by kernel_rfl) (by kernel_rfl) (by kernel_rfl) (by kernel_rfl) (fun _ _ _ h => h) (Or.inl ⟨by kernel_rfl, fun X hS => by clear hS; go_simp⟩) trivial ?_
    try go_simp
    refine wpAnyT_take (i := 3) (v := .pointer (some ⟨a, 0, none⟩)) rfl (by kernel_rfl) (by kernel_rfl) (by kernel_rfl) (by kernel_rfl) (fun _ _ _ h => h) (Or.inl ⟨by kernel_rfl, fun X hS => by clear hS; go_simp⟩) trivial ?_
    try go_simp
    refine wpAnyT_take (i := 7) (v := .string s) rfl (by kernel_rfl) (by kernel_rfl) (by kernel_rfl) (by kernel_rfl) (fun _ _ _ h => h) (Or.inl ⟨by kernel_rfl, fun X hS => by clear hS; go_simp⟩) trivial ?_
    try go_simp
    refine wpAnyT_take (i := 8) (v := .int .i64 m) rfl (by kernel_rfl) (by kernel_rfl) (by kernel_rfl) (by kernel_rfl) (fun _ _ _ h => h) (Or.inl ⟨by kernel_rfl, fun X hS => by clear hS; go_simp⟩) trivial ?_
    try go_simp
    refine wpAnyT_take (i := 9) (v := .pointer (some ⟨a, 0, none⟩)) rfl (by kernel_rfl) (by kernel_rfl) (by kernel_rfl) (by kernel_rfl) (fun _ _ _ h => h) (Or.inl ⟨by kernel_rfl, fun X hS => by clear hS; go_simp⟩) trivial ?_
    try go_simp
    refine wpAnyT_one 4 rfl (by kernel_rfl) (fun K hK => ?_)
    go_simp
    refine hK _ _ (fun _ => trivial) ?_
    clear hK K
    refine wpAnyT_one 5 rfl (by kernel_rfl) (fun K hK => ?_)
    go_simp
    refine (ofS_any a (q + 160) w6.heap.size 6 0 1 _ _ (by omega) (by decide) (by decide) rfl (heap_alloc_new w6 _) (by decide) ((HR6.out.below ((Below.refl _ _).alloc (Nat.le_refl _) _)).mono (by omega))).mono ?_
    rintro e w7 ⟨u, rfl, hu1, hu2, hr, hgr⟩
    have HR7 := hid hr
    have HG7 := hid (grown_trans HG6.out (grown_trans (gb0 ((Below.refl _ _).alloc (Nat.le_refl _) _) _) hgr))
    clear hr hgr
    refine hK _ _ (fun _ => trivial) ?_
    clear hK K
    refine wpAnyT_take (i := 6) (v := .string (s.extract 0 m ++ u)) rfl (by kernel_rfl) (by kernel_rfl) (by kernel_rfl) (by kernel_rfl) (fun _ _ _ h => h) (Or.inl ⟨by kernel_rfl, fun X hS => by clear hS; go_simp; omega⟩) trivial ?_
    try go_simp
    refine wpAnyT_one 10 rfl (by kernel_rfl) (fun K hK => ?_)
    go_simp
    refine (pick_any a (q + 160 + 1) 2 w7 (by decide) (by decide) (by omega) HR7.out).mono ?_
    rintro e w8 ⟨o, ho, rfl, hr, hgr⟩
    have HR8 := hid hr
    have HG8 := hid (grown_trans HG7.out hgr)
    clear hr hgr
    have hmo : (m : Int) + o ≤ s.size := by omega
    refine hK _ _ (fun _ => trivial) ?_
    clear hK K
    have hmo2 : m + o ≤ s.size := by omega
    have hmo3 : 0 ≤ (m : Int) + (o : Int) := by omega
    refine wpAnyT_take (i := 11) (v := .int .i64 ((m : Int) + (o : Int))) rfl (by kernel_rfl) (by kernel_rfl) (by kernel_rfl) (by kernel_rfl) (fun _ _ _ h => h) (Or.inl ⟨by kernel_rfl, fun X hS => by clear hS; go_simp; rw [IntKind.wrap_i64]; omega⟩) trivial ?_
    try go_simp
    refine wpAnyT_take (i := 12) (v := .string (s.extract ((m : Int) + (o : Int)).toNat s.size)) rfl (by kernel_rfl) (by kernel_rfl) (by kernel_rfl) (by kernel_rfl) (fun _ _ _ h => h) (Or.inl ⟨by kernel_rfl, fun X hS => by clear hS; go_simp⟩) trivial ?_
    try go_simp
    refine wpAnyT_take (i := 13) (v := .string (s.extract 0 m ++ u ++ s.extract ((m : Int) + (o : Int)).toNat s.size)) rfl (by kernel_rfl) (by kernel_rfl) (by kernel_rfl) (by kernel_rfl) (fun _ _ _ h => h) (Or.inl ⟨by kernel_rfl, fun X hS => by clear hS; go_simp; omega⟩) trivial ?_
    try go_simp
    refine wpAnyT_take (i := 14) (v := .string (s.extract 0 m ++ u ++ s.extract ((m : Int) + (o : Int)).toNat s.size)) rfl (by kernel_rfl) (by kernel_rfl) (by kernel_rfl) (by kernel_rfl) (fun _ _ _ h => h) (Or.inl ⟨by kernel_rfl, fun X hS => by clear hS; go_simp⟩) trivial ?_
    try go_simp
    refine wpAnyT_drop _ 15 _ _ _ (by decide) (by kernel_rfl) ?_
    change wpList _ _ _ [] _ _
    go_wp2
    go_ret
    exact ⟨_, rfl, by omega, by simp [ByteArray.size_append, ByteArray.size_extract]; omega, HR8.out.mono (by omega), HG8.out⟩
def TPost (w : World) (lo hi : Nat) (e : Ending) (w' : World) : Prop := ∃ s : ByteArray, e = .returned (.string s) ∧ lo ≤ s.size ∧ s.size ≤ hi ∧ Below w.heap.size w w'
theorem DrawPartsOfDict_any (v : Value) (xs : List Int) (w : World) (h : SB w v xs) : Calls Tryd.prog 15 #[v] w (TPost w 0 40) := by
  go_enter Tryd.func15, Tryd.ntmps15
  go_wp2_with fail
  refine (open_any v xs w h).mono ?_
  rintro e w1 ⟨a, rfl, ha, hr, hb⟩
  have HR1 := hid hr
  have HB1 := hid hb
  clear hr hb
  go_wp2_with fail
  refine (l6Any_any a 0 w1 (by decide) HR1.out).mono ?_
  rintro e w2 ⟨s, rfl, h1, h2, hr, hgr⟩
  have HB2 : Hid (Below w.heap.size w w2) := HB1.out.grown hgr HB1.out.size (fun g hg => by cases hg; exact ha)
  clear hr hgr
  go_wp2
  go_ret
  exact ⟨s, rfl, h1, h2, HB2.out⟩
set_option maxHeartbeats 4000000 in
theorem DrawMakeDict_any (v : Value) (xs0 : List Int) (w : World) (h : SB w v xs0) : Calls Tryd.prog 26 #[v] w fun e w' => ∃ (x : Int) (xs : List ByteArray) (g c : Nat), e = .returned (.tuple #[.int .i64 x, .slice (some ⟨g, 0, none⟩) xs.length c]) ∧ -1 ≤ x ∧ x ≤ 10 ∧ xs.length ≤ 4 ∧ (∀ x ∈ xs, x.size ≤ 40) ∧ w'.ownsRow w.heap.size 9 1 (.slice (some ⟨g, 0, none⟩) xs.length c) xs.length (strs xs) ∧ Below w.heap.size w w' := by
  go_enter Tryd.func26, Tryd.ntmps26
  go_wp2_with fail
  refine (open_any v xs0 w h).mono ?_
  rintro e w1 ⟨a, rfl, ha, hr, hb⟩
  have HR1 := hid hr
  have HB1 := hid hb
  clear hr hb
  have hal := HR1.out.lt
  have hws := HB1.out.size
  have HO2 : Hid ((w1.alloc (.cells #[] 9)).ownsRow (a + 1) 9 1 (.slice (some ⟨w1.heap.size, 0, none⟩) 0 0) 0 []) := by
    have h := World.ownsRow_made (base := a + 1) (e := 9) (size := 1) w1 #[] 0 (by omega) (by simp [maxLen]) rfl
    show World.ownsRow _ _ _ _ _ _ _
    simpa using h
  go_wp2_with fail
  have HR3 : Hid (RD (w1.alloc (.cells #[] 9)) a 0) := HR1.out.below ((Below.refl _ _).alloc (Nat.le_refl _) _)
  have HB3 : Hid (Below w.heap.size w (w1.alloc (.cells #[] 9))) := HB1.out.alloc HB1.out.size _
  have hz3 : (w1.alloc (.cells #[] 9)).heap.size = w1.heap.size + 1 := by simp
  obtain ⟨g2, hg2⟩ : ∃ g, g = w1.heap.size := ⟨_, rfl⟩
  rw [← hg2] at HO2 hz3
  rw [← hg2]
  clear hg2 HR1 HB1
  generalize w1.alloc (.cells #[] 9) = w3 at *
  rw [← hz3]
  refine (num_any a 0 w3.heap.size 5 4 _ _ (by decide) (by decide) (by decide) rfl (heap_alloc_new w3 _) (by decide) (HR3.out.below ((Below.refl _ _).alloc (Nat.le_refl _) _))).mono ?_
  rintro e w4 ⟨n, rfl, hn, hr, hgr⟩
  have HR4 := hid hr
  have HB4 : Hid (Below w.heap.size w w4) := (HB3.out.alloc HB3.out.size _).grown hgr (by have := HB3.out.size; simp; omega) (fun g hg => by cases hg; exact ha)
  have HO4 : Hid (w4.ownsRow (a + 1) 9 1 (.slice (some ⟨g2, 0, none⟩) 0 0) 0 []) := (HR3.out.below ((Below.refl _ _).alloc (Nat.le_refl _) _)).row (World.ownsRow.alloc HO2.out _) (by decide) hgr
  clear hr hgr HO2 HR3 HB3
  go_wp2_with fail
  go_loopg [5, 12] n (fun q o i wr => ∃ (k g c : Nat) (xs : List ByteArray), k ≤ n ∧ n - k ≤ q ∧ i = .int .i64 k ∧ o = .slice (some ⟨g, 0, none⟩) k c ∧ Hid (xs.length = k) ∧ Hid (∀ x ∈ xs, x.size ≤ 40) ∧ Hid (wr.ownsRow (a + 1) 9 1 (.slice (some ⟨g, 0, none⟩) k c) k (strs xs)) ∧ Hid (RD wr a (1 + 200 * k)) ∧ Below w.heap.size w wr)
  case atStart => exact ⟨0, g2, 0, [], Nat.zero_le _, by simp, rfl, rfl, rfl, (by show ∀ x ∈ _, _; simp), HO4.out, HR4.out, HB4.out⟩
  case round =>
    clear HO4 HR4 HB4
    obtain ⟨k, g, c, xs, hk, hq, rfl, rfl, hxl, hxs, hrow, hrd, hb⟩ := hrel
    have HXL := hid hxl.out
    have HXS := hid hxs.out
    have HO := hid hrow.out
    have HR := hid hrd.out
    have HB := hid hb
    have hbz := hb.size
    clear hxl hxs hrow hrd hb
    by_cases hlt : k < n
    · go_wp2_with fail
      refine (l6Any_any a (1 + 200 * k) wr (by omega) HR.out).mono ?_
      rintro e w5 ⟨u, rfl, -, hu, hr, hgr⟩
      have HR5 := hid hr
      have HO5 := hid (HR.out.row HO.out (by decide) hgr)
      have HB5 : Hid (Below w.heap.size w w5) := HB.out.grown hgr hbz (fun g hg => by cases hg; exact ha)
      have hz5 := hgr.size
      have har := HR.out.lt
      clear hr hgr
      obtain ⟨xv, hxv⟩ : ∃ xv, xv = strs xs := ⟨_, rfl⟩
      rw [← hxv] at HO5
      go_wp2_with (first
        | (at_builtin; refine app_push_at 35 9 (.string ⟨#[]⟩) 1 16 Tryd.underlying35 infoStrD rfl (by decide) rfl _ _ rfl (a + 1) (.slice (some ⟨g, 0, none⟩) k c) k xv rfl (World.ownsRow.alloc HO5.out _) w5.heap.size 1 [.string u] rfl rfl (news_one (heap_cell (heap_alloc_new _ _) 0)) (by simp [Value.oneCell']) (by unfold maxLen; omega) (by omega) (by simp; omega) ?_))
      intro g1' cap1 w6 hown hgr hlie
      have HO6 := hid hown
      have hoA : World.ownsRow (w5.alloc (.cells #[.string u] 9)) (a + 1) 9 1 (.slice (some ⟨g, 0, none⟩) k c) k xv := World.ownsRow.alloc HO5.out _
      have HR6 : Hid (RD w6 a (1 + 200 * k + 200)) := (HR5.out.below ((Below.refl _ _).alloc (Nat.le_refl _) _)).grown hgr (fun g hg => by have := (row_own hoA g hg).1; omega)
      have HB6 : Hid (Below w.heap.size w w6) := (HB5.out.alloc (by omega) _).grown hgr (by simp; omega) (fun g hg => by have := (row_own hoA g hg).1; omega)
      have HXV := hid hxv
      clear hown hgr hlie hoA hxv
      go_wp2_with fail
      go_roundg (n - (k + 1))
      case measure => omega
      case rel =>
        refine ⟨k + 1, g1', cap1, xs ++ [u], by omega, by omega, by go_num, rfl, ?_, ?_, ?_, HR6.out.mono (by omega), HB6.out⟩
        · show _ = _
          rw [List.length_append, HXL.out]; rfl
        · show ∀ x ∈ _, _
          intro x hx
          rcases List.mem_append.1 hx with hx | hx
          · exact HXS.out x hx
          · simp at hx; subst hx; exact hu
        · have h9 := HO6.out
          first | rw [HXV.out] at h9 | skip
          have e9 : strs (xs ++ [u]) = strs xs ++ [.string u] := by simp [strs]
          show World.ownsRow _ _ _ _ _ _ _
          rw [e9]
          exact h9
    · have hke : k = n := by omega
      subst hke
      go_wp2_with fail
      refine (numI_any a (1 + 200 * k) wr.heap.size 6 (-1) 10 _ _ (by omega) (by decide) (by decide) rfl (heap_alloc_new wr _) (by decide) (HR.out.below ((Below.refl _ _).alloc (Nat.le_refl _) _))).mono ?_
      rintro e w7 ⟨x, rfl, hx1, hx2, hr, hgr⟩
      have HO7 := hid ((HR.out.below ((Below.refl _ _).alloc (Nat.le_refl _) _)).row (World.ownsRow.alloc HO.out _) (by decide) hgr)
      have HB7 : Hid (Below w.heap.size w w7) := (HB.out.alloc hbz _).grown hgr (by simp; omega) (fun g hg => by cases hg; exact ha)
      clear hr hgr
      go_wp2
      go_ret2
      have h9 := HO7.out
      rw [← HXL.out] at h9
      exact ⟨x, xs, g, c, by rw [HXL.out]; rfl, hx1, hx2, by rw [HXL.out]; exact hn, HXS.out, row_mono h9 (by omega), HB7.out⟩
end Draw
end Go.Proofs.YtaapdhacnbhohaaDoor
