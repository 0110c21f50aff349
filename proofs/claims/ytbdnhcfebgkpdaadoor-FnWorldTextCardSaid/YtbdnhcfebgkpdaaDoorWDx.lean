/- The texts that the laws on worlds draw. Conditions: those typed. -/
import Derived.Test.YtbdnhcfebgkpdaaDoorWDv
import Derived.Test.YtbdnhcfebgkpdaaDoorFW
import Derived.Test.YtbdnhcfebgkpdaaDoorNeed
import Derived.Test.YtbdnhcfebgkpdaaDoorWDM
import Derived.Test.YtbdnhcfebgkpdaaDoorPWoP
import Derived.Test.YtbdnhcfebgkpdaaDoorTail
set_option linter.unusedVariables false
set_option linter.unusedSimpArgs false
set_option maxRecDepth 100000
namespace Go.Proofs.YtbdnhcfebgkpdaaDoor
open Go.RowKit ListS IRow PWo FmtI FW
namespace Draw
theorem fmtI_pos (x y : ByteArray) (ns : List BB) : 1 ≤ (fmtI x y ns).size := by
  unfold fmtI
  cases ns with
  | nil =>
    show 1 ≤ (needText x y).size
    rw [needText_size]; omega
  | cons p r =>
    show 1 ≤ (needText x y ++ ⟨#[58]⟩ ++ ⟨(fmtL (p :: r)).toArray⟩).size
    rw [ByteArray.size_append, ByteArray.size_append, needText_size]; omega
theorem fmtW_size (cs : List BB) (is : List II) : (fmtW cs is).size ≤ tot cs + 2 * cs.length + 3 * itot is + 3 * is.length := by
  unfold fmtW
  split
  · rw [bl_size, List.length_append]
    have h1 := clsL_len cs
    have h2 := insL_len is
    omega
  · exact Nat.zero_le _
set_option maxHeartbeats 4000000 in
theorem l3Need_any (a q : Nat) (w : World) (hq : q ≤ 30000) (h : RD w a q) : Calls Tryd.prog 35 #[.pointer (some ⟨a, 0, none⟩)] w fun e w' => ∃ x y : ByteArray, e = .returned (.agg #[.string x, .string y]) ∧ x.size ≤ 1 ∧ y.size ≤ 40 ∧ RD w' a (q + 100) ∧ w.grownBy w' (some a) := by
  have HR := hid h
  have hal := h.lt
  have HG : Hid (w.grownBy w (some a)) := gb0 (Below.refl _ _) _
  clear h
  go_enter Tryd.func35, Tryd.ntmps35
  have hb : Below w.heap.size w ((w.alloc (.cells #[.string ⟨#[]⟩, .string ⟨#[]⟩] 25)).alloc (.cells #[.string ⟨#[69]⟩, .string ⟨#[79]⟩, .string ⟨#[65]⟩, .string ⟨#[69]⟩, .string ⟨#[90]⟩, .string ⟨#[]⟩] 9)) := ((Below.refl _ _).alloc (by simp; try omega) _).alloc (by simp; try omega) _
  replace HR : Hid (RD ((w.alloc (.cells #[.string ⟨#[]⟩, .string ⟨#[]⟩] 25)).alloc (.cells #[.string ⟨#[69]⟩, .string ⟨#[79]⟩, .string ⟨#[65]⟩, .string ⟨#[69]⟩, .string ⟨#[90]⟩, .string ⟨#[]⟩] 9)) a (q)) := HR.out.below hb
  replace HG : Hid (w.grownBy ((w.alloc (.cells #[.string ⟨#[]⟩, .string ⟨#[]⟩] 25)).alloc (.cells #[.string ⟨#[69]⟩, .string ⟨#[79]⟩, .string ⟨#[65]⟩, .string ⟨#[69]⟩, .string ⟨#[90]⟩, .string ⟨#[]⟩] 9)) (some a)) := grown_trans HG.out (gb0 hb _)
  clear hb
  have HZ : Hid (((w.alloc (.cells #[.string ⟨#[]⟩, .string ⟨#[]⟩] 25)).alloc (.cells #[.string ⟨#[69]⟩, .string ⟨#[79]⟩, .string ⟨#[65]⟩, .string ⟨#[69]⟩, .string ⟨#[90]⟩, .string ⟨#[]⟩] 9)).heap[w.heap.size]? = some (.cells #[.string ⟨#[]⟩, .string ⟨#[]⟩] 25 (0, 0))) := hb_alloc (hb_newk (by simp; try omega)) _
  have HL : Hid (((w.alloc (.cells #[.string ⟨#[]⟩, .string ⟨#[]⟩] 25)).alloc (.cells #[.string ⟨#[69]⟩, .string ⟨#[79]⟩, .string ⟨#[65]⟩, .string ⟨#[69]⟩, .string ⟨#[90]⟩, .string ⟨#[]⟩] 9)).heap[w.heap.size + 1]? = some (.cells #[.string ⟨#[69]⟩, .string ⟨#[79]⟩, .string ⟨#[65]⟩, .string ⟨#[69]⟩, .string ⟨#[90]⟩, .string ⟨#[]⟩] 9 (0, 0))) := hb_newk (by simp; try omega)
  go_wp2_with fail
  generalize ((w.alloc (.cells #[.string ⟨#[]⟩, .string ⟨#[]⟩] 25)).alloc (.cells #[.string ⟨#[69]⟩, .string ⟨#[79]⟩, .string ⟨#[65]⟩, .string ⟨#[69]⟩, .string ⟨#[90]⟩, .string ⟨#[]⟩] 9)) = w1 at *
  refine (ofS_any a q (w.heap.size + 1) 6 0 1 _ w1 (by omega) (by decide) (by decide) rfl HL.out (by decide) HR.out).mono ?_
  rintro e w2 ⟨x, rfl, -, hx, hr, hgr⟩
  replace HG : Hid (w.grownBy w2 (some a)) := grown_trans HG.out hgr
  replace HZ : Hid (w2.heap[w.heap.size]? = some (.cells #[.string ⟨#[]⟩, .string ⟨#[]⟩] 25 (0, 0))) := HR.out.box HZ.out (by decide) hgr
  replace HL : Hid (w2.heap[w.heap.size + 1]? = some (.cells #[.string ⟨#[69]⟩, .string ⟨#[79]⟩, .string ⟨#[65]⟩, .string ⟨#[69]⟩, .string ⟨#[90]⟩, .string ⟨#[]⟩] 9 (0, 0))) := HR.out.box HL.out (by decide) hgr
  have hzc := hgr.size
  replace HR : Hid (RD w2 a (q + 1)) := hr.mono (by omega)
  clear hr hgr hzc
  clear HL
  go_wp2_with fail
  refine (l1Any_any a (q + 1) w2 (by omega) HR.out).mono ?_
  rintro e w3 ⟨y, rfl, -, hy, hr, hgr⟩
  replace HG : Hid (w.grownBy w3 (some a)) := grown_trans HG.out hgr
  replace HZ : Hid (w3.heap[w.heap.size]? = some (.cells #[.string ⟨#[]⟩, .string ⟨#[]⟩] 25 (0, 0))) := HR.out.box HZ.out (by decide) hgr
  have hzc := hgr.size
  replace HR : Hid (RD w3 a (q + 100)) := hr.mono (by omega)
  clear hr hgr hzc
  obtain ⟨r0, r1, z0, z1⟩ := PWo.k2 HZ.out
  have hlr := lt_of_heap HZ.out
  go_wp2
  have hg := set2_boxR w3 w.heap.size (.string x) (.string y)
  refine bodyPost_ret (results_cell_row rfl _ _ w.heap.size 25 #[.string x, .string y] (0, 0) _ rfl (heap_set (heap_set HZ.out 0 _) 1 _) Tryd.underlying25 rfl (by kernel_rfl)) rfl ?_
  exact ⟨x, y, rfl, hx, hy, HR.out.grown hg (fun g hg => by cases hg; omega), grown_boxR HG.out hg (by omega)⟩
set_option maxHeartbeats 8000000 in
theorem DrawParseNeed_any (v0 : Value) (xs0 : List Int) (w : World) (h : SB w v0 xs0) : Calls Tryd.prog 8 #[v0] w (TPost w 0 50) := by
  go_enter Tryd.func8, Tryd.ntmps8
  go_wp2_with fail
  refine (open_any v0 xs0 w h).mono ?_
  rintro e w1 ⟨a, rfl, ha, hr, hb⟩
  have HR := hid hr
  have HB := hid hb
  have ha2 : w.heap.size ≤ a := ha
  clear hr hb h ha
  have hal := HR.out.lt
  go_wp2_with fail
  refine (l3Need_any a 0 w1 (by decide) HR.out).mono ?_
  rintro e w2 ⟨x, y, rfl, hx, hy, hr, hgr⟩
  replace HB : Hid (Below w.heap.size w w2) := HB.out.grown hgr HB.out.size (fun g hg => by cases hg; omega)
  have hzc := hgr.size
  replace HR : Hid (RD w2 a (100)) := hr.mono (by omega)
  clear hr hgr hzc
  go_wp2_with fail
  refine (FormatNeed_spec x y w2 (by omega)).mono ?_
  rintro e w3 ⟨rfl, hb⟩
  replace HR : Hid (RD w3 a (100)) := HR.out.below hb
  replace HB : Hid (Below w.heap.size w w3) := HB.out.trans (hb.mono HB.out.size)
  clear hb
  obtain ⟨s, hse⟩ : ∃ s, s = needText x y := ⟨_, rfl⟩
  have hs1 : 1 ≤ s.size := by rw [hse, needText_size]; omega
  have hs2 : s.size ≤ 42 := by rw [hse, needText_size]; omega
  rw [← hse]
  clear hse hx hy
  go_wp2_with fail
  refine (pick_any a 100 3 w3 (by decide) (by decide) (by decide) HR.out).mono ?_
  rintro e w4 ⟨j, hj, rfl, hr, hgr⟩
  replace HB : Hid (Below w.heap.size w w4) := HB.out.grown hgr HB.out.size (fun g hg => by cases hg; omega)
  have hzc := hgr.size
  replace HR : Hid (RD w4 a (101)) := hr.mono (by omega)
  clear hr hgr hzc
  by_cases hj0 : 0 < j
  · have hj1 : (j : Int) > 0 := by omega
    go_wp2
    go_ret
    exact ⟨s, rfl, Nat.zero_le _, by omega, HB.out⟩
  · have hj1 : ¬ (j : Int) > 0 := by omega
    go_wp2_with fail
    refine ((show Calls Tryd.prog _ #[_, .int .i64 (s.size : Nat)] w4 _ from pick_any a 101 s.size w4 hs1 (by omega) (by decide) HR.out)).mono ?_
    rintro e w5 ⟨m, hm, rfl, hr, hgr⟩
    replace HB : Hid (Below w.heap.size w w5) := HB.out.grown hgr HB.out.size (fun g hg => by cases hg; omega)
    have hzc := hgr.size
    replace HR : Hid (RD w5 a (102)) := hr.mono (by omega)
    clear hr hgr hzc
    go_wp2_with fail
    have hms : (m : Int) ≤ s.size := by omega
    refine wp_region_any (by kernel_rfl) ?_
    change wpAny _ _ _ _ _ _ _ (World.drew _)
    have hb : Below w5.heap.size w5 w5.drew := (Below.refl _ _).drew
    replace HR : Hid (RD w5.drew a (102)) := HR.out.below hb
    replace HB : Hid (Below w.heap.size w w5.drew) := HB.out.trans (hb.mono HB.out.size)
    clear hb
    generalize w5.drew = w6 at *
    refine wpAny_of_T (S := fun X => True) (m := 15) _ _ _ _ ?_
    refine wpAnyT_take (i := 0) (v := .string s) rfl (by kernel_rfl) (by kernel_rfl) (by kernel_rfl) (by kernel_rfl) (fun _ _ _ h => h) (Or.inl ⟨by kernel_rfl, fun X hS => by clear hS; go_simp⟩) trivial ?_
    try go_simp
    refine wpAnyT_take (i := 1) (v := .int .i64 m) rfl (by kernel_rfl) (by kernel_rfl) (by kernel_rfl) (by kernel_rfl) (fun _ _ _ h => h) (Or.inl ⟨by kernel_rfl, fun X hS => by clear hS; go_simp⟩) trivial ?_
    try go_simp
    refine wpAnyT_take (i := 2) (v := .string (s.extract 0 m)) rfl (by kernel_rfl) (by kernel_rfl) (by kernel_rfl) (by kernel_rfl) (fun _ _ _ h => h) (Or.inl ⟨by kernel_rfl, fun X hS => by clear hS; go_simp⟩) trivial ?_
    try go_simp
    refine wpAnyT_take (i := 3) (v := .pointer (some ⟨a, 0, none⟩)) rfl (by kernel_rfl) (by kernel_rfl) (by kernel_rfl) (by kernel_rfl) (fun _ _ _ h => h) (Or.inl ⟨by kernel_rfl, fun X hS => by clear hS; go_simp⟩) trivial ?_
    try go_simp
    refine wpAnyT_take (i := 7) (v := .string s) rfl (by kernel_rfl) (by kernel_rfl) (by kernel_rfl) (by kernel_rfl) (fun _ _ _ h => h) (Or.inl ⟨by kernel_rfl, fun X hS => by clear hS; go_simp⟩) trivial ?_
    try go_simp
    refine wpAnyT_take (i := 8) (v := .int .i64 m) rfl (by kernel_rfl) (by kernel_rfl) (by kernel_rfl) (by kernel_rfl) (fun _ _ _ h => h) (Or.inl ⟨by kernel_rfl, fun X hS => by clear hS; go_simp⟩) trivial ?_
    try go_simp
    refine wpAnyT_take (i := 9) (v := .pointer (some ⟨a, 0, none⟩)) rfl (by kernel_rfl) (by kernel_rfl) (by kernel_rfl) (by kernel_rfl) (fun _ _ _ h => h) (Or.inl ⟨by kernel_rfl, fun X hS => by clear hS; go_simp⟩) trivial ?_
    try go_simp
    refine wpAnyT_one 4 rfl (by kernel_rfl) (fun K hK => ?_)
    go_simp
    have hzz := HB.out.size
    have hb : Below w6.heap.size w6 (w6.alloc (.cells #[.string ⟨#[]⟩, .string ⟨#[32]⟩, .string ⟨#[69]⟩, .string ⟨#[120]⟩] 9)) := (Below.refl _ _).alloc (Nat.le_refl _) _
    replace HR : Hid (RD (w6.alloc (.cells #[.string ⟨#[]⟩, .string ⟨#[32]⟩, .string ⟨#[69]⟩, .string ⟨#[120]⟩] 9)) a (102)) := HR.out.below hb
    replace HB : Hid (Below w.heap.size w (w6.alloc (.cells #[.string ⟨#[]⟩, .string ⟨#[32]⟩, .string ⟨#[69]⟩, .string ⟨#[120]⟩] 9))) := HB.out.trans (hb.mono HB.out.size)
    clear hb
    have HL : Hid ((w6.alloc (.cells #[.string ⟨#[]⟩, .string ⟨#[32]⟩, .string ⟨#[69]⟩, .string ⟨#[120]⟩] 9)).heap[w6.heap.size]? = some (.cells #[.string ⟨#[]⟩, .string ⟨#[32]⟩, .string ⟨#[69]⟩, .string ⟨#[120]⟩] 9 (0, 0))) := heap_alloc_new _ _
    generalize (w6.alloc (.cells #[.string ⟨#[]⟩, .string ⟨#[32]⟩, .string ⟨#[69]⟩, .string ⟨#[120]⟩] 9)) = w7 at *
    obtain ⟨b7, hbb7⟩ : ∃ x, x = w6.heap.size := ⟨_, rfl⟩
    rw [← hbb7] at HL ⊢
    clear hzz
    clear hbb7
    refine hK _ _ (fun _ => trivial) ?_
    clear hK K
    refine wpAnyT_one 5 rfl (by kernel_rfl) (fun K hK => ?_)
    go_simp
    refine (ofS_any a 102 b7 4 0 1 _ w7 (by decide) (by decide) (by decide) rfl HL.out (by decide) HR.out).mono ?_
    rintro e w8 ⟨u, rfl, -, hu, hr, hgr⟩
    replace HB : Hid (Below w.heap.size w w8) := HB.out.grown hgr HB.out.size (fun g hg => by cases hg; omega)
    replace HL : Hid (w8.heap[b7]? = some (.cells #[.string ⟨#[]⟩, .string ⟨#[32]⟩, .string ⟨#[69]⟩, .string ⟨#[120]⟩] 9 (0, 0))) := HR.out.box HL.out (by decide) hgr
    have hzc := hgr.size
    replace HR : Hid (RD w8 a (103)) := hr.mono (by omega)
    clear hr hgr hzc
    clear HL
    refine hK _ _ (fun _ => trivial) ?_
    clear hK K
    refine wpAnyT_take (i := 6) (v := .string (s.extract 0 m ++ u)) rfl (by kernel_rfl) (by kernel_rfl) (by kernel_rfl) (by kernel_rfl) (fun _ _ _ h => h) (Or.inl ⟨by kernel_rfl, fun X hS => by clear hS; go_simp; omega⟩) trivial ?_
    try go_simp
    refine wpAnyT_one 10 rfl (by kernel_rfl) (fun K hK => ?_)
    go_simp
    refine (pick_any a 103 2 w8 (by decide) (by decide) (by decide) HR.out).mono ?_
    rintro e w9 ⟨o, ho, rfl, hr, hgr⟩
    replace HB : Hid (Below w.heap.size w w9) := HB.out.grown hgr HB.out.size (fun g hg => by cases hg; omega)
    have hzc := hgr.size
    replace HR : Hid (RD w9 a (104)) := hr.mono (by omega)
    clear hr hgr hzc
    refine hK _ _ (fun _ => trivial) ?_
    clear hK K
    have hmo : (m : Int) + o ≤ s.size := by omega
    have hmo2 : m + o ≤ s.size := by omega
    have hmo3 : 0 ≤ (m : Int) + (o : Int) := by omega
    refine wpAnyT_take (i := 11) (v := .int .i64 ((m : Int) + (o : Int))) rfl (by kernel_rfl) (by kernel_rfl) (by kernel_rfl) (by kernel_rfl) (fun _ _ _ h => h) (Or.inl ⟨by kernel_rfl, fun X hS => by clear hS; go_simp; rw [IntKind.wrap_i64]; omega⟩) trivial ?_
    try go_simp
    refine wpAnyT_take (i := 12) (v := .string (s.extract ((m : Int) + (o : Int)).toNat s.size)) rfl (by kernel_rfl) (by kernel_rfl) (by kernel_rfl) (by kernel_rfl) (fun _ _ _ h => h) (Or.inl ⟨by kernel_rfl, fun X hS => by clear hS; go_simp⟩) trivial ?_
    try go_simp
    refine wpAnyT_take (i := 13) (v := .string (s.extract 0 m ++ u ++ s.extract ((m : Int) + (o : Int)).toNat s.size)) rfl (by kernel_rfl) (by kernel_rfl) (by kernel_rfl) (by kernel_rfl) (fun _ _ _ h => h) (Or.inl ⟨by kernel_rfl, fun X hS => by clear hS; go_simp; omega⟩) trivial ?_
    try go_simp
    refine wpAnyT_take (i := 14) (v := .string (s.extract 0 m ++ u ++ s.extract ((m : Int) + (o : Int)).toNat s.size)) rfl (by kernel_rfl) (by kernel_rfl) (by kernel_rfl) (by kernel_rfl) (fun _ _ _ h => h) (Or.inl ⟨by kernel_rfl, fun X hS => by clear hS; go_simp⟩) trivial ?_
    try go_simp
    refine wpAnyT_drop _ 15 _ _ _ (by decide) (by kernel_rfl) ?_
    change wpList _ _ _ [] _ _
    go_wp2
    go_ret
    exact ⟨_, rfl, Nat.zero_le _, by simp [ByteArray.size_append, ByteArray.size_extract]; omega, HB.out⟩
set_option maxHeartbeats 8000000 in
theorem DrawParseInstance_any (v0 : Value) (xs0 : List Int) (w : World) (h : SB w v0 xs0) : Calls Tryd.prog 5 #[v0] w (TPost w 0 1000) := by
  go_enter Tryd.func5, Tryd.ntmps5
  go_wp2_with fail
  refine (open_any v0 xs0 w h).mono ?_
  rintro e w1 ⟨a, rfl, ha, hr, hb⟩
  have HR := hid hr
  have HB := hid hb
  have ha2 : w.heap.size ≤ a := ha
  clear hr hb h ha
  have hal := HR.out.lt
  go_wp2_with fail
  refine (pick_any a 0 9 w1 (by decide) (by decide) (by decide) HR.out).mono ?_
  rintro e w2 ⟨k, hk, rfl, hr, hgr⟩
  replace HB : Hid (Below w.heap.size w w2) := HB.out.grown hgr HB.out.size (fun g hg => by cases hg; omega)
  have hzc := hgr.size
  replace HR : Hid (RD w2 a (1)) := hr.mono (by omega)
  clear hr hgr hzc
  go_wp2_with fail
  have hzz := HB.out.size
  refine (l3Known_any k w2 hk).mono ?_
  rintro e w3 ⟨v2, u2, cs2, is2, rfl, hv, hu, k1, -, k2, -, hb⟩
  obtain ⟨va2, vc2, rfl⟩ := row_slice hv
  obtain ⟨ua2, uc2, rfl⟩ := ir_slice hu
  have HV2 : Hid (w3.ownsRow w.heap.size 69 2 (.slice va2 cs2.length vc2) cs2.length (flat cs2)) := row_mono hv hzz
  clear hv hu hzz
  replace HR : Hid (RD w3 a (1)) := HR.out.below hb
  replace HB : Hid (Below w.heap.size w w3) := HB.out.trans (hb.mono HB.out.size)
  clear hb
  go_wp2_with fail
  have hzz := HB.out.size
  refine (l3DrawInstance_any a 1 w.heap.size vc2 is2.length uc2 va2 ua2 cs2 w3 (by decide) k1 k2 HR.out HV2.out).mono ?_
  rintro e w4 ⟨x, y, ns, g2, c2, rfl, hnr, hx, hy, hn1, hn2, hr, hgr⟩
  replace HB : Hid (Below w.heap.size w w4) := HB.out.grown hgr HB.out.size (fun g hg => by cases hg; omega)
  replace HV2 : Hid (w4.ownsRow w.heap.size 69 2 (.slice va2 cs2.length vc2) cs2.length (flat cs2)) := HR.out.row HV2.out (by decide) hgr
  have hzc := hgr.size
  replace HR : Hid (RD w4 a (201)) := hr.mono (by omega)
  clear hr hgr hzc
  have HT : Hid (w4.ownsRow w.heap.size 25 2 (.slice (some ⟨g2, 0, none⟩) ns.length c2) ns.length (flat ns)) := row_mono hnr hzz
  clear hnr hzz
  have htn : tot ns ≤ 480 := by have := tot_smallW ns hn2; omega
  clear hn2 HV2
  go_wp2_with fail
  refine (FormatInstance_spec x y _ ns w4 (by omega) (sp_of HT.out (by omega))).mono ?_
  rintro e w5 ⟨rfl, hb⟩
  replace HR : Hid (RD w5 a (201)) := HR.out.below hb
  replace HB : Hid (Below w.heap.size w w5) := HB.out.trans (hb.mono HB.out.size)
  clear hb
  obtain ⟨s, hse⟩ : ∃ s, s = fmtI x y ns := ⟨_, rfl⟩
  have hs1 : 1 ≤ s.size := by rw [hse]; exact fmtI_pos x y ns
  have hs2 : s.size ≤ 700 := by have := fmtI_size x y ns; rw [hse]; omega
  rw [← hse]
  clear hse hx hy HT htn hn1
  go_wp2_with fail
  refine (pick_any a 201 2 w5 (by decide) (by decide) (by decide) HR.out).mono ?_
  rintro e w6 ⟨j, hj, rfl, hr, hgr⟩
  replace HB : Hid (Below w.heap.size w w6) := HB.out.grown hgr HB.out.size (fun g hg => by cases hg; omega)
  have hzc := hgr.size
  replace HR : Hid (RD w6 a (202)) := hr.mono (by omega)
  clear hr hgr hzc
  by_cases hj0 : j = 0
  · subst hj0
    go_wp2
    go_ret
    exact ⟨s, rfl, Nat.zero_le _, by omega, HB.out⟩
  · have hj1 : ((j : Int) == 0) = false := by rw [beq_eq_false_iff_ne]; omega
    go_wp2_with fail
    refine ((show Calls Tryd.prog _ #[_, .int .i64 (s.size : Nat)] w6 _ from pick_any a 202 s.size w6 hs1 (by omega) (by decide) HR.out)).mono ?_
    rintro e w7 ⟨m, hm, rfl, hr, hgr⟩
    replace HB : Hid (Below w.heap.size w w7) := HB.out.grown hgr HB.out.size (fun g hg => by cases hg; omega)
    have hzc := hgr.size
    replace HR : Hid (RD w7 a (203)) := hr.mono (by omega)
    clear hr hgr hzc
    go_wp2_with fail
    have hms : (m : Int) ≤ s.size := by omega
    refine wp_region_any (by kernel_rfl) ?_
    change wpAny _ _ _ _ _ _ _ (World.drew _)
    have hb : Below w7.heap.size w7 w7.drew := (Below.refl _ _).drew
    replace HR : Hid (RD w7.drew a (203)) := HR.out.below hb
    replace HB : Hid (Below w.heap.size w w7.drew) := HB.out.trans (hb.mono HB.out.size)
    clear hb
    generalize w7.drew = w8 at *
    refine wpAny_of_T (S := fun X => True) (m := 15) _ _ _ _ ?_
    refine wpAnyT_take (i := 0) (v := .string s) rfl (by kernel_rfl) (by kernel_rfl) (by kernel_rfl) (by kernel_rfl) (fun _ _ _ h => h) (Or.inl ⟨by kernel_rfl, fun X hS => by clear hS; go_simp⟩) trivial ?_
    try go_simp
    refine wpAnyT_take (i := 1) (v := .int .i64 m) rfl (by kernel_rfl) (by kernel_rfl) (by kernel_rfl) (by kernel_rfl) (fun _ _ _ h => h) (Or.inl ⟨by kernel_rfl, fun X hS => by clear hS; go_simp⟩) trivial ?_
    try go_simp
    refine wpAnyT_take (i := 2) (v := .string (s.extract 0 m)) rfl (by kernel_rfl) (by kernel_rfl) (by kernel_rfl) (by kernel_rfl) (fun _ _ _ h => h) (Or.inl ⟨by kernel_rfl, fun X hS => by clear hS; go_simp⟩) trivial ?_
    try go_simp
    refine wpAnyT_take (i := 3) (v := .pointer (some ⟨a, 0, none⟩)) rfl (by kernel_rfl) (by kernel_rfl) (by kernel_rfl) (by kernel_rfl) (fun _ _ _ h => h) (Or.inl ⟨by kernel_rfl, fun X hS => by clear hS; go_simp⟩) trivial ?_
    try go_simp
    refine wpAnyT_take (i := 7) (v := .string s) rfl (by kernel_rfl) (by kernel_rfl) (by kernel_rfl) (by kernel_rfl) (fun _ _ _ h => h) (Or.inl ⟨by kernel_rfl, fun X hS => by clear hS; go_simp⟩) trivial ?_
    try go_simp
    refine wpAnyT_take (i := 8) (v := .int .i64 m) rfl (by kernel_rfl) (by kernel_rfl) (by kernel_rfl) (by kernel_rfl) (fun _ _ _ h => h) (Or.inl ⟨by kernel_rfl, fun X hS => by clear hS; go_simp⟩) trivial ?_
    try go_simp
    refine wpAnyT_take (i := 9) (v := .pointer (some ⟨a, 0, none⟩)) rfl (by kernel_rfl) (by kernel_rfl) (by kernel_rfl) (by kernel_rfl) (fun _ _ _ h => h) (Or.inl ⟨by kernel_rfl, fun X hS => by clear hS; go_simp⟩) trivial ?_
    try go_simp
    refine wpAnyT_one 4 rfl (by kernel_rfl) (fun K hK => ?_)
    go_simp
    have hzz := HB.out.size
    have hb : Below w8.heap.size w8 (w8.alloc (.cells #[.string ⟨#[]⟩, .string ⟨#[32]⟩, .string ⟨#[58]⟩, .string ⟨#[38]⟩, .string ⟨#[120]⟩, .string ⟨#[69]⟩] 9)) := (Below.refl _ _).alloc (Nat.le_refl _) _
    replace HR : Hid (RD (w8.alloc (.cells #[.string ⟨#[]⟩, .string ⟨#[32]⟩, .string ⟨#[58]⟩, .string ⟨#[38]⟩, .string ⟨#[120]⟩, .string ⟨#[69]⟩] 9)) a (203)) := HR.out.below hb
    replace HB : Hid (Below w.heap.size w (w8.alloc (.cells #[.string ⟨#[]⟩, .string ⟨#[32]⟩, .string ⟨#[58]⟩, .string ⟨#[38]⟩, .string ⟨#[120]⟩, .string ⟨#[69]⟩] 9))) := HB.out.trans (hb.mono HB.out.size)
    clear hb
    have HL : Hid ((w8.alloc (.cells #[.string ⟨#[]⟩, .string ⟨#[32]⟩, .string ⟨#[58]⟩, .string ⟨#[38]⟩, .string ⟨#[120]⟩, .string ⟨#[69]⟩] 9)).heap[w8.heap.size]? = some (.cells #[.string ⟨#[]⟩, .string ⟨#[32]⟩, .string ⟨#[58]⟩, .string ⟨#[38]⟩, .string ⟨#[120]⟩, .string ⟨#[69]⟩] 9 (0, 0))) := heap_alloc_new _ _
    generalize (w8.alloc (.cells #[.string ⟨#[]⟩, .string ⟨#[32]⟩, .string ⟨#[58]⟩, .string ⟨#[38]⟩, .string ⟨#[120]⟩, .string ⟨#[69]⟩] 9)) = w9 at *
    obtain ⟨b9, hbb9⟩ : ∃ x, x = w8.heap.size := ⟨_, rfl⟩
    rw [← hbb9] at HL ⊢
    clear hzz
    clear hbb9
    refine hK _ _ (fun _ => trivial) ?_
    clear hK K
    refine wpAnyT_one 5 rfl (by kernel_rfl) (fun K hK => ?_)
    go_simp
    refine (ofS_any a 203 b9 6 0 1 _ w9 (by decide) (by decide) (by decide) rfl HL.out (by decide) HR.out).mono ?_
    rintro e w10 ⟨u, rfl, -, hu, hr, hgr⟩
    replace HB : Hid (Below w.heap.size w w10) := HB.out.grown hgr HB.out.size (fun g hg => by cases hg; omega)
    replace HL : Hid (w10.heap[b9]? = some (.cells #[.string ⟨#[]⟩, .string ⟨#[32]⟩, .string ⟨#[58]⟩, .string ⟨#[38]⟩, .string ⟨#[120]⟩, .string ⟨#[69]⟩] 9 (0, 0))) := HR.out.box HL.out (by decide) hgr
    have hzc := hgr.size
    replace HR : Hid (RD w10 a (204)) := hr.mono (by omega)
    clear hr hgr hzc
    clear HL
    refine hK _ _ (fun _ => trivial) ?_
    clear hK K
    refine wpAnyT_take (i := 6) (v := .string (s.extract 0 m ++ u)) rfl (by kernel_rfl) (by kernel_rfl) (by kernel_rfl) (by kernel_rfl) (fun _ _ _ h => h) (Or.inl ⟨by kernel_rfl, fun X hS => by clear hS; go_simp; omega⟩) trivial ?_
    try go_simp
    refine wpAnyT_one 10 rfl (by kernel_rfl) (fun K hK => ?_)
    go_simp
    refine (pick_any a 204 2 w10 (by decide) (by decide) (by decide) HR.out).mono ?_
    rintro e w11 ⟨o, ho, rfl, hr, hgr⟩
    replace HB : Hid (Below w.heap.size w w11) := HB.out.grown hgr HB.out.size (fun g hg => by cases hg; omega)
    have hzc := hgr.size
    replace HR : Hid (RD w11 a (205)) := hr.mono (by omega)
    clear hr hgr hzc
    refine hK _ _ (fun _ => trivial) ?_
    clear hK K
    have hmo : (m : Int) + o ≤ s.size := by omega
    have hmo2 : m + o ≤ s.size := by omega
    have hmo3 : 0 ≤ (m : Int) + (o : Int) := by omega
    refine wpAnyT_take (i := 11) (v := .int .i64 ((m : Int) + (o : Int))) rfl (by kernel_rfl) (by kernel_rfl) (by kernel_rfl) (by kernel_rfl) (fun _ _ _ h => h) (Or.inl ⟨by kernel_rfl, fun X hS => by clear hS; go_simp; rw [IntKind.wrap_i64]; omega⟩) trivial ?_
    try go_simp
    refine wpAnyT_take (i := 12) (v := .string (s.extract ((m : Int) + (o : Int)).toNat s.size)) rfl (by kernel_rfl) (by kernel_rfl) (by kernel_rfl) (by kernel_rfl) (fun _ _ _ h => h) (Or.inl ⟨by kernel_rfl, fun X hS => by clear hS; go_simp⟩) trivial ?_
    try go_simp
    refine wpAnyT_take (i := 13) (v := .string (s.extract 0 m ++ u ++ s.extract ((m : Int) + (o : Int)).toNat s.size)) rfl (by kernel_rfl) (by kernel_rfl) (by kernel_rfl) (by kernel_rfl) (fun _ _ _ h => h) (Or.inl ⟨by kernel_rfl, fun X hS => by clear hS; go_simp; omega⟩) trivial ?_
    try go_simp
    refine wpAnyT_take (i := 14) (v := .string (s.extract 0 m ++ u ++ s.extract ((m : Int) + (o : Int)).toNat s.size)) rfl (by kernel_rfl) (by kernel_rfl) (by kernel_rfl) (by kernel_rfl) (fun _ _ _ h => h) (Or.inl ⟨by kernel_rfl, fun X hS => by clear hS; go_simp⟩) trivial ?_
    try go_simp
    refine wpAnyT_drop _ 15 _ _ _ (by decide) (by kernel_rfl) ?_
    change wpList _ _ _ [] _ _
    go_wp2
    go_ret
    exact ⟨_, rfl, Nat.zero_le _, by simp [ByteArray.size_append, ByteArray.size_extract]; omega, HB.out⟩
set_option maxHeartbeats 8000000 in
theorem DrawParseWorld_any (v0 : Value) (xs0 : List Int) (w : World) (h : SB w v0 xs0) : Calls Tryd.prog 25 #[v0] w (TPost w 0 30000) := by
  go_enter Tryd.func25, Tryd.ntmps25
  go_wp2_with fail
  refine (open_any v0 xs0 w h).mono ?_
  rintro e w1 ⟨a, rfl, ha, hr, hb⟩
  have HR := hid hr
  have HB := hid hb
  have ha2 : w.heap.size ≤ a := ha
  clear hr hb h ha
  have hal := HR.out.lt
  go_wp2_with fail
  have hzz := HB.out.size
  refine (l3Draw_any a 0 w1 (by decide) HR.out).mono ?_
  rintro e w2 ⟨gc, vc, gi, uc, cs, is, rfl, hv, hu, h1, h2, h3, h4, hr, hgr⟩
  replace HB : Hid (Below w.heap.size w w2) := HB.out.grown hgr HB.out.size (fun g hg => by cases hg; omega)
  have hzc := hgr.size
  replace HR : Hid (RD w2 a (2000)) := hr.mono (by omega)
  clear hr hgr hzc
  have HV : Hid (w2.ownsRow w.heap.size 69 2 (.slice (some ⟨gc, 0, none⟩) cs.length vc) cs.length (flat cs)) := row_mono hv hzz
  have HU : Hid (IR w2 w.heap.size (.slice (some ⟨gi, 0, none⟩) is.length uc) is) := IR_mono hu hzz
  clear hv hu hzz
  go_wp2_with fail
  refine (FormatWorld_spec (some ⟨gc, 0, none⟩) (some ⟨gi, 0, none⟩) vc uc cs is w2 (by omega) (by omega) (row_cap HV.out) (sp_of HV.out (by omega)) (si_of HU.out (by omega))).mono ?_
  rintro e w3 ⟨rfl, hb⟩
  replace HR : Hid (RD w3 a (2000)) := HR.out.below hb
  replace HB : Hid (Below w.heap.size w w3) := HB.out.trans (hb.mono HB.out.size)
  clear hb
  obtain ⟨s, hse⟩ : ∃ s, s = fmtW cs is := ⟨_, rfl⟩
  have hs2 : s.size ≤ 29000 := by have := fmtW_size cs is; rw [hse]; omega
  rw [← hse]
  clear hse HV HU
  go_wp2_with fail
  refine (pick_any a 2000 2 w3 (by decide) (by decide) (by decide) HR.out).mono ?_
  rintro e w4 ⟨j, hj, rfl, hr, hgr⟩
  replace HB : Hid (Below w.heap.size w w4) := HB.out.grown hgr HB.out.size (fun g hg => by cases hg; omega)
  have hzc := hgr.size
  replace HR : Hid (RD w4 a (2001)) := hr.mono (by omega)
  clear hr hgr hzc
  by_cases hj0 : j = 0
  · subst hj0
    go_wp2
    go_ret
    exact ⟨s, rfl, Nat.zero_le _, by omega, HB.out⟩
  have hj1 : ((j : Int) == 0) = false := by rw [beq_eq_false_iff_ne]; omega
  by_cases hs0 : s.size = 0
  · have hse : s.toList.isEmpty = true := by
      rw [ByteArray.toList_eq]
      have : s.data.toList = [] := List.length_eq_zero_iff.1 (by rw [Array.length_toList]; exact hs0)
      rw [this]; rfl
    go_wp2
    go_ret
    exact ⟨s, rfl, Nat.zero_le _, by omega, HB.out⟩
  · have hse : s.toList.isEmpty = false := by
      rw [ByteArray.toList_eq]
      cases h : s.data.toList with
      | nil => exact absurd (by have h9 := congrArg List.length h; rw [Array.length_toList] at h9; exact h9) hs0
      | cons c r => rfl
    have hs1 : 1 ≤ s.size := by omega
    go_wp2_with fail
    clear hse
    refine ((show Calls Tryd.prog _ #[_, .int .i64 (s.size : Nat)] w4 _ from pick_any a 2001 s.size w4 hs1 (by omega) (by decide) HR.out)).mono ?_
    rintro e w5 ⟨m, hm, rfl, hr, hgr⟩
    replace HB : Hid (Below w.heap.size w w5) := HB.out.grown hgr HB.out.size (fun g hg => by cases hg; omega)
    have hzc := hgr.size
    replace HR : Hid (RD w5 a (2002)) := hr.mono (by omega)
    clear hr hgr hzc
    go_wp2_with fail
    have hms : (m : Int) ≤ s.size := by omega
    refine wp_region_any (by kernel_rfl) ?_
    change wpAny _ _ _ _ _ _ _ (World.drew _)
    have hb : Below w5.heap.size w5 w5.drew := (Below.refl _ _).drew
    replace HR : Hid (RD w5.drew a (2002)) := HR.out.below hb
    replace HB : Hid (Below w.heap.size w w5.drew) := HB.out.trans (hb.mono HB.out.size)
    clear hb
    generalize w5.drew = w6 at *
    refine wpAny_of_T (S := fun X => True) (m := 15) _ _ _ _ ?_
    refine wpAnyT_take (i := 0) (v := .string s) rfl (by kernel_rfl) (by kernel_rfl) (by kernel_rfl) (by kernel_rfl) (fun _ _ _ h => h) (Or.inl ⟨by kernel_rfl, fun X hS => by clear hS; go_simp⟩) trivial ?_
    try go_simp
    refine wpAnyT_take (i := 1) (v := .int .i64 m) rfl (by kernel_rfl) (by kernel_rfl) (by kernel_rfl) (by kernel_rfl) (fun _ _ _ h => h) (Or.inl ⟨by kernel_rfl, fun X hS => by clear hS; go_simp⟩) trivial ?_
    try go_simp
    refine wpAnyT_take (i := 2) (v := .string (s.extract 0 m)) rfl (by kernel_rfl) (by kernel_rfl) (by kernel_rfl) (by kernel_rfl) (fun _ _ _ h => h) (Or.inl ⟨by kernel_rfl, fun X hS => by clear hS; go_simp⟩) trivial ?_
    try go_simp
    refine wpAnyT_take (i := 3) (v := .pointer (some ⟨a, 0, none⟩)) rfl (by kernel_rfl) (by kernel_rfl) (by kernel_rfl) (by kernel_rfl) (fun _ _ _ h => h) (Or.inl ⟨by kernel_rfl, fun X hS => by clear hS; go_simp⟩) trivial ?_
    try go_simp
    refine wpAnyT_take (i := 7) (v := .string s) rfl (by kernel_rfl) (by kernel_rfl) (by kernel_rfl) (by kernel_rfl) (fun _ _ _ h => h) (Or.inl ⟨by kernel_rfl, fun X hS => by clear hS; go_simp⟩) trivial ?_
    try go_simp
    refine wpAnyT_take (i := 8) (v := .int .i64 m) rfl (by kernel_rfl) (by kernel_rfl) (by kernel_rfl) (by kernel_rfl) (fun _ _ _ h => h) (Or.inl ⟨by kernel_rfl, fun X hS => by clear hS; go_simp⟩) trivial ?_
    try go_simp
    refine wpAnyT_take (i := 9) (v := .pointer (some ⟨a, 0, none⟩)) rfl (by kernel_rfl) (by kernel_rfl) (by kernel_rfl) (by kernel_rfl) (fun _ _ _ h => h) (Or.inl ⟨by kernel_rfl, fun X hS => by clear hS; go_simp⟩) trivial ?_
    try go_simp
    refine wpAnyT_one 4 rfl (by kernel_rfl) (fun K hK => ?_)
    go_simp
    have hzz := HB.out.size
    have hb : Below w6.heap.size w6 (w6.alloc (.cells #[.string ⟨#[]⟩, .string ⟨#[32]⟩, .string ⟨#[59]⟩, .string ⟨#[60]⟩, .string ⟨#[69]⟩, .string ⟨#[58]⟩] 9)) := (Below.refl _ _).alloc (Nat.le_refl _) _
    replace HR : Hid (RD (w6.alloc (.cells #[.string ⟨#[]⟩, .string ⟨#[32]⟩, .string ⟨#[59]⟩, .string ⟨#[60]⟩, .string ⟨#[69]⟩, .string ⟨#[58]⟩] 9)) a (2002)) := HR.out.below hb
    replace HB : Hid (Below w.heap.size w (w6.alloc (.cells #[.string ⟨#[]⟩, .string ⟨#[32]⟩, .string ⟨#[59]⟩, .string ⟨#[60]⟩, .string ⟨#[69]⟩, .string ⟨#[58]⟩] 9))) := HB.out.trans (hb.mono HB.out.size)
    clear hb
    have HL : Hid ((w6.alloc (.cells #[.string ⟨#[]⟩, .string ⟨#[32]⟩, .string ⟨#[59]⟩, .string ⟨#[60]⟩, .string ⟨#[69]⟩, .string ⟨#[58]⟩] 9)).heap[w6.heap.size]? = some (.cells #[.string ⟨#[]⟩, .string ⟨#[32]⟩, .string ⟨#[59]⟩, .string ⟨#[60]⟩, .string ⟨#[69]⟩, .string ⟨#[58]⟩] 9 (0, 0))) := heap_alloc_new _ _
    generalize (w6.alloc (.cells #[.string ⟨#[]⟩, .string ⟨#[32]⟩, .string ⟨#[59]⟩, .string ⟨#[60]⟩, .string ⟨#[69]⟩, .string ⟨#[58]⟩] 9)) = w7 at *
    obtain ⟨b7, hbb7⟩ : ∃ x, x = w6.heap.size := ⟨_, rfl⟩
    rw [← hbb7] at HL ⊢
    clear hzz
    clear hbb7
    refine hK _ _ (fun _ => trivial) ?_
    clear hK K
    refine wpAnyT_one 5 rfl (by kernel_rfl) (fun K hK => ?_)
    go_simp
    refine (ofS_any a 2002 b7 6 0 1 _ w7 (by decide) (by decide) (by decide) rfl HL.out (by decide) HR.out).mono ?_
    rintro e w8 ⟨u, rfl, -, hu, hr, hgr⟩
    replace HB : Hid (Below w.heap.size w w8) := HB.out.grown hgr HB.out.size (fun g hg => by cases hg; omega)
    replace HL : Hid (w8.heap[b7]? = some (.cells #[.string ⟨#[]⟩, .string ⟨#[32]⟩, .string ⟨#[59]⟩, .string ⟨#[60]⟩, .string ⟨#[69]⟩, .string ⟨#[58]⟩] 9 (0, 0))) := HR.out.box HL.out (by decide) hgr
    have hzc := hgr.size
    replace HR : Hid (RD w8 a (2003)) := hr.mono (by omega)
    clear hr hgr hzc
    clear HL
    refine hK _ _ (fun _ => trivial) ?_
    clear hK K
    refine wpAnyT_take (i := 6) (v := .string (s.extract 0 m ++ u)) rfl (by kernel_rfl) (by kernel_rfl) (by kernel_rfl) (by kernel_rfl) (fun _ _ _ h => h) (Or.inl ⟨by kernel_rfl, fun X hS => by clear hS; go_simp; omega⟩) trivial ?_
    try go_simp
    refine wpAnyT_one 10 rfl (by kernel_rfl) (fun K hK => ?_)
    go_simp
    refine (pick_any a 2003 2 w8 (by decide) (by decide) (by decide) HR.out).mono ?_
    rintro e w9 ⟨o, ho, rfl, hr, hgr⟩
    replace HB : Hid (Below w.heap.size w w9) := HB.out.grown hgr HB.out.size (fun g hg => by cases hg; omega)
    have hzc := hgr.size
    replace HR : Hid (RD w9 a (2004)) := hr.mono (by omega)
    clear hr hgr hzc
    refine hK _ _ (fun _ => trivial) ?_
    clear hK K
    have hmo : (m : Int) + o ≤ s.size := by omega
    have hmo2 : m + o ≤ s.size := by omega
    have hmo3 : 0 ≤ (m : Int) + (o : Int) := by omega
    refine wpAnyT_take (i := 11) (v := .int .i64 ((m : Int) + (o : Int))) rfl (by kernel_rfl) (by kernel_rfl) (by kernel_rfl) (by kernel_rfl) (fun _ _ _ h => h) (Or.inl ⟨by kernel_rfl, fun X hS => by clear hS; go_simp; rw [IntKind.wrap_i64]; omega⟩) trivial ?_
    try go_simp
    refine wpAnyT_take (i := 12) (v := .string (s.extract ((m : Int) + (o : Int)).toNat s.size)) rfl (by kernel_rfl) (by kernel_rfl) (by kernel_rfl) (by kernel_rfl) (fun _ _ _ h => h) (Or.inl ⟨by kernel_rfl, fun X hS => by clear hS; go_simp⟩) trivial ?_
    try go_simp
    refine wpAnyT_take (i := 13) (v := .string (s.extract 0 m ++ u ++ s.extract ((m : Int) + (o : Int)).toNat s.size)) rfl (by kernel_rfl) (by kernel_rfl) (by kernel_rfl) (by kernel_rfl) (fun _ _ _ h => h) (Or.inl ⟨by kernel_rfl, fun X hS => by clear hS; go_simp; omega⟩) trivial ?_
    try go_simp
    refine wpAnyT_take (i := 14) (v := .string (s.extract 0 m ++ u ++ s.extract ((m : Int) + (o : Int)).toNat s.size)) rfl (by kernel_rfl) (by kernel_rfl) (by kernel_rfl) (by kernel_rfl) (fun _ _ _ h => h) (Or.inl ⟨by kernel_rfl, fun X hS => by clear hS; go_simp⟩) trivial ?_
    try go_simp
    refine wpAnyT_drop _ 15 _ _ _ (by decide) (by kernel_rfl) ?_
    change wpList _ _ _ [] _ _
    go_wp2
    go_ret
    exact ⟨_, rfl, Nat.zero_le _, by simp [ByteArray.size_append, ByteArray.size_extract]; omega, HB.out⟩
set_option maxHeartbeats 4000000 in
theorem DrawFormatInstance_any (v0 : Value) (xs0 : List Int) (w : World) (h : SB w v0 xs0) : Calls Tryd.prog 11 #[v0] w fun e w' => ∃ (x y : ByteArray) (t : Value) (ns : List BB), e = .returned (.agg #[.string x, .string y, t]) ∧ IRows w' w.heap.size x y t ns ∧ Below w.heap.size w w' := by
  go_enter Tryd.func11, Tryd.ntmps11
  go_wp2_with fail
  have hb0 : Below w.heap.size w (w.alloc (.cells #[.string ⟨#[]⟩, .string ⟨#[]⟩, .slice none 0 0] 28)) := (Below.refl _ _).alloc (Nat.le_refl _) _
  have HB := hid hb0
  have HZ : Hid ((w.alloc (.cells #[.string ⟨#[]⟩, .string ⟨#[]⟩, .slice none 0 0] 28)).heap[w.heap.size]? = some (.cells #[.string ⟨#[]⟩, .string ⟨#[]⟩, .slice none 0 0] 28 (0, 0))) := heap_alloc_new _ _
  have HS : Hid (SB (w.alloc (.cells #[.string ⟨#[]⟩, .string ⟨#[]⟩, .slice none 0 0] 28)) v0 xs0) := h.below hb0
  clear hb0
  generalize (w.alloc (.cells #[.string ⟨#[]⟩, .string ⟨#[]⟩, .slice none 0 0] 28)) = w0 at *
  refine (DrawInstanceValid_any v0 xs0 w0 HS.out).mono ?_
  rintro e w1 ⟨v, u, cs, is, x, y, t, ns, rfl, hw, hi, hb⟩
  have hz := HB.out.size
  replace HB : Hid (Below w.heap.size w w1) := HB.out.trans (hb.mono hz)
  replace HZ := hid (below_heap hb (lt_of_heap HZ.out) HZ.out)
  obtain ⟨hv, hu, -, -, -, -⟩ := hw
  obtain ⟨hn, hx, hy, hn1, hn2⟩ := hi
  obtain ⟨va, vc, rfl⟩ := row_slice hv
  obtain ⟨ua, uc, rfl⟩ := ir_slice hu
  obtain ⟨ta, tc, rfl⟩ := row_slice hn
  have HT : Hid (w1.ownsRow w.heap.size 25 2 (.slice ta ns.length tc) ns.length (flat ns)) := row_mono hn hz
  have HN2 := hid hn2
  clear hv hu hn hn2 hb HS h hz
  have hz1 := HB.out.size
  obtain ⟨r0, r1, r2, z0, z1, z2⟩ := PIn.k3 HZ.out
  have hlr := lt_of_heap HZ.out
  go_wp2
  have hg := set3_boxR w1 w.heap.size (.string x) (.string y) (.slice ta ns.length tc)
  have hbA : Below (((w1.setCell ⟨w.heap.size, 0, none⟩ (.string x)).setCell ⟨w.heap.size, 1, none⟩ (.string y)).setCell ⟨w.heap.size, 2, none⟩ (.slice ta ns.length tc)).heap.size (((w1.setCell ⟨w.heap.size, 0, none⟩ (.string x)).setCell ⟨w.heap.size, 1, none⟩ (.string y)).setCell ⟨w.heap.size, 2, none⟩ (.slice ta ns.length tc)) (((((w1.setCell ⟨w.heap.size, 0, none⟩ (.string x)).setCell ⟨w.heap.size, 1, none⟩ (.string y)).setCell ⟨w.heap.size, 2, none⟩ (.slice ta ns.length tc)).alloc (.cells #[.slice va cs.length vc, .slice ua is.length uc] 42)).alloc (.cells #[.string x, .string y, .slice ta ns.length tc] 28)) := ((Below.refl _ _).alloc (Nat.le_refl _) _).alloc (by simp) _
  refine bodyPost_ret (results_cell_row rfl _ _ w.heap.size 28 #[.string x, .string y, .slice ta ns.length tc] (0, 0) _ rfl (hb_alloc (hb_alloc (heap_set (heap_set (heap_set HZ.out 0 _) 1 _) 2 _) _) _) Tryd.underlying28 rfl (by kernel_rfl)) rfl ?_
  exact ⟨x, y, .slice ta ns.length tc, ns, rfl, ⟨row_below hbA (row_boxR HZ.out HT.out (by decide) hg), hx, hy, hn1, HN2.out⟩, ((((HB.out.setCell (Nat.le_refl _) _).setCell (Nat.le_refl _) _).setCell (Nat.le_refl _) _).alloc (by simp; omega) _).alloc (by simp; omega) _⟩
end Draw
end Go.Proofs.YtbdnhcfebgkpdaaDoor
set_option linter.unusedVariables false
set_option linter.unusedSimpArgs false
set_option maxRecDepth 100000
namespace Go.Proofs.YtbdnhcfebgkpdaaDoor
open Go.RowKit ListS IRow PWo Draw
namespace InsC
set_option maxHeartbeats 8000000 in
theorem inNeeds_same (v v2 : Value) (xs : List BB) (w : World) (b1 b2 : Nat) (hn : xs.length ≤ 1099511627776) (h1 : w.ownsRow b1 25 2 v xs.length (flat xs)) (h2 : w.ownsRow b2 25 2 v2 xs.length (flat xs)) :
    Calls Tryd.prog 40 #[v, v2] w fun e w' => e = .returned (.bool true) ∧ Below w.heap.size w w' := by
  have R1 := hid h1
  have R2 := hid h2
  obtain ⟨a1, c1, rfl⟩ := row_slice h1
  obtain ⟨a2, c2, rfl⟩ := row_slice h2
  have HB : Hid (Below w.heap.size w w) := Below.refl _ _
  clear h1 h2
  go_enter Tryd.func40, Tryd.ntmps40
  go_wp2_with fail
  go_loopg [11] xs.length (fun q i wr => ∃ k : Nat, k ≤ xs.length ∧ xs.length - k ≤ q ∧ i = .int .i64 k ∧ Hid (Below w.heap.size w wr) ∧ Hid (wr.ownsRow b1 25 2 (.slice a1 xs.length c1) xs.length (flat xs)) ∧ Hid (wr.ownsRow b2 25 2 (.slice a2 xs.length c2) xs.length (flat xs)))
  case atStart => exact ⟨0, Nat.zero_le _, by simp, rfl, HB.out, R1.out, R2.out⟩
  case round =>
    clear HB R1 R2
    obtain ⟨k, hk, hq, rfl, hHB, hR1, hR2⟩ := hrel
    have HB := hid hHB.out
    have R1 := hid hR1.out
    have R2 := hid hR2.out
    clear hHB hR1 hR2
    by_cases hlt : k < xs.length
    · obtain ⟨⟨x, y⟩, hp⟩ : ∃ p, xs[k]? = some p := ⟨_, List.getElem?_eq_getElem hlt⟩
      obtain ⟨q0, q1⟩ := flat_get xs k _ hp
      obtain ⟨g1, rfl⟩ := row_some R1.out (by omega)
      obtain ⟨g2, rfl⟩ := row_some R2.out (by omega)
      have Q0 := hid q0
      have Q1 := hid q1
      clear hp q0 q1
      go_wp2_with fail
      refine wp_region_any (by kernel_rfl) ?_
      change wpAny _ _ _ _ _ _ _ (World.drew _)
      have hb : Below wr.heap.size wr wr.drew := (Below.refl _ _).drew
      replace HB : Hid (Below w.heap.size w wr.drew) := HB.out.trans (hb.mono HB.out.size)
      replace R1 : Hid (wr.drew.ownsRow b1 25 2 (.slice (some ⟨g1, 0, none⟩) xs.length c1) xs.length (flat xs)) := row_below hb R1.out
      replace R2 : Hid (wr.drew.ownsRow b2 25 2 (.slice (some ⟨g2, 0, none⟩) xs.length c2) xs.length (flat xs)) := row_below hb R2.out
      clear hb
      generalize wr.drew = w1 at *
      refine wpAny_of_T (S := fun X => X.ownsRow b1 25 2 (.slice (some ⟨g1, 0, none⟩) xs.length c1) xs.length (flat xs) ∧ X.ownsRow b2 25 2 (.slice (some ⟨g2, 0, none⟩) xs.length c2) xs.length (flat xs)) (m := 9) _ _ _ _ ?_
      refine wpAnyT_take (i := 0) (v := .slice (some ⟨g1, 0, none⟩) xs.length c1) rfl (by kernel_rfl) (by kernel_rfl) (by kernel_rfl) (by kernel_rfl) (fun _ _ _ h => h) (Or.inl ⟨by kernel_rfl, fun X hS => by obtain ⟨e0, e1⟩ := hS; go_simp⟩) ⟨R1.out, R2.out⟩ ?_
      try go_simp
      refine wpAnyT_take (i := 1) (v := .int .i64 k) rfl (by kernel_rfl) (by kernel_rfl) (by kernel_rfl) (by kernel_rfl) (fun _ _ _ h => h) (Or.inl ⟨by kernel_rfl, fun X hS => by obtain ⟨e0, e1⟩ := hS; go_simp⟩) ⟨R1.out, R2.out⟩ ?_
      try go_simp
      refine wpAnyT_take (i := 2) (v := .pointer (some ⟨g1, k * 2, none⟩)) rfl (by kernel_rfl) (by kernel_rfl) (by kernel_rfl) (by kernel_rfl) (fun _ _ _ h => h) (Or.inl ⟨by kernel_rfl, fun X hS => by obtain ⟨e0, e1⟩ := hS; go_simp⟩) ⟨R1.out, R2.out⟩ ?_
      try go_simp
      refine wpAnyT_take (i := 3) (v := .agg #[.string x, .string y]) rfl (by kernel_rfl) (by kernel_rfl) (by kernel_rfl) (by kernel_rfl) (fun _ _ _ h => h) (Or.inl ⟨by kernel_rfl, fun X hS => by obtain ⟨e0, e1⟩ := hS; have u0 := row_cell e0 _ Q0.out; have u1 := row_cell e0 _ Q1.out; go_simp⟩) ⟨R1.out, R2.out⟩ ?_
      try go_simp
      refine wpAnyT_take (i := 4) (v := .slice (some ⟨g2, 0, none⟩) xs.length c2) rfl (by kernel_rfl) (by kernel_rfl) (by kernel_rfl) (by kernel_rfl) (fun _ _ _ h => h) (Or.inl ⟨by kernel_rfl, fun X hS => by obtain ⟨e0, e1⟩ := hS; go_simp⟩) ⟨R1.out, R2.out⟩ ?_
      try go_simp
      refine wpAnyT_take (i := 5) (v := .int .i64 k) rfl (by kernel_rfl) (by kernel_rfl) (by kernel_rfl) (by kernel_rfl) (fun _ _ _ h => h) (Or.inl ⟨by kernel_rfl, fun X hS => by obtain ⟨e0, e1⟩ := hS; go_simp⟩) ⟨R1.out, R2.out⟩ ?_
      try go_simp
      refine wpAnyT_take (i := 6) (v := .pointer (some ⟨g2, k * 2, none⟩)) rfl (by kernel_rfl) (by kernel_rfl) (by kernel_rfl) (by kernel_rfl) (fun _ _ _ h => h) (Or.inl ⟨by kernel_rfl, fun X hS => by obtain ⟨e0, e1⟩ := hS; go_simp⟩) ⟨R1.out, R2.out⟩ ?_
      try go_simp
      refine wpAnyT_take (i := 7) (v := .agg #[.string x, .string y]) rfl (by kernel_rfl) (by kernel_rfl) (by kernel_rfl) (by kernel_rfl) (fun _ _ _ h => h) (Or.inl ⟨by kernel_rfl, fun X hS => by obtain ⟨e0, e1⟩ := hS; have u0 := row_cell e1 _ Q0.out; have u1 := row_cell e1 _ Q1.out; go_simp⟩) ⟨R1.out, R2.out⟩ ?_
      try go_simp
      refine wpAnyT_take (i := 8) (v := .bool false) rfl (by kernel_rfl) (by kernel_rfl) (by kernel_rfl) (by kernel_rfl) (fun _ _ _ h => h) (Or.inl ⟨by kernel_rfl, fun X hS => by obtain ⟨e0, e1⟩ := hS; go_simp⟩) ⟨R1.out, R2.out⟩ ?_
      try go_simp
      refine wpAnyT_drop _ 9 _ _ _ (by decide) (by kernel_rfl) ?_
      change wpList _ _ _ [] _ _
      go_wp2_with fail
      go_roundg (xs.length - (k + 1))
      case measure => omega
      case rel => exact ⟨k + 1, by omega, by omega, by go_num, HB.out, R1.out, R2.out⟩
    · have hke : k = xs.length := by omega
      subst hke
      go_wp2
      go_ret
      exact ⟨rfl, HB.out⟩
set_option maxHeartbeats 8000000 in
theorem inInstance_same (x y : ByteArray) (v v2 : Value) (xs : List BB) (w : World) (b1 b2 : Nat) (hn : xs.length ≤ 1099511627776) (h1 : w.ownsRow b1 25 2 v xs.length (flat xs)) (h2 : w.ownsRow b2 25 2 v2 xs.length (flat xs)) :
    Calls Tryd.prog 12 #[.agg #[.string x, .string y, v], .agg #[.string x, .string y, v2]] w fun e w' => e = .returned (.bool true) ∧ Below w.heap.size w w' := by
  have R1 := hid h1
  have R2 := hid h2
  obtain ⟨a1, c1, rfl⟩ := row_slice h1
  obtain ⟨a2, c2, rfl⟩ := row_slice h2
  have HB : Hid (Below w.heap.size w w) := Below.refl _ _
  clear h1 h2
  go_enter Tryd.func12, Tryd.ntmps12
  have hb : Below w.heap.size w ((w.alloc (.cells #[.string x, .string y, .slice a1 xs.length c1] 28)).alloc (.cells #[.string x, .string y, .slice a2 xs.length c2] 28)) := ((Below.refl _ _).alloc (by simp; try omega) _).alloc (by simp; try omega) _
  replace HB : Hid (Below w.heap.size w ((w.alloc (.cells #[.string x, .string y, .slice a1 xs.length c1] 28)).alloc (.cells #[.string x, .string y, .slice a2 xs.length c2] 28))) := HB.out.trans (hb.mono HB.out.size)
  replace R1 : Hid (((w.alloc (.cells #[.string x, .string y, .slice a1 xs.length c1] 28)).alloc (.cells #[.string x, .string y, .slice a2 xs.length c2] 28)).ownsRow b1 25 2 (.slice a1 xs.length c1) xs.length (flat xs)) := row_below hb R1.out
  replace R2 : Hid (((w.alloc (.cells #[.string x, .string y, .slice a1 xs.length c1] 28)).alloc (.cells #[.string x, .string y, .slice a2 xs.length c2] 28)).ownsRow b2 25 2 (.slice a2 xs.length c2) xs.length (flat xs)) := row_below hb R2.out
  clear hb
  have X1 : Hid (((w.alloc (.cells #[.string x, .string y, .slice a1 xs.length c1] 28)).alloc (.cells #[.string x, .string y, .slice a2 xs.length c2] 28)).heap[w.heap.size]? = some (.cells #[.string x, .string y, .slice a1 xs.length c1] 28 (0, 0))) := hb_alloc (hb_newk (by simp; try omega)) _
  have X2 : Hid (((w.alloc (.cells #[.string x, .string y, .slice a1 xs.length c1] 28)).alloc (.cells #[.string x, .string y, .slice a2 xs.length c2] 28)).heap[w.heap.size + 1]? = some (.cells #[.string x, .string y, .slice a2 xs.length c2] 28 (0, 0))) := hb_newk (by simp; try omega)
  go_wp2_with fail
  generalize ((w.alloc (.cells #[.string x, .string y, .slice a1 xs.length c1] 28)).alloc (.cells #[.string x, .string y, .slice a2 xs.length c2] 28)) = w1 at *
  refine (inNeeds_same _ _ xs w1 b1 b2 hn R1.out R2.out).mono ?_
  rintro e w2 ⟨rfl, hb⟩
  replace HB : Hid (Below w.heap.size w w2) := HB.out.trans (hb.mono HB.out.size)
  replace R1 : Hid (w2.ownsRow b1 25 2 (.slice a1 xs.length c1) xs.length (flat xs)) := row_below hb R1.out
  replace R2 : Hid (w2.ownsRow b2 25 2 (.slice a2 xs.length c2) xs.length (flat xs)) := row_below hb R2.out
  replace X1 : Hid (w2.heap[w.heap.size]? = some (.cells #[.string x, .string y, .slice a1 xs.length c1] 28 (0, 0))) := below_heap hb (lt_of_heap X1.out) X1.out
  replace X2 : Hid (w2.heap[w.heap.size + 1]? = some (.cells #[.string x, .string y, .slice a2 xs.length c2] 28 (0, 0))) := below_heap hb (lt_of_heap X2.out) X2.out
  clear hb
  go_wp2
  go_ret
  exact ⟨rfl, HB.out⟩
set_option maxHeartbeats 8000000 in
theorem inWorld_same (v u v2 u2 : Value) (cs : List BB) (is : List II) (w : World) (b1 b2 : Nat) (hc : cs.length ≤ 1048577) (hi : is.length ≤ 1048577) (ht : itot is ≤ 1048577) (h1 : w.ownsRow b1 69 2 v cs.length (flat cs)) (h2 : IR w b1 u is) (h3 : w.ownsRow b2 69 2 v2 cs.length (flat cs)) (h4 : IR w b2 u2 is) :
    Calls Tryd.prog 24 #[.agg #[v, u], .agg #[v2, u2]] w fun e w' => e = .returned (.bool true) ∧ Below w.heap.size w w' := by
  obtain ⟨va, vc, rfl⟩ := row_slice h1
  obtain ⟨va2, vc2, rfl⟩ := row_slice h3
  obtain ⟨ua, uc, rfl⟩ := ir_slice h2
  obtain ⟨ua2, uc2, rfl⟩ := ir_slice h4
  obtain ⟨vs1, hi1, hs1⟩ := h2
  obtain ⟨vs2, hi2, hs2⟩ := h4
  have V1 := hid h1
  have V2 := hid h3
  have I1 := hid hi1
  have I2 := hid hi2
  have S1 := hid hs1
  have S2 := hid hs2
  have HT := hid ht
  have HB : Hid (Below w.heap.size w w) := Below.refl _ _
  clear h1 h3 hi1 hi2 hs1 hs2 ht
  go_enter Tryd.func24, Tryd.ntmps24
  have hb : Below w.heap.size w ((w.alloc (.cells #[.slice va cs.length vc, .slice ua is.length uc] 42)).alloc (.cells #[.slice va2 cs.length vc2, .slice ua2 is.length uc2] 42)) := ((Below.refl _ _).alloc (by simp; try omega) _).alloc (by simp; try omega) _
  replace HB : Hid (Below w.heap.size w ((w.alloc (.cells #[.slice va cs.length vc, .slice ua is.length uc] 42)).alloc (.cells #[.slice va2 cs.length vc2, .slice ua2 is.length uc2] 42))) := HB.out.trans (hb.mono HB.out.size)
  replace V1 : Hid (((w.alloc (.cells #[.slice va cs.length vc, .slice ua is.length uc] 42)).alloc (.cells #[.slice va2 cs.length vc2, .slice ua2 is.length uc2] 42)).ownsRow b1 69 2 (.slice va cs.length vc) cs.length (flat cs)) := row_below hb V1.out
  replace I1 : Hid (((w.alloc (.cells #[.slice va cs.length vc, .slice ua is.length uc] 42)).alloc (.cells #[.slice va2 cs.length vc2, .slice ua2 is.length uc2] 42)).ownsRow b1 28 3 (.slice ua is.length uc) is.length (flatI is vs1)) := row_below hb I1.out
  replace S1 : Hid (IRow.Rows ((w.alloc (.cells #[.slice va cs.length vc, .slice ua is.length uc] 42)).alloc (.cells #[.slice va2 cs.length vc2, .slice ua2 is.length uc2] 42)) b1 is vs1) := S1.out.below hb
  replace V2 : Hid (((w.alloc (.cells #[.slice va cs.length vc, .slice ua is.length uc] 42)).alloc (.cells #[.slice va2 cs.length vc2, .slice ua2 is.length uc2] 42)).ownsRow b2 69 2 (.slice va2 cs.length vc2) cs.length (flat cs)) := row_below hb V2.out
  replace I2 : Hid (((w.alloc (.cells #[.slice va cs.length vc, .slice ua is.length uc] 42)).alloc (.cells #[.slice va2 cs.length vc2, .slice ua2 is.length uc2] 42)).ownsRow b2 28 3 (.slice ua2 is.length uc2) is.length (flatI is vs2)) := row_below hb I2.out
  replace S2 : Hid (IRow.Rows ((w.alloc (.cells #[.slice va cs.length vc, .slice ua is.length uc] 42)).alloc (.cells #[.slice va2 cs.length vc2, .slice ua2 is.length uc2] 42)) b2 is vs2) := S2.out.below hb
  clear hb
  have X1 : Hid (((w.alloc (.cells #[.slice va cs.length vc, .slice ua is.length uc] 42)).alloc (.cells #[.slice va2 cs.length vc2, .slice ua2 is.length uc2] 42)).heap[w.heap.size]? = some (.cells #[.slice va cs.length vc, .slice ua is.length uc] 42 (0, 0))) := hb_alloc (hb_newk (by simp; try omega)) _
  have X2 : Hid (((w.alloc (.cells #[.slice va cs.length vc, .slice ua is.length uc] 42)).alloc (.cells #[.slice va2 cs.length vc2, .slice ua2 is.length uc2] 42)).heap[w.heap.size + 1]? = some (.cells #[.slice va2 cs.length vc2, .slice ua2 is.length uc2] 42 (0, 0))) := hb_newk (by simp; try omega)
  go_wp2_with fail
  generalize ((w.alloc (.cells #[.slice va cs.length vc, .slice ua is.length uc] 42)).alloc (.cells #[.slice va2 cs.length vc2, .slice ua2 is.length uc2] 42)) = w1 at *
  go_loopg [14] cs.length (fun q i wr => ∃ k : Nat, k ≤ cs.length ∧ cs.length - k ≤ q ∧ i = .int .i64 k ∧ Hid (Below w.heap.size w wr) ∧ Hid (wr.ownsRow b1 69 2 (.slice va cs.length vc) cs.length (flat cs)) ∧ Hid (wr.ownsRow b1 28 3 (.slice ua is.length uc) is.length (flatI is vs1)) ∧ Hid (IRow.Rows wr b1 is vs1) ∧ Hid (wr.ownsRow b2 69 2 (.slice va2 cs.length vc2) cs.length (flat cs)) ∧ Hid (wr.ownsRow b2 28 3 (.slice ua2 is.length uc2) is.length (flatI is vs2)) ∧ Hid (IRow.Rows wr b2 is vs2) ∧ Hid (wr.heap[w.heap.size]? = some (.cells #[.slice va cs.length vc, .slice ua is.length uc] 42 (0, 0))) ∧ Hid (wr.heap[w.heap.size + 1]? = some (.cells #[.slice va2 cs.length vc2, .slice ua2 is.length uc2] 42 (0, 0))))
  case atStart => exact ⟨0, Nat.zero_le _, by simp, rfl, HB.out, V1.out, I1.out, S1.out, V2.out, I2.out, S2.out, X1.out, X2.out⟩
  case round =>
    clear HB V1 I1 S1 V2 I2 S2 X1 X2
    obtain ⟨k, hk, hq, rfl, hHB, hV1, hI1, hS1, hV2, hI2, hS2, hX1, hX2⟩ := hrel
    have HB := hid hHB.out
    have V1 := hid hV1.out
    have I1 := hid hI1.out
    have S1 := hid hS1.out
    have V2 := hid hV2.out
    have I2 := hid hI2.out
    have S2 := hid hS2.out
    have X1 := hid hX1.out
    have X2 := hid hX2.out
    clear hHB hV1 hI1 hS1 hV2 hI2 hS2 hX1 hX2
    by_cases hlt : k < cs.length
    · obtain ⟨⟨x, y⟩, hp⟩ : ∃ p, cs[k]? = some p := ⟨_, List.getElem?_eq_getElem hlt⟩
      obtain ⟨q0, q1⟩ := flat_get cs k _ hp
      obtain ⟨g1, rfl⟩ := row_some V1.out (by omega)
      obtain ⟨g2, rfl⟩ := row_some V2.out (by omega)
      have Q0 := hid q0
      have Q1 := hid q1
      clear hp q0 q1
      go_wp2_with fail
      refine wp_region_any (by kernel_rfl) ?_
      change wpAny _ _ _ _ _ _ _ (World.drew _)
      have hb : Below wr.heap.size wr wr.drew := (Below.refl _ _).drew
      replace HB : Hid (Below w.heap.size w wr.drew) := HB.out.trans (hb.mono HB.out.size)
      replace V1 : Hid (wr.drew.ownsRow b1 69 2 (.slice (some ⟨g1, 0, none⟩) cs.length vc) cs.length (flat cs)) := row_below hb V1.out
      replace I1 : Hid (wr.drew.ownsRow b1 28 3 (.slice ua is.length uc) is.length (flatI is vs1)) := row_below hb I1.out
      replace S1 : Hid (IRow.Rows wr.drew b1 is vs1) := S1.out.below hb
      replace V2 : Hid (wr.drew.ownsRow b2 69 2 (.slice (some ⟨g2, 0, none⟩) cs.length vc2) cs.length (flat cs)) := row_below hb V2.out
      replace I2 : Hid (wr.drew.ownsRow b2 28 3 (.slice ua2 is.length uc2) is.length (flatI is vs2)) := row_below hb I2.out
      replace S2 : Hid (IRow.Rows wr.drew b2 is vs2) := S2.out.below hb
      replace X1 : Hid (wr.drew.heap[w.heap.size]? = some (.cells #[.slice (some ⟨g1, 0, none⟩) cs.length vc, .slice ua is.length uc] 42 (0, 0))) := below_heap hb (lt_of_heap X1.out) X1.out
      replace X2 : Hid (wr.drew.heap[w.heap.size + 1]? = some (.cells #[.slice (some ⟨g2, 0, none⟩) cs.length vc2, .slice ua2 is.length uc2] 42 (0, 0))) := below_heap hb (lt_of_heap X2.out) X2.out
      clear hb
      generalize wr.drew = w2 at *
      refine wpAny_of_T (S := fun X => X.cell? ⟨w.heap.size, 0, none⟩ = some (.slice (some ⟨g1, 0, none⟩) cs.length vc) ∧ X.cell? ⟨w.heap.size + 1, 0, none⟩ = some (.slice (some ⟨g2, 0, none⟩) cs.length vc2) ∧ X.ownsRow b1 69 2 (.slice (some ⟨g1, 0, none⟩) cs.length vc) cs.length (flat cs) ∧ X.ownsRow b2 69 2 (.slice (some ⟨g2, 0, none⟩) cs.length vc2) cs.length (flat cs)) (m := 11) _ _ _ _ ?_
      refine wpAnyT_take (i := 0) (v := .pointer (some ⟨w.heap.size, 0, none⟩)) rfl (by kernel_rfl) (by kernel_rfl) (by kernel_rfl) (by kernel_rfl) (fun _ _ _ h => h) (Or.inl ⟨by kernel_rfl, fun X hS => by obtain ⟨e0, e1, e2, e3⟩ := hS; go_simp⟩) ⟨heap_cell X1.out 0, heap_cell X2.out 0, V1.out, V2.out⟩ ?_
      try go_simp
      refine wpAnyT_take (i := 1) (v := .slice (some ⟨g1, 0, none⟩) cs.length vc) rfl (by kernel_rfl) (by kernel_rfl) (by kernel_rfl) (by kernel_rfl) (fun _ _ _ h => h) (Or.inl ⟨by kernel_rfl, fun X hS => by obtain ⟨e0, e1, e2, e3⟩ := hS; go_simp⟩) ⟨heap_cell X1.out 0, heap_cell X2.out 0, V1.out, V2.out⟩ ?_
      try go_simp
      refine wpAnyT_take (i := 2) (v := .int .i64 k) rfl (by kernel_rfl) (by kernel_rfl) (by kernel_rfl) (by kernel_rfl) (fun _ _ _ h => h) (Or.inl ⟨by kernel_rfl, fun X hS => by obtain ⟨e0, e1, e2, e3⟩ := hS; go_simp⟩) ⟨heap_cell X1.out 0, heap_cell X2.out 0, V1.out, V2.out⟩ ?_
      try go_simp
      refine wpAnyT_take (i := 3) (v := .pointer (some ⟨g1, k * 2, none⟩)) rfl (by kernel_rfl) (by kernel_rfl) (by kernel_rfl) (by kernel_rfl) (fun _ _ _ h => h) (Or.inl ⟨by kernel_rfl, fun X hS => by obtain ⟨e0, e1, e2, e3⟩ := hS; go_simp⟩) ⟨heap_cell X1.out 0, heap_cell X2.out 0, V1.out, V2.out⟩ ?_
      try go_simp
      refine wpAnyT_take (i := 4) (v := .agg #[.string x, .string y]) rfl (by kernel_rfl) (by kernel_rfl) (by kernel_rfl) (by kernel_rfl) (fun _ _ _ h => h) (Or.inl ⟨by kernel_rfl, fun X hS => by obtain ⟨e0, e1, e2, e3⟩ := hS; have u0 := row_cell e2 _ Q0.out; have u1 := row_cell e2 _ Q1.out; go_simp⟩) ⟨heap_cell X1.out 0, heap_cell X2.out 0, V1.out, V2.out⟩ ?_
      try go_simp
      refine wpAnyT_take (i := 5) (v := .pointer (some ⟨w.heap.size + 1, 0, none⟩)) rfl (by kernel_rfl) (by kernel_rfl) (by kernel_rfl) (by kernel_rfl) (fun _ _ _ h => h) (Or.inl ⟨by kernel_rfl, fun X hS => by obtain ⟨e0, e1, e2, e3⟩ := hS; go_simp⟩) ⟨heap_cell X1.out 0, heap_cell X2.out 0, V1.out, V2.out⟩ ?_
      try go_simp
      refine wpAnyT_take (i := 6) (v := .slice (some ⟨g2, 0, none⟩) cs.length vc2) rfl (by kernel_rfl) (by kernel_rfl) (by kernel_rfl) (by kernel_rfl) (fun _ _ _ h => h) (Or.inl ⟨by kernel_rfl, fun X hS => by obtain ⟨e0, e1, e2, e3⟩ := hS; go_simp⟩) ⟨heap_cell X1.out 0, heap_cell X2.out 0, V1.out, V2.out⟩ ?_
      try go_simp
      refine wpAnyT_take (i := 7) (v := .int .i64 k) rfl (by kernel_rfl) (by kernel_rfl) (by kernel_rfl) (by kernel_rfl) (fun _ _ _ h => h) (Or.inl ⟨by kernel_rfl, fun X hS => by obtain ⟨e0, e1, e2, e3⟩ := hS; go_simp⟩) ⟨heap_cell X1.out 0, heap_cell X2.out 0, V1.out, V2.out⟩ ?_
      try go_simp
      refine wpAnyT_take (i := 8) (v := .pointer (some ⟨g2, k * 2, none⟩)) rfl (by kernel_rfl) (by kernel_rfl) (by kernel_rfl) (by kernel_rfl) (fun _ _ _ h => h) (Or.inl ⟨by kernel_rfl, fun X hS => by obtain ⟨e0, e1, e2, e3⟩ := hS; go_simp⟩) ⟨heap_cell X1.out 0, heap_cell X2.out 0, V1.out, V2.out⟩ ?_
      try go_simp
      refine wpAnyT_take (i := 9) (v := .agg #[.string x, .string y]) rfl (by kernel_rfl) (by kernel_rfl) (by kernel_rfl) (by kernel_rfl) (fun _ _ _ h => h) (Or.inl ⟨by kernel_rfl, fun X hS => by obtain ⟨e0, e1, e2, e3⟩ := hS; have u0 := row_cell e3 _ Q0.out; have u1 := row_cell e3 _ Q1.out; go_simp⟩) ⟨heap_cell X1.out 0, heap_cell X2.out 0, V1.out, V2.out⟩ ?_
      try go_simp
      refine wpAnyT_take (i := 10) (v := .bool false) rfl (by kernel_rfl) (by kernel_rfl) (by kernel_rfl) (by kernel_rfl) (fun _ _ _ h => h) (Or.inl ⟨by kernel_rfl, fun X hS => by obtain ⟨e0, e1, e2, e3⟩ := hS; go_simp⟩) ⟨heap_cell X1.out 0, heap_cell X2.out 0, V1.out, V2.out⟩ ?_
      try go_simp
      refine wpAnyT_drop _ 11 _ _ _ (by decide) (by kernel_rfl) ?_
      change wpList _ _ _ [] _ _
      go_wp2_with fail
      go_roundg (cs.length - (k + 1))
      case measure => omega
      case rel => exact ⟨k + 1, by omega, by omega, by go_num, HB.out, V1.out, I1.out, S1.out, V2.out, I2.out, S2.out, X1.out, X2.out⟩
    · have hke : k = cs.length := by omega
      subst hke
      clear hk hq hlt
      obtain ⟨i0, i1, f0, f1⟩ := PWo.k2 X1.out
      obtain ⟨j0, j1, y0, y1⟩ := PWo.k2 X2.out
      have hl1 := lt_of_heap X1.out
      have hl2 := lt_of_heap X2.out
      go_wp2_with fail
      clear i0 i1 f0 f1 j0 j1 y0 y1 hl1 hl2
      go_loopg [36] is.length (fun q i wr => ∃ k : Nat, k ≤ is.length ∧ is.length - k ≤ q ∧ i = .int .i64 k ∧ Hid (Below w.heap.size w wr) ∧ Hid (wr.ownsRow b1 69 2 (.slice va cs.length vc) cs.length (flat cs)) ∧ Hid (wr.ownsRow b1 28 3 (.slice ua is.length uc) is.length (flatI is vs1)) ∧ Hid (IRow.Rows wr b1 is vs1) ∧ Hid (wr.ownsRow b2 69 2 (.slice va2 cs.length vc2) cs.length (flat cs)) ∧ Hid (wr.ownsRow b2 28 3 (.slice ua2 is.length uc2) is.length (flatI is vs2)) ∧ Hid (IRow.Rows wr b2 is vs2) ∧ Hid (wr.heap[w.heap.size]? = some (.cells #[.slice va cs.length vc, .slice ua is.length uc] 42 (0, 0))) ∧ Hid (wr.heap[w.heap.size + 1]? = some (.cells #[.slice va2 cs.length vc2, .slice ua2 is.length uc2] 42 (0, 0))))
      case atStart => exact ⟨0, Nat.zero_le _, by simp, rfl, HB.out, V1.out, I1.out, S1.out, V2.out, I2.out, S2.out, X1.out, X2.out⟩
      case round =>
        clear HB V1 I1 S1 V2 I2 S2 X1 X2
        obtain ⟨k, hk, hq, rfl, hHB, hV1, hI1, hS1, hV2, hI2, hS2, hX1, hX2⟩ := hrel
        have HB := hid hHB.out
        have V1 := hid hV1.out
        have I1 := hid hI1.out
        have S1 := hid hS1.out
        have V2 := hid hV2.out
        have I2 := hid hI2.out
        have S2 := hid hS2.out
        have X1 := hid hX1.out
        have X2 := hid hX2.out
        clear hHB hV1 hI1 hS1 hV2 hI2 hS2 hX1 hX2
        by_cases hlt : k < is.length
        · obtain ⟨⟨x, y, ns⟩, hp⟩ : ∃ p, is[k]? = some p := ⟨_, List.getElem?_eq_getElem hlt⟩
          obtain ⟨p1, hp1⟩ : ∃ u, vs1[k]? = some u := ⟨_, List.getElem?_eq_getElem (by have := S1.out.1; omega)⟩
          obtain ⟨p2, hp2⟩ : ∃ u, vs2[k]? = some u := ⟨_, List.getElem?_eq_getElem (by have := S2.out.1; omega)⟩
          obtain ⟨q0, q1, q2⟩ := flatI_get is vs1 k _ _ S1.out.1 hp hp1
          obtain ⟨z0, z1, z2⟩ := flatI_get is vs2 k _ _ S2.out.1 hp hp2
          have N1 := hid (S1.out.2.1 k _ _ hp hp1)
          have N2 := hid (S2.out.2.1 k _ _ hp hp2)
          obtain ⟨na1, nc1, rfl⟩ := row_slice N1.out
          obtain ⟨na2, nc2, rfl⟩ := row_slice N2.out
          have hnl : ns.length ≤ 1048577 := lens_of HT.out k _ hp
          obtain ⟨g1, rfl⟩ := row_some I1.out (by omega)
          obtain ⟨g2, rfl⟩ := row_some I2.out (by omega)
          have Q0 := hid q0
          have Q1 := hid q1
          have Q2 := hid q2
          have Z0 := hid z0
          have Z1 := hid z1
          have Z2 := hid z2
          clear hp hp1 hp2 q0 q1 q2 z0 z1 z2
          go_wp2_with fail
          refine wp_region_any (by kernel_rfl) ?_
          change wpAny _ _ _ _ _ _ _ (World.drew _)
          have hb : Below wr.heap.size wr wr.drew := (Below.refl _ _).drew
          replace HB : Hid (Below w.heap.size w wr.drew) := HB.out.trans (hb.mono HB.out.size)
          replace V1 : Hid (wr.drew.ownsRow b1 69 2 (.slice va cs.length vc) cs.length (flat cs)) := row_below hb V1.out
          replace I1 : Hid (wr.drew.ownsRow b1 28 3 (.slice (some ⟨g1, 0, none⟩) is.length uc) is.length (flatI is vs1)) := row_below hb I1.out
          replace S1 : Hid (IRow.Rows wr.drew b1 is vs1) := S1.out.below hb
          replace V2 : Hid (wr.drew.ownsRow b2 69 2 (.slice va2 cs.length vc2) cs.length (flat cs)) := row_below hb V2.out
          replace I2 : Hid (wr.drew.ownsRow b2 28 3 (.slice (some ⟨g2, 0, none⟩) is.length uc2) is.length (flatI is vs2)) := row_below hb I2.out
          replace S2 : Hid (IRow.Rows wr.drew b2 is vs2) := S2.out.below hb
          replace X1 : Hid (wr.drew.heap[w.heap.size]? = some (.cells #[.slice va cs.length vc, .slice (some ⟨g1, 0, none⟩) is.length uc] 42 (0, 0))) := below_heap hb (lt_of_heap X1.out) X1.out
          replace X2 : Hid (wr.drew.heap[w.heap.size + 1]? = some (.cells #[.slice va2 cs.length vc2, .slice (some ⟨g2, 0, none⟩) is.length uc2] 42 (0, 0))) := below_heap hb (lt_of_heap X2.out) X2.out
          replace N1 : Hid (wr.drew.ownsRow b1 25 2 (.slice na1 ns.length nc1) ns.length (flat ns)) := row_below hb N1.out
          replace N2 : Hid (wr.drew.ownsRow b2 25 2 (.slice na2 ns.length nc2) ns.length (flat ns)) := row_below hb N2.out
          clear hb
          generalize wr.drew = w2 at *
          refine wpAny_of_T (S := fun X => X.cell? ⟨w.heap.size, 1, none⟩ = some (.slice (some ⟨g1, 0, none⟩) is.length uc) ∧ X.cell? ⟨w.heap.size + 1, 1, none⟩ = some (.slice (some ⟨g2, 0, none⟩) is.length uc2) ∧ X.ownsRow b1 28 3 (.slice (some ⟨g1, 0, none⟩) is.length uc) is.length (flatI is vs1) ∧ X.ownsRow b2 28 3 (.slice (some ⟨g2, 0, none⟩) is.length uc2) is.length (flatI is vs2)) (m := 12) _ _ _ _ ?_
          refine wpAnyT_take (i := 0) (v := .pointer (some ⟨w.heap.size, 1, none⟩)) rfl (by kernel_rfl) (by kernel_rfl) (by kernel_rfl) (by kernel_rfl) (fun _ _ _ h => h) (Or.inl ⟨by kernel_rfl, fun X hS => by obtain ⟨e0, e1, e2, e3⟩ := hS; go_simp⟩) ⟨heap_cell X1.out 1, heap_cell X2.out 1, I1.out, I2.out⟩ ?_
          try go_simp
          refine wpAnyT_take (i := 1) (v := .slice (some ⟨g1, 0, none⟩) is.length uc) rfl (by kernel_rfl) (by kernel_rfl) (by kernel_rfl) (by kernel_rfl) (fun _ _ _ h => h) (Or.inl ⟨by kernel_rfl, fun X hS => by obtain ⟨e0, e1, e2, e3⟩ := hS; go_simp⟩) ⟨heap_cell X1.out 1, heap_cell X2.out 1, I1.out, I2.out⟩ ?_
          try go_simp
          refine wpAnyT_take (i := 2) (v := .int .i64 k) rfl (by kernel_rfl) (by kernel_rfl) (by kernel_rfl) (by kernel_rfl) (fun _ _ _ h => h) (Or.inl ⟨by kernel_rfl, fun X hS => by obtain ⟨e0, e1, e2, e3⟩ := hS; go_simp⟩) ⟨heap_cell X1.out 1, heap_cell X2.out 1, I1.out, I2.out⟩ ?_
          try go_simp
          refine wpAnyT_take (i := 3) (v := .pointer (some ⟨g1, k * 3, none⟩)) rfl (by kernel_rfl) (by kernel_rfl) (by kernel_rfl) (by kernel_rfl) (fun _ _ _ h => h) (Or.inl ⟨by kernel_rfl, fun X hS => by obtain ⟨e0, e1, e2, e3⟩ := hS; go_simp⟩) ⟨heap_cell X1.out 1, heap_cell X2.out 1, I1.out, I2.out⟩ ?_
          try go_simp
          refine wpAnyT_take (i := 4) (v := .agg #[.string x, .string y, .slice na1 ns.length nc1]) rfl (by kernel_rfl) (by kernel_rfl) (by kernel_rfl) (by kernel_rfl) (fun _ _ _ h => h) (Or.inl ⟨by kernel_rfl, fun X hS => by obtain ⟨e0, e1, e2, e3⟩ := hS; have u0 := row_cell e2 _ Q0.out; have u1 := row_cell e2 _ Q1.out; have u2 := row_cell e2 _ Q2.out; go_simp⟩) ⟨heap_cell X1.out 1, heap_cell X2.out 1, I1.out, I2.out⟩ ?_
          try go_simp
          refine wpAnyT_take (i := 5) (v := .pointer (some ⟨w.heap.size + 1, 1, none⟩)) rfl (by kernel_rfl) (by kernel_rfl) (by kernel_rfl) (by kernel_rfl) (fun _ _ _ h => h) (Or.inl ⟨by kernel_rfl, fun X hS => by obtain ⟨e0, e1, e2, e3⟩ := hS; go_simp⟩) ⟨heap_cell X1.out 1, heap_cell X2.out 1, I1.out, I2.out⟩ ?_
          try go_simp
          refine wpAnyT_take (i := 6) (v := .slice (some ⟨g2, 0, none⟩) is.length uc2) rfl (by kernel_rfl) (by kernel_rfl) (by kernel_rfl) (by kernel_rfl) (fun _ _ _ h => h) (Or.inl ⟨by kernel_rfl, fun X hS => by obtain ⟨e0, e1, e2, e3⟩ := hS; go_simp⟩) ⟨heap_cell X1.out 1, heap_cell X2.out 1, I1.out, I2.out⟩ ?_
          try go_simp
          refine wpAnyT_take (i := 7) (v := .int .i64 k) rfl (by kernel_rfl) (by kernel_rfl) (by kernel_rfl) (by kernel_rfl) (fun _ _ _ h => h) (Or.inl ⟨by kernel_rfl, fun X hS => by obtain ⟨e0, e1, e2, e3⟩ := hS; go_simp⟩) ⟨heap_cell X1.out 1, heap_cell X2.out 1, I1.out, I2.out⟩ ?_
          try go_simp
          refine wpAnyT_take (i := 8) (v := .pointer (some ⟨g2, k * 3, none⟩)) rfl (by kernel_rfl) (by kernel_rfl) (by kernel_rfl) (by kernel_rfl) (fun _ _ _ h => h) (Or.inl ⟨by kernel_rfl, fun X hS => by obtain ⟨e0, e1, e2, e3⟩ := hS; go_simp⟩) ⟨heap_cell X1.out 1, heap_cell X2.out 1, I1.out, I2.out⟩ ?_
          try go_simp
          refine wpAnyT_take (i := 9) (v := .agg #[.string x, .string y, .slice na2 ns.length nc2]) rfl (by kernel_rfl) (by kernel_rfl) (by kernel_rfl) (by kernel_rfl) (fun _ _ _ h => h) (Or.inl ⟨by kernel_rfl, fun X hS => by obtain ⟨e0, e1, e2, e3⟩ := hS; have u0 := row_cell e3 _ Z0.out; have u1 := row_cell e3 _ Z1.out; have u2 := row_cell e3 _ Z2.out; go_simp⟩) ⟨heap_cell X1.out 1, heap_cell X2.out 1, I1.out, I2.out⟩ ?_
          try go_simp
          refine wpAnyT_one 10 rfl (by kernel_rfl) (fun K hK => ?_)
          go_simp
          refine (inInstance_same x y _ _ ns w2 b1 b2 (by omega) N1.out N2.out).mono ?_
          rintro e w3 ⟨rfl, hb⟩
          replace HB : Hid (Below w.heap.size w w3) := HB.out.trans (hb.mono HB.out.size)
          replace V1 : Hid (w3.ownsRow b1 69 2 (.slice va cs.length vc) cs.length (flat cs)) := row_below hb V1.out
          replace I1 : Hid (w3.ownsRow b1 28 3 (.slice (some ⟨g1, 0, none⟩) is.length uc) is.length (flatI is vs1)) := row_below hb I1.out
          replace S1 : Hid (IRow.Rows w3 b1 is vs1) := S1.out.below hb
          replace V2 : Hid (w3.ownsRow b2 69 2 (.slice va2 cs.length vc2) cs.length (flat cs)) := row_below hb V2.out
          replace I2 : Hid (w3.ownsRow b2 28 3 (.slice (some ⟨g2, 0, none⟩) is.length uc2) is.length (flatI is vs2)) := row_below hb I2.out
          replace S2 : Hid (IRow.Rows w3 b2 is vs2) := S2.out.below hb
          replace X1 : Hid (w3.heap[w.heap.size]? = some (.cells #[.slice va cs.length vc, .slice (some ⟨g1, 0, none⟩) is.length uc] 42 (0, 0))) := below_heap hb (lt_of_heap X1.out) X1.out
          replace X2 : Hid (w3.heap[w.heap.size + 1]? = some (.cells #[.slice va2 cs.length vc2, .slice (some ⟨g2, 0, none⟩) is.length uc2] 42 (0, 0))) := below_heap hb (lt_of_heap X2.out) X2.out
          replace N1 : Hid (w3.ownsRow b1 25 2 (.slice na1 ns.length nc1) ns.length (flat ns)) := row_below hb N1.out
          replace N2 : Hid (w3.ownsRow b2 25 2 (.slice na2 ns.length nc2) ns.length (flat ns)) := row_below hb N2.out
          clear hb
          refine hK _ _ (fun _ => ⟨heap_cell X1.out 1, heap_cell X2.out 1, I1.out, I2.out⟩) ?_
          clear hK K
          refine wpAnyT_take (i := 11) (v := .bool false) rfl (by kernel_rfl) (by kernel_rfl) (by kernel_rfl) (by kernel_rfl) (fun _ _ _ h => h) (Or.inl ⟨by kernel_rfl, fun X hS => by obtain ⟨e0, e1, e2, e3⟩ := hS; go_simp⟩) ⟨heap_cell X1.out 1, heap_cell X2.out 1, I1.out, I2.out⟩ ?_
          try go_simp
          refine wpAnyT_drop _ 12 _ _ _ (by decide) (by kernel_rfl) ?_
          change wpList _ _ _ [] _ _
          go_wp2_with fail
          go_roundg (is.length - (k + 1))
          case measure => omega
          case rel => exact ⟨k + 1, by omega, by omega, by go_num, HB.out, V1.out, I1.out, S1.out, V2.out, I2.out, S2.out, X1.out, X2.out⟩
        · have hke : k = is.length := by omega
          subst hke
          clear hk hq hlt
          obtain ⟨i0, i1, f0, f1⟩ := PWo.k2 X1.out
          obtain ⟨j0, j1, y0, y1⟩ := PWo.k2 X2.out
          have hl1 := lt_of_heap X1.out
          have hl2 := lt_of_heap X2.out
          go_wp2
          go_ret
          exact ⟨rfl, HB.out⟩
end InsC
end Go.Proofs.YtbdnhcfebgkpdaaDoor
set_option linter.unusedVariables false
set_option linter.unusedSimpArgs false
namespace Go.Proofs.YtbdnhcfebgkpdaaDoor
open Ty SplP PInP Known Classes IV WV FW FmtI PWoP
namespace RtP
/-- a need of a valid instance: a capital letter and a type -/
def OkN (p : BB) : Prop := ∃ (c : UInt8) (t : List UInt8), p = (⟨#[c]⟩, ⟨t.toArray⟩) ∧ isCap c = true ∧ (ty t).isSome = true
theorem okN_text {p : BB} (h : OkN p) : PInP.needB (needT p).data.toList = some p := by
  obtain ⟨c, t, rfl, h1, h2⟩ := h
  rw [needT_data]
  have : ((#[c] : Array UInt8) ++ #[32] ++ t.toArray).toList = c :: 32 :: t := by simp
  show PInP.needB ((#[c] : Array UInt8) ++ #[32] ++ t.toArray).toList = _
  rw [this]
  unfold PInP.needB
  rw [need_mk h1 h2]
  rfl
theorem ba_of {x : ByteArray} {c : UInt8} (h : x = ⟨#[c]⟩) : x = ⟨#[c]⟩ := h
theorem ok_own {cs : List BB} (hg : ∀ i, i < cs.length → goodC cs i) {x y : ByteArray} (h1 : knownB cs x = true) (h2 : (ty y.data.toList).isSome = true) : OkN (x, y) := by
  obtain ⟨c, hc, hcap⟩ := kn_at hg (n := cs.length) (by rw [List.take_length]; exact h1)
  subst hc
  exact ⟨c, y.data.toList, rfl, hcap, h2⟩
theorem ok_parts {cs : List BB} (hg : ∀ i, i < cs.length → goodC cs i) {p : II} (h : ivB cs p = true) : OkN (p.1, p.2.1) ∧ ∀ q ∈ p.2.2, OkN q := by
  unfold ivB at h
  simp only [Bool.and_eq_true] at h
  obtain ⟨-, h1, h2, -, -, -, h3⟩ := h
  refine ⟨ok_own hg h1 h2, fun q hq => ?_⟩
  have h4 := List.all_eq_true.1 h3 q hq
  unfold IV.needB at h4
  simp only [Bool.and_eq_true] at h4
  exact ok_own hg h4.1 h4.2.1
theorem needs_all : ∀ {ns : List BB}, (∀ q ∈ ns, OkN q) → allN ((ns.map needT).map (·.data.toList)) = some ns
  | [], _ => rfl
  | q :: r, h => by
    simp only [List.map_cons]
    unfold allN
    rw [okN_text (h q (by simp)), needs_all (fun p hp => h p (List.mem_cons_of_mem _ hp))]
theorem fmtI_nil (p : BB) : (fmtI p.1 p.2 []).data.toList = (needT p).data.toList := rfl
theorem fmtI_cons (p q : BB) (r : List BB) : (fmtI p.1 p.2 (q :: r)).data.toList = (needT p).data.toList ++ 58 :: fmtL (q :: r) := by
  show (needText p.1 p.2 ++ ⟨#[58]⟩ ++ ⟨(fmtL (q :: r)).toArray⟩).data.toList = _
  rw [ByteArray.data_append, ByteArray.data_append]
  simp [needT]
theorem fmtL_split {ns : List BB} (hne : ns ≠ []) (h : ∀ q ∈ ns, OkN q) : splitC 38 (fmtL ns) = (ns.map needT).map (·.data.toList) := by
  unfold fmtL
  refine split_join 38 _ (by simpa using hne) fun l hl => ?_
  obtain ⟨b, hb, rfl⟩ := List.mem_map.1 hl
  obtain ⟨q, hq, rfl⟩ := List.mem_map.1 hb
  exact need_free (okN_text (h q hq)) (by decide) (by decide) (by decide)
/-- a valid instance is read back from its text -/
theorem inst_back {p : II} (h1 : OkN (p.1, p.2.1)) (h2 : ∀ q ∈ p.2.2, OkN q) : instL (fmtI p.1 p.2.1 p.2.2).data.toList = some ((p.1, p.2.1), p.2.2) := by
  obtain ⟨x, y, ns⟩ := p
  dsimp only at h1 h2 ⊢
  have hfree : (58 : UInt8) ∉ (needT (x, y)).data.toList := need_free (okN_text h1) (by decide) (by decide) (by decide)
  cases ns with
  | nil =>
    rw [show (fmtI x y []).data.toList = (needT (x, y)).data.toList from rfl, inst_plain hfree, okN_text h1]
    rfl
  | cons q r =>
    rw [show (fmtI x y (q :: r)).data.toList = (needT (x, y)).data.toList ++ 58 :: fmtL (q :: r) from fmtI_cons (x, y) q r, inst_cut hfree, okN_text h1, fmtL_split (by simp) h2, needs_all h2]
theorem insts_back {cs : List BB} (hg : ∀ i, i < cs.length → goodC cs i) : ∀ {is : List II}, (∀ p ∈ is, ivB cs p = true) → instsL (is.map fun p => (fmtI p.1 p.2.1 p.2.2).data.toList) = some is
  | [], _ => rfl
  | p :: is, h => by
    obtain ⟨h1, h2⟩ := ok_parts hg (h p (by simp))
    simp only [List.map_cons]
    unfold instsL
    rw [inst_back h1 h2, insts_back hg (fun q hq => h q (List.mem_cons_of_mem _ hq))]
theorem mem_join {c x : UInt8} : ∀ {ps : List (List UInt8)}, x ∈ Lib.join ps [c] → x = c ∨ ∃ p ∈ ps, x ∈ p
  | [], h => by simp [Lib.join_nil] at h
  | p :: ps, h => by
    rw [Lib.join_cons] at h
    rcases List.mem_append.1 h with h | h
    · exact .inr ⟨p, by simp, h⟩
    · simp [Lib.joinTail] at h
      obtain ⟨q, ⟨r, hr, rfl⟩, h⟩ := h
      simp at h
      rcases h with h | h
      · exact .inl h
      · exact .inr ⟨r, by simp [hr], h⟩
theorem no59 {p : II} (h1 : OkN (p.1, p.2.1)) (h2 : ∀ q ∈ p.2.2, OkN q) : (59 : UInt8) ∉ (fmtI p.1 p.2.1 p.2.2).data.toList := by
  obtain ⟨x, y, ns⟩ := p
  dsimp only at h1 h2 ⊢
  have hf : ∀ q : BB, OkN q → (59 : UInt8) ∉ (needT q).data.toList := fun q hq => need_free (okN_text hq) (by decide) (by decide) (by decide)
  cases ns with
  | nil => exact hf (x, y) h1
  | cons q r =>
    rw [show (fmtI x y (q :: r)).data.toList = (needT (x, y)).data.toList ++ 58 :: fmtL (q :: r) from fmtI_cons (x, y) q r]
    intro hm
    rcases List.mem_append.1 hm with hm | hm
    · exact hf (x, y) h1 hm
    · rcases List.mem_cons.1 hm with hm | hm
      · exact absurd hm (by decide)
      · rcases mem_join hm with hm | ⟨l, hl, hm⟩
        · exact absurd hm (by decide)
        · obtain ⟨b, hb, rfl⟩ := List.mem_map.1 hl
          obtain ⟨z, hz, rfl⟩ := List.mem_map.1 hb
          exact hf z (h2 z hz) hm
theorem cls_text {cs : List BB} (hg : ∀ i, i < cs.length → goodC cs i) {p : BB} (hp : p ∈ cs) : clsI (clsT p).data.toList = p ∧ ∀ x ∈ (clsT p).data.toList, isCap x = true ∨ x = 60 := by
  obtain ⟨c, sup, rfl, hc, hs⟩ := cls_caps hg hp
  have hc60 := cap_ne hc (x := 60) (by decide)
  by_cases hn : sup = []
  · subst hn
    rw [show (clsT (⟨#[c]⟩, ⟨([] : List UInt8).toArray⟩)).data.toList = [c] from clsT_nil c]
    exact ⟨(clsI_of hc60).1 rfl, fun x hx => by simp at hx; subst hx; exact .inl hc⟩
  · rw [clsT_cons c sup hn]
    refine ⟨(clsI_of hc60).2 sup rfl, fun x hx => ?_⟩
    rcases List.mem_cons.1 hx with rfl | hx
    · exact .inl hc
    · rcases List.mem_cons.1 hx with rfl | hx
      · exact .inr rfl
      · exact .inl (hs x hx)
/-- a valid world is read back from its text -/
theorem back {cs : List BB} {is : List II} (h : wvB cs is = true) : implW (fmtW cs is).data.toList = some (cs, is) := by
  have hg := wv_good h
  have hc1 : 1 ≤ cs.length := by
    unfold wvB at h
    simp only [Bool.and_eq_true] at h
    exact (clB_good h.1).2.1
  have hi : ∀ p ∈ is, ivB cs p = true := by
    unfold wvB at h
    simp only [Bool.and_eq_true] at h
    exact List.all_eq_true.1 h.2.2
  have hne : cs ≠ [] := by rintro rfl; simp at hc1
  have hcls : splitC 32 (clsL cs) = (cs.map clsT).map (·.data.toList) := by
    unfold clsL
    refine split_join 32 _ (by simpa using hne) fun l hl => ?_
    obtain ⟨b, hb, rfl⟩ := List.mem_map.1 hl
    obtain ⟨p, hp, rfl⟩ := List.mem_map.1 hb
    intro hm
    rcases (cls_text hg hp).2 32 hm with h1 | h1
    · exact absurd h1 (by decide)
    · exact absurd h1 (by decide)
  have h59 : (59 : UInt8) ∉ clsL cs := by
    intro hm
    unfold clsL at hm
    rcases mem_join hm with hm | ⟨l, hl, hm⟩
    · exact absurd hm (by decide)
    · obtain ⟨b, hb, rfl⟩ := List.mem_map.1 hl
      obtain ⟨p, hp, rfl⟩ := List.mem_map.1 hb
      rcases (cls_text hg hp).2 59 hm with h1 | h1
      · exact absurd h1 (by decide)
      · exact absurd h1 (by decide)
  have hfm : (fmtW cs is).data.toList = clsL cs ++ insL is := by rw [fmtW_yes h]; simp [bl]
  have hsp : splitC 59 (clsL cs ++ insL is) = clsL cs :: is.map fun p => (fmtI p.1 p.2.1 p.2.2).data.toList := by
    have h1 := split_join 59 (clsL cs :: is.map fun p => (fmtI p.1 p.2.1 p.2.2).data.toList) (by simp) (fun l hl => by
      rcases List.mem_cons.1 hl with rfl | hl
      · exact h59
      · obtain ⟨p, hp, rfl⟩ := List.mem_map.1 hl
        obtain ⟨h2, h3⟩ := ok_parts hg (hi p hp)
        exact no59 h2 h3)
    rw [join59] at h1
    have h2 : insL is = ((is.map fun p => (fmtI p.1 p.2.1 p.2.2).data.toList).map (59 :: ·)).flatten := by
      unfold insL
      rw [List.map_map]
      rfl
    rw [h2]
    exact h1
  have hmap : (splitC 32 (clsL cs)).map clsI = cs := by
    rw [hcls, List.map_map, List.map_map]
    conv => rhs; rw [← List.map_id cs]
    exact List.map_congr_left fun p hp => (cls_text hg hp).1
  unfold implW
  rw [hfm, hsp]
  dsimp only
  rw [insts_back hg hi]
  dsimp only
  rw [hmap, if_pos]
  refine ⟨fun h0 => ?_, by rw [fmtW_yes h]⟩
  have h1 := (List.append_eq_nil_iff.1 h0).1
  rw [h1] at hcls
  cases hcs : cs with
  | nil => exact hne hcs
  | cons p r =>
    rw [hcs] at hcls
    have h2 := congrArg (fun l => l[0]?) hcls
    simp [splitC] at h2
    obtain ⟨c, sup, hpe, -, -⟩ := cls_caps hg (p := p) (by rw [hcs]; simp)
    have h3 : (clsT p).data.toList = [] := by rw [h2]
    subst hpe
    by_cases hn : sup = []
    · subst hn
      rw [show (clsT (⟨#[c]⟩, ⟨([] : List UInt8).toArray⟩)).data.toList = [c] from clsT_nil c] at h3
      simp at h3
    · rw [clsT_cons c sup hn] at h3
      simp at h3
/-- what is no world's text -/
theorem back_no {cs : List BB} {is : List II} (h : wvB cs is = false) : implW (fmtW cs is).data.toList = none := by
  rw [fmtW_no h]
  unfold implW
  simp [splitC, instsL]
theorem text_of {l : List UInt8} {cs : List BB} {is : List II} (h : implW l = some (cs, is)) : fmtW cs is = ⟨l.toArray⟩ := by
  unfold implW at h
  split at h
  · split at h
    · simp at h
    · split at h
      · rename_i h1
        cases h
        exact h1.2
      · simp at h
  · simp at h
end RtP
end Go.Proofs.YtbdnhcfebgkpdaaDoor
