/- The draws of worlds: an instance. Conditions: those typed. -/
import Derived.Test.YtbdnhcfebgkpdaaDoorWDA
import Derived.Deep.DeepCutAuto
set_option linter.unusedVariables false
set_option linter.unusedSimpArgs false
set_option maxRecDepth 100000
namespace Go.Proofs.YtbdnhcfebgkpdaaDoor
open Go.RowKit ListS IRow PWo
namespace Draw
theorem infoNeedW : (Tryd.prog.info? 25).map (fun i => (i.zero, i.size, i.bytes)) = some (some (.agg #[.string ⟨#[]⟩, .string ⟨#[]⟩]), 2, 32) := by kernel_rfl
theorem flat_snocW : ∀ (xs : List BB) (p : BB), flat (xs ++ [p]) = flat xs ++ [.string p.1, .string p.2]
  | [], p => rfl
  | x :: xs, p => by
    simp only [List.cons_append, flat]
    rw [flat_snocW xs p]
set_option maxHeartbeats 16000000 in
theorem l3DrawInstance_any (a q b vc un uc : Nat) (va ua : Option Addr) (cs : List BB) (w : World) (hq : q ≤ 50000) (hcs : 1 ≤ cs.length) (hct : tot cs + cs.length ≤ 200) (h : RD w a q) (ho : w.ownsRow b 69 2 (.slice va cs.length vc) cs.length (flat cs)) :
    Calls Tryd.prog 28 #[.pointer (some ⟨a, 0, none⟩), .agg #[.slice va cs.length vc, .slice ua un uc]] w fun e w' => ∃ (x y : ByteArray) (ns : List BB) (g2 c : Nat), e = .returned (.agg #[.string x, .string y, .slice (some ⟨g2, 0, none⟩) ns.length c]) ∧ w'.ownsRow w.heap.size 25 2 (.slice (some ⟨g2, 0, none⟩) ns.length c) ns.length (flat ns) ∧ x.size ≤ 200 ∧ y.size ≤ 7 ∧ ns.length ≤ 2 ∧ (∀ p ∈ ns, p.1.size ≤ 200 ∧ p.2.size ≤ 40) ∧ RD w' a (q + 200) ∧ w.grownBy w' (some a) := by
  obtain ⟨g, rfl⟩ := row_some ho hcs
  have HO := hid ho
  have HR := hid h
  have hal := h.lt
  have HCT := hid hct
  have hcl : cs.length ≤ 200 := by omega
  have HG : Hid (w.grownBy w (some a)) := gb0 (Below.refl _ _) _
  have hbw : w.heap.size ≤ w.heap.size := Nat.le_refl _
  clear ho h hct
  go_enter Tryd.func28, Tryd.ntmps28
  have hb : Below w.heap.size w (((w.alloc (.cells #[.slice (some ⟨g, 0, none⟩) cs.length vc, .slice ua un uc] 42)).alloc (.cells #[.string ⟨#[]⟩, .string ⟨#[]⟩, .slice none 0 0] 28)).alloc (.cells #[.string ⟨#[105]⟩, .string ⟨#[98]⟩, .string ⟨#[108, 40, 120, 41]⟩, .string ⟨#[112, 40, 120, 44, 121, 41]⟩, .string ⟨#[109, 40, 120, 41]⟩, .string ⟨#[108, 40, 105, 41]⟩, .string ⟨#[112, 40, 120, 44, 120, 41]⟩, .string ⟨#[112, 40, 105, 44, 120, 41]⟩, .string ⟨#[108, 40, 108, 40, 120, 41, 41]⟩, .string ⟨#[117]⟩, .string ⟨#[108, 40, 120, 41]⟩] 9)) := (((Below.refl _ _).alloc (by simp; try omega) _).alloc (by simp; try omega) _).alloc (by simp; try omega) _
  replace HO : Hid ((((w.alloc (.cells #[.slice (some ⟨g, 0, none⟩) cs.length vc, .slice ua un uc] 42)).alloc (.cells #[.string ⟨#[]⟩, .string ⟨#[]⟩, .slice none 0 0] 28)).alloc (.cells #[.string ⟨#[105]⟩, .string ⟨#[98]⟩, .string ⟨#[108, 40, 120, 41]⟩, .string ⟨#[112, 40, 120, 44, 121, 41]⟩, .string ⟨#[109, 40, 120, 41]⟩, .string ⟨#[108, 40, 105, 41]⟩, .string ⟨#[112, 40, 120, 44, 120, 41]⟩, .string ⟨#[112, 40, 105, 44, 120, 41]⟩, .string ⟨#[108, 40, 108, 40, 120, 41, 41]⟩, .string ⟨#[117]⟩, .string ⟨#[108, 40, 120, 41]⟩] 9)).ownsRow b 69 2 (.slice (some ⟨g, 0, none⟩) cs.length vc) cs.length (flat cs)) := row_below hb HO.out
  replace HR : Hid (RD (((w.alloc (.cells #[.slice (some ⟨g, 0, none⟩) cs.length vc, .slice ua un uc] 42)).alloc (.cells #[.string ⟨#[]⟩, .string ⟨#[]⟩, .slice none 0 0] 28)).alloc (.cells #[.string ⟨#[105]⟩, .string ⟨#[98]⟩, .string ⟨#[108, 40, 120, 41]⟩, .string ⟨#[112, 40, 120, 44, 121, 41]⟩, .string ⟨#[109, 40, 120, 41]⟩, .string ⟨#[108, 40, 105, 41]⟩, .string ⟨#[112, 40, 120, 44, 120, 41]⟩, .string ⟨#[112, 40, 105, 44, 120, 41]⟩, .string ⟨#[108, 40, 108, 40, 120, 41, 41]⟩, .string ⟨#[117]⟩, .string ⟨#[108, 40, 120, 41]⟩] 9)) a (q)) := HR.out.below hb
  replace HG : Hid (w.grownBy (((w.alloc (.cells #[.slice (some ⟨g, 0, none⟩) cs.length vc, .slice ua un uc] 42)).alloc (.cells #[.string ⟨#[]⟩, .string ⟨#[]⟩, .slice none 0 0] 28)).alloc (.cells #[.string ⟨#[105]⟩, .string ⟨#[98]⟩, .string ⟨#[108, 40, 120, 41]⟩, .string ⟨#[112, 40, 120, 44, 121, 41]⟩, .string ⟨#[109, 40, 120, 41]⟩, .string ⟨#[108, 40, 105, 41]⟩, .string ⟨#[112, 40, 120, 44, 120, 41]⟩, .string ⟨#[112, 40, 105, 44, 120, 41]⟩, .string ⟨#[108, 40, 108, 40, 120, 41, 41]⟩, .string ⟨#[117]⟩, .string ⟨#[108, 40, 120, 41]⟩] 9)) (some a)) := grown_trans HG.out (gb0 hb _)
  clear hb
  have HX : Hid ((((w.alloc (.cells #[.slice (some ⟨g, 0, none⟩) cs.length vc, .slice ua un uc] 42)).alloc (.cells #[.string ⟨#[]⟩, .string ⟨#[]⟩, .slice none 0 0] 28)).alloc (.cells #[.string ⟨#[105]⟩, .string ⟨#[98]⟩, .string ⟨#[108, 40, 120, 41]⟩, .string ⟨#[112, 40, 120, 44, 121, 41]⟩, .string ⟨#[109, 40, 120, 41]⟩, .string ⟨#[108, 40, 105, 41]⟩, .string ⟨#[112, 40, 120, 44, 120, 41]⟩, .string ⟨#[112, 40, 105, 44, 120, 41]⟩, .string ⟨#[108, 40, 108, 40, 120, 41, 41]⟩, .string ⟨#[117]⟩, .string ⟨#[108, 40, 120, 41]⟩] 9)).heap[w.heap.size]? = some (.cells #[.slice (some ⟨g, 0, none⟩) cs.length vc, .slice ua un uc] 42 (0, 0))) := hb_alloc (hb_alloc (hb_newk (by simp; try omega)) _) _
  have HN : Hid ((((w.alloc (.cells #[.slice (some ⟨g, 0, none⟩) cs.length vc, .slice ua un uc] 42)).alloc (.cells #[.string ⟨#[]⟩, .string ⟨#[]⟩, .slice none 0 0] 28)).alloc (.cells #[.string ⟨#[105]⟩, .string ⟨#[98]⟩, .string ⟨#[108, 40, 120, 41]⟩, .string ⟨#[112, 40, 120, 44, 121, 41]⟩, .string ⟨#[109, 40, 120, 41]⟩, .string ⟨#[108, 40, 105, 41]⟩, .string ⟨#[112, 40, 120, 44, 120, 41]⟩, .string ⟨#[112, 40, 105, 44, 120, 41]⟩, .string ⟨#[108, 40, 108, 40, 120, 41, 41]⟩, .string ⟨#[117]⟩, .string ⟨#[108, 40, 120, 41]⟩] 9)).heap[w.heap.size + 1]? = some (.cells #[.string ⟨#[]⟩, .string ⟨#[]⟩, .slice none 0 0] 28 (0, 0))) := hb_alloc (hb_newk (by simp; try omega)) _
  have HL : Hid ((((w.alloc (.cells #[.slice (some ⟨g, 0, none⟩) cs.length vc, .slice ua un uc] 42)).alloc (.cells #[.string ⟨#[]⟩, .string ⟨#[]⟩, .slice none 0 0] 28)).alloc (.cells #[.string ⟨#[105]⟩, .string ⟨#[98]⟩, .string ⟨#[108, 40, 120, 41]⟩, .string ⟨#[112, 40, 120, 44, 121, 41]⟩, .string ⟨#[109, 40, 120, 41]⟩, .string ⟨#[108, 40, 105, 41]⟩, .string ⟨#[112, 40, 120, 44, 120, 41]⟩, .string ⟨#[112, 40, 105, 44, 120, 41]⟩, .string ⟨#[108, 40, 108, 40, 120, 41, 41]⟩, .string ⟨#[117]⟩, .string ⟨#[108, 40, 120, 41]⟩] 9)).heap[w.heap.size + 1 + 1]? = some (.cells #[.string ⟨#[105]⟩, .string ⟨#[98]⟩, .string ⟨#[108, 40, 120, 41]⟩, .string ⟨#[112, 40, 120, 44, 121, 41]⟩, .string ⟨#[109, 40, 120, 41]⟩, .string ⟨#[108, 40, 105, 41]⟩, .string ⟨#[112, 40, 120, 44, 120, 41]⟩, .string ⟨#[112, 40, 105, 44, 120, 41]⟩, .string ⟨#[108, 40, 108, 40, 120, 41, 41]⟩, .string ⟨#[117]⟩, .string ⟨#[108, 40, 120, 41]⟩] 9 (0, 0))) := hb_newk (by simp; try omega)
  go_wp2_with fail
  generalize (((w.alloc (.cells #[.slice (some ⟨g, 0, none⟩) cs.length vc, .slice ua un uc] 42)).alloc (.cells #[.string ⟨#[]⟩, .string ⟨#[]⟩, .slice none 0 0] 28)).alloc (.cells #[.string ⟨#[105]⟩, .string ⟨#[98]⟩, .string ⟨#[108, 40, 120, 41]⟩, .string ⟨#[112, 40, 120, 44, 121, 41]⟩, .string ⟨#[109, 40, 120, 41]⟩, .string ⟨#[108, 40, 105, 41]⟩, .string ⟨#[112, 40, 120, 44, 120, 41]⟩, .string ⟨#[112, 40, 105, 44, 120, 41]⟩, .string ⟨#[108, 40, 108, 40, 120, 41, 41]⟩, .string ⟨#[117]⟩, .string ⟨#[108, 40, 120, 41]⟩] 9)) = w1 at *
  refine (ofS_any a (q) (w.heap.size + 1 + 1) 11 1 7 _ _ (by omega) (by decide) (by decide) rfl HL.out (by decide) HR.out).mono ?_
  rintro e w2 ⟨s, rfl, hs1, hs2, hr, hgr⟩
  replace HO : Hid (w2.ownsRow b 69 2 (.slice (some ⟨g, 0, none⟩) cs.length vc) cs.length (flat cs)) := HR.out.row HO.out (by decide) hgr
  replace HG : Hid (w.grownBy w2 (some a)) := grown_trans HG.out hgr
  replace HX : Hid (w2.heap[w.heap.size]? = some (.cells #[.slice (some ⟨g, 0, none⟩) cs.length vc, .slice ua un uc] 42 (0, 0))) := HR.out.box HX.out (by decide) hgr
  replace HN : Hid (w2.heap[w.heap.size + 1]? = some (.cells #[.string ⟨#[]⟩, .string ⟨#[]⟩, .slice none 0 0] 28 (0, 0))) := HR.out.box HN.out (by decide) hgr
  replace HL : Hid (w2.heap[w.heap.size + 1 + 1]? = some (.cells #[.string ⟨#[105]⟩, .string ⟨#[98]⟩, .string ⟨#[108, 40, 120, 41]⟩, .string ⟨#[112, 40, 120, 44, 121, 41]⟩, .string ⟨#[109, 40, 120, 41]⟩, .string ⟨#[108, 40, 105, 41]⟩, .string ⟨#[112, 40, 120, 44, 120, 41]⟩, .string ⟨#[112, 40, 105, 44, 120, 41]⟩, .string ⟨#[108, 40, 108, 40, 120, 41, 41]⟩, .string ⟨#[117]⟩, .string ⟨#[108, 40, 120, 41]⟩] 9 (0, 0))) := HR.out.box HL.out (by decide) hgr
  have hzc := hgr.size
  replace HR : Hid (RD w2 a (q + 1)) := hr.mono (by omega)
  clear hr hgr hzc
  clear HL
  obtain ⟨l, rfl⟩ : ∃ l : List UInt8, s = ⟨l.toArray⟩ := ⟨s.data.toList, rfl⟩
  have hl7 : l.length ≤ 7 := by simpa [ByteArray.size] using hs2
  clear hs1 hs2
  go_wp2_with fail
  go_cut [6] (fun p wr => ∃ (bo gn : Nat) (x : ByteArray), p = .pointer (some ⟨bo, 0, none⟩) ∧ x.size ≤ 200 ∧ w.heap.size + 1 < bo ∧ Hid (wr.heap[bo]? = some (.cells #[.string x, .string ⟨l.toArray⟩, .slice (some ⟨gn, 0, none⟩) 0 0] 28 (0, 0))) ∧ Hid (wr.ownsRow w.heap.size 25 2 (.slice (some ⟨gn, 0, none⟩) 0 0) 0 []) ∧ Hid (wr.ownsRow b 69 2 (.slice (some ⟨g, 0, none⟩) cs.length vc) cs.length (flat cs)) ∧ Hid (RD wr a (q + 2)) ∧ Hid (w.grownBy wr (some a)) ∧ Hid (wr.heap[w.heap.size]? = some (.cells #[.slice (some ⟨g, 0, none⟩) cs.length vc, .slice ua un uc] 42 (0, 0))) ∧ Hid (wr.heap[w.heap.size + 1]? = some (.cells #[.string ⟨#[]⟩, .string ⟨#[]⟩, .slice none 0 0] 28 (0, 0))))
  case first =>
    refine wp_region_any (by kernel_rfl) ?_
    change wpAny _ _ _ _ _ _ _ (World.drew _)
    have hb : Below w2.heap.size w2 w2.drew := (Below.refl _ _).drew
    replace HO : Hid (w2.drew.ownsRow b 69 2 (.slice (some ⟨g, 0, none⟩) cs.length vc) cs.length (flat cs)) := row_below hb HO.out
    replace HR : Hid (RD w2.drew a (q + 1)) := HR.out.below hb
    replace HG : Hid (w.grownBy w2.drew (some a)) := grown_trans HG.out (gb0 hb _)
    replace HX : Hid (w2.drew.heap[w.heap.size]? = some (.cells #[.slice (some ⟨g, 0, none⟩) cs.length vc, .slice ua un uc] 42 (0, 0))) := below_heap hb (lt_of_heap HX.out) HX.out
    replace HN : Hid (w2.drew.heap[w.heap.size + 1]? = some (.cells #[.string ⟨#[]⟩, .string ⟨#[]⟩, .slice none 0 0] 28 (0, 0))) := below_heap hb (lt_of_heap HN.out) HN.out
    clear hb
    generalize w2.drew = w3 at *
    refine wpAny_of_T (S := fun X => X.cell? ⟨w.heap.size, 0, none⟩ = some (.slice (some ⟨g, 0, none⟩) cs.length vc) ∧ X.cell? ⟨w.heap.size, 1, none⟩ = some (.slice ua un uc) ∧ X.ownsRow b 69 2 (.slice (some ⟨g, 0, none⟩) cs.length vc) cs.length (flat cs)) (m := 15) _ _ _ _ ?_
    refine wpAnyT_take (i := 0) (v := .pointer (some ⟨w.heap.size, 0, none⟩)) rfl (by kernel_rfl) (by kernel_rfl) (by kernel_rfl) (by kernel_rfl) (fun _ _ _ h => h) (Or.inl ⟨by kernel_rfl, fun X hS => by obtain ⟨e0, e1, e2⟩ := hS; go_simp⟩) ⟨heap_cell HX.out 0, heap_cell HX.out 1, HO.out⟩ ?_
    try go_simp
    refine wpAnyT_take (i := 1) (v := .slice (some ⟨g, 0, none⟩) cs.length vc) rfl (by kernel_rfl) (by kernel_rfl) (by kernel_rfl) (by kernel_rfl) (fun _ _ _ h => h) (Or.inl ⟨by kernel_rfl, fun X hS => by obtain ⟨e0, e1, e2⟩ := hS; go_simp⟩) ⟨heap_cell HX.out 0, heap_cell HX.out 1, HO.out⟩ ?_
    try go_simp
    refine wpAnyT_take (i := 2) (v := .pointer (some ⟨a, 0, none⟩)) rfl (by kernel_rfl) (by kernel_rfl) (by kernel_rfl) (by kernel_rfl) (fun _ _ _ h => h) (Or.inl ⟨by kernel_rfl, fun X hS => by obtain ⟨e0, e1, e2⟩ := hS; go_simp⟩) ⟨heap_cell HX.out 0, heap_cell HX.out 1, HO.out⟩ ?_
    try go_simp
    refine wpAnyT_take (i := 3) (v := .pointer (some ⟨w.heap.size, 0, none⟩)) rfl (by kernel_rfl) (by kernel_rfl) (by kernel_rfl) (by kernel_rfl) (fun _ _ _ h => h) (Or.inl ⟨by kernel_rfl, fun X hS => by obtain ⟨e0, e1, e2⟩ := hS; go_simp⟩) ⟨heap_cell HX.out 0, heap_cell HX.out 1, HO.out⟩ ?_
    try go_simp
    refine wpAnyT_take (i := 4) (v := .slice (some ⟨g, 0, none⟩) cs.length vc) rfl (by kernel_rfl) (by kernel_rfl) (by kernel_rfl) (by kernel_rfl) (fun _ _ _ h => h) (Or.inl ⟨by kernel_rfl, fun X hS => by obtain ⟨e0, e1, e2⟩ := hS; go_simp⟩) ⟨heap_cell HX.out 0, heap_cell HX.out 1, HO.out⟩ ?_
    try go_simp
    refine wpAnyT_take (i := 5) (v := .int .i64 cs.length) rfl (by kernel_rfl) (by kernel_rfl) (by kernel_rfl) (by kernel_rfl) (fun _ _ _ h => h) (Or.inl ⟨by kernel_rfl, fun X hS => by obtain ⟨e0, e1, e2⟩ := hS; go_simp⟩) ⟨heap_cell HX.out 0, heap_cell HX.out 1, HO.out⟩ ?_
    try go_simp
    refine wpAnyT_take (i := 10) (v := .string ⟨l.toArray⟩) rfl (by kernel_rfl) (by kernel_rfl) (by kernel_rfl) (by kernel_rfl) (fun _ _ _ h => h) (Or.inl ⟨by kernel_rfl, fun X hS => by obtain ⟨e0, e1, e2⟩ := hS; go_simp⟩) ⟨heap_cell HX.out 0, heap_cell HX.out 1, HO.out⟩ ?_
    try go_simp
    refine wpAnyT_three 6 12 14 rfl rfl rfl (by kernel_rfl) (fun K hK => ?_) (fun K hK => ?_) (fun K hK => ?_)
    · go_simp
      refine (pick_any a (q + 1) cs.length w3 hcs (by omega) (by omega) HR.out).mono ?_
      rintro e w4 ⟨k, hk, rfl, hr, hgr⟩
      replace HO : Hid (w4.ownsRow b 69 2 (.slice (some ⟨g, 0, none⟩) cs.length vc) cs.length (flat cs)) := HR.out.row HO.out (by decide) hgr
      replace HG : Hid (w.grownBy w4 (some a)) := grown_trans HG.out hgr
      replace HX : Hid (w4.heap[w.heap.size]? = some (.cells #[.slice (some ⟨g, 0, none⟩) cs.length vc, .slice ua un uc] 42 (0, 0))) := HR.out.box HX.out (by decide) hgr
      replace HN : Hid (w4.heap[w.heap.size + 1]? = some (.cells #[.string ⟨#[]⟩, .string ⟨#[]⟩, .slice none 0 0] 28 (0, 0))) := HR.out.box HN.out (by decide) hgr
      have hzc := hgr.size
      replace HR : Hid (RD w4 a (q + 2)) := hr.mono (by omega)
      clear hr hgr hzc
      obtain ⟨⟨nm, sp⟩, hp⟩ : ∃ p, cs[k]? = some p := ⟨_, List.getElem?_eq_getElem hk⟩
      have hnm : nm.size ≤ 200 := name_size HCT.out hp
      have HF := hid (flat_get cs k _ hp).1
      clear hp
      refine hK _ _ (fun _ => ⟨heap_cell HX.out 0, heap_cell HX.out 1, HO.out⟩) ?_
      clear hK K
      refine wpAnyT_take (i := 7) (v := .pointer (some ⟨g, k * 2, none⟩)) rfl (by kernel_rfl) (by kernel_rfl) (by kernel_rfl) (by kernel_rfl) (fun _ _ _ h => h) (Or.inl ⟨by kernel_rfl, fun X hS => by obtain ⟨e0, e1, e2⟩ := hS; go_simp⟩) ⟨heap_cell HX.out 0, heap_cell HX.out 1, HO.out⟩ ?_
      try go_simp
      refine wpAnyT_take (i := 8) (v := .pointer (some ⟨g, k * 2, none⟩)) rfl (by kernel_rfl) (by kernel_rfl) (by kernel_rfl) (by kernel_rfl) (fun _ _ _ h => h) (Or.inl ⟨by kernel_rfl, fun X hS => by obtain ⟨e0, e1, e2⟩ := hS; go_simp⟩) ⟨heap_cell HX.out 0, heap_cell HX.out 1, HO.out⟩ ?_
      try go_simp
      refine wpAnyT_take (i := 9) (v := .string nm) rfl (by kernel_rfl) (by kernel_rfl) (by kernel_rfl) (by kernel_rfl) (fun _ _ _ h => h) (Or.inl ⟨by kernel_rfl, fun X hS => by obtain ⟨e0, e1, e2⟩ := hS; have e9 := row_cell e2 _ HF.out; go_simp⟩) ⟨heap_cell HX.out 0, heap_cell HX.out 1, HO.out⟩ ?_
      try go_simp
      refine wpAnyT_take (i := 11) (v := .agg #[.string nm, .string ⟨l.toArray⟩]) rfl (by kernel_rfl) (by kernel_rfl) (by kernel_rfl) (by kernel_rfl) (fun _ _ _ h => h) (Or.inl ⟨by kernel_rfl, fun X hS => by obtain ⟨e0, e1, e2⟩ := hS; go_simp⟩) ⟨heap_cell HX.out 0, heap_cell HX.out 1, HO.out⟩ ?_
      try go_simp
      refine wpAnyT_two 12 14 rfl rfl (by kernel_rfl) (fun K hK => ?_) (fun K hK => ?_)
      · go_simp
        have hzz := HG.out.size
        have hb : Below w4.heap.size w4 (w4.alloc (.cells #[] 25)) := (Below.refl _ _).alloc (Nat.le_refl _) _
        have HE : Hid ((w4.alloc (.cells #[] 25)).ownsRow w.heap.size 25 2 (.slice (some ⟨w4.heap.size, 0, none⟩) 0 0) 0 []) := by
          have h := World.ownsRow_made (base := w.heap.size) (e := 25) (size := 2) w4 #[] 0 (by omega) (by simp [maxLen]) rfl
          show World.ownsRow _ _ _ _ _ _ _
          simpa using h
        replace HO : Hid ((w4.alloc (.cells #[] 25)).ownsRow b 69 2 (.slice (some ⟨g, 0, none⟩) cs.length vc) cs.length (flat cs)) := row_below hb HO.out
        replace HR : Hid (RD (w4.alloc (.cells #[] 25)) a (q + 2)) := HR.out.below hb
        replace HG : Hid (w.grownBy (w4.alloc (.cells #[] 25)) (some a)) := grown_trans HG.out (gb0 hb _)
        replace HX : Hid ((w4.alloc (.cells #[] 25)).heap[w.heap.size]? = some (.cells #[.slice (some ⟨g, 0, none⟩) cs.length vc, .slice ua un uc] 42 (0, 0))) := below_heap hb (lt_of_heap HX.out) HX.out
        replace HN : Hid ((w4.alloc (.cells #[] 25)).heap[w.heap.size + 1]? = some (.cells #[.string ⟨#[]⟩, .string ⟨#[]⟩, .slice none 0 0] 28 (0, 0))) := below_heap hb (lt_of_heap HN.out) HN.out
        clear hb
        have HM : Hid ((w4.alloc (.cells #[] 25)).heap[w4.heap.size]? = some (.cells #[] 25 (0, 0))) := heap_alloc_new _ _
        generalize (w4.alloc (.cells #[] 25)) = w5 at *
        obtain ⟨b5, hbb5⟩ : ∃ x, x = w4.heap.size := ⟨_, rfl⟩
        rw [← hbb5] at HM HE ⊢
        clear hbb5
        clear hzz
        refine hK _ _ (fun _ => ⟨heap_cell HX.out 0, heap_cell HX.out 1, HO.out⟩) ?_
        clear hK K
        refine wpAnyT_take (i := 13) (v := .agg #[.string nm, .string ⟨l.toArray⟩, .slice (some ⟨b5, 0, none⟩) 0 0]) rfl (by kernel_rfl) (by kernel_rfl) (by kernel_rfl) (by kernel_rfl) (fun _ _ _ h => h) (Or.inl ⟨by kernel_rfl, fun X hS => by obtain ⟨e0, e1, e2⟩ := hS; go_simp⟩) ⟨heap_cell HX.out 0, heap_cell HX.out 1, HO.out⟩ ?_
        try go_simp
        refine wpAnyT_one 14 rfl (by kernel_rfl) (fun K hK => ?_)
        go_simp
        have hzz := HG.out.size
        have hzn := lt_of_heap HN.out
        have hb : Below w5.heap.size w5 (w5.alloc (.cells #[.string ⟨#[]⟩, .string ⟨#[]⟩, .slice none 0 0] 28)) := (Below.refl _ _).alloc (Nat.le_refl _) _
        replace HO : Hid ((w5.alloc (.cells #[.string ⟨#[]⟩, .string ⟨#[]⟩, .slice none 0 0] 28)).ownsRow b 69 2 (.slice (some ⟨g, 0, none⟩) cs.length vc) cs.length (flat cs)) := row_below hb HO.out
        replace HR : Hid (RD (w5.alloc (.cells #[.string ⟨#[]⟩, .string ⟨#[]⟩, .slice none 0 0] 28)) a (q + 2)) := HR.out.below hb
        replace HG : Hid (w.grownBy (w5.alloc (.cells #[.string ⟨#[]⟩, .string ⟨#[]⟩, .slice none 0 0] 28)) (some a)) := grown_trans HG.out (gb0 hb _)
        replace HX : Hid ((w5.alloc (.cells #[.string ⟨#[]⟩, .string ⟨#[]⟩, .slice none 0 0] 28)).heap[w.heap.size]? = some (.cells #[.slice (some ⟨g, 0, none⟩) cs.length vc, .slice ua un uc] 42 (0, 0))) := below_heap hb (lt_of_heap HX.out) HX.out
        replace HN : Hid ((w5.alloc (.cells #[.string ⟨#[]⟩, .string ⟨#[]⟩, .slice none 0 0] 28)).heap[w.heap.size + 1]? = some (.cells #[.string ⟨#[]⟩, .string ⟨#[]⟩, .slice none 0 0] 28 (0, 0))) := below_heap hb (lt_of_heap HN.out) HN.out
        replace HM : Hid ((w5.alloc (.cells #[.string ⟨#[]⟩, .string ⟨#[]⟩, .slice none 0 0] 28)).heap[b5]? = some (.cells #[] 25 (0, 0))) := below_heap hb (lt_of_heap HM.out) HM.out
        replace HE : Hid ((w5.alloc (.cells #[.string ⟨#[]⟩, .string ⟨#[]⟩, .slice none 0 0] 28)).ownsRow w.heap.size 25 2 (.slice (some ⟨b5, 0, none⟩) 0 0) 0 []) := row_below hb HE.out
        clear hb
        have HI : Hid ((w5.alloc (.cells #[.string ⟨#[]⟩, .string ⟨#[]⟩, .slice none 0 0] 28)).heap[w5.heap.size]? = some (.cells #[.string ⟨#[]⟩, .string ⟨#[]⟩, .slice none 0 0] 28 (0, 0))) := heap_alloc_new _ _
        generalize (w5.alloc (.cells #[.string ⟨#[]⟩, .string ⟨#[]⟩, .slice none 0 0] 28)) = w6 at *
        obtain ⟨b6, hbb6⟩ : ∃ x, x = w5.heap.size := ⟨_, rfl⟩
        rw [← hbb6] at HI ⊢
        have hbo : w.heap.size + 1 < b6 := by omega
        clear hzz hzn
        clear hbb6
        refine hK _ _ (fun _ => ⟨heap_cell HX.out 0, heap_cell HX.out 1, HO.out⟩) ?_
        clear hK K
        refine wpAnyT_drop _ 15 _ _ _ (by decide) (by kernel_rfl) ?_
        change wpList _ _ _ [_] _ _
        obtain ⟨i0, i1, i2, f0, f1, f2⟩ := PIn.k3 HI.out
        have hli := lt_of_heap HI.out
        go_wp2
        go_meet
        case rel =>
          have hg := set3_boxR w6 b6 (.string nm) (.string ⟨l.toArray⟩) (.slice (some ⟨b5, 0, none⟩) 0 0)
          exact ⟨b6, b5, nm, rfl, hnm, hbo, heap_set (heap_set (heap_set HI.out 0 _) 1 _) 2 _, row_boxR HI.out HE.out (by decide) hg, row_boxR HI.out HO.out (by decide) hg, HR.out.grown hg (fun g hg => by cases hg; omega), grown_boxR HG.out hg (by omega), heap_boxR HX.out hg (by omega), heap_boxR HN.out hg (by omega)⟩
      · go_simp
        have hzz := HG.out.size
        have hzn := lt_of_heap HN.out
        have hb : Below w4.heap.size w4 (w4.alloc (.cells #[.string ⟨#[]⟩, .string ⟨#[]⟩, .slice none 0 0] 28)) := (Below.refl _ _).alloc (Nat.le_refl _) _
        replace HO : Hid ((w4.alloc (.cells #[.string ⟨#[]⟩, .string ⟨#[]⟩, .slice none 0 0] 28)).ownsRow b 69 2 (.slice (some ⟨g, 0, none⟩) cs.length vc) cs.length (flat cs)) := row_below hb HO.out
        replace HR : Hid (RD (w4.alloc (.cells #[.string ⟨#[]⟩, .string ⟨#[]⟩, .slice none 0 0] 28)) a (q + 2)) := HR.out.below hb
        replace HG : Hid (w.grownBy (w4.alloc (.cells #[.string ⟨#[]⟩, .string ⟨#[]⟩, .slice none 0 0] 28)) (some a)) := grown_trans HG.out (gb0 hb _)
        replace HX : Hid ((w4.alloc (.cells #[.string ⟨#[]⟩, .string ⟨#[]⟩, .slice none 0 0] 28)).heap[w.heap.size]? = some (.cells #[.slice (some ⟨g, 0, none⟩) cs.length vc, .slice ua un uc] 42 (0, 0))) := below_heap hb (lt_of_heap HX.out) HX.out
        replace HN : Hid ((w4.alloc (.cells #[.string ⟨#[]⟩, .string ⟨#[]⟩, .slice none 0 0] 28)).heap[w.heap.size + 1]? = some (.cells #[.string ⟨#[]⟩, .string ⟨#[]⟩, .slice none 0 0] 28 (0, 0))) := below_heap hb (lt_of_heap HN.out) HN.out
        clear hb
        have HI : Hid ((w4.alloc (.cells #[.string ⟨#[]⟩, .string ⟨#[]⟩, .slice none 0 0] 28)).heap[w4.heap.size]? = some (.cells #[.string ⟨#[]⟩, .string ⟨#[]⟩, .slice none 0 0] 28 (0, 0))) := heap_alloc_new _ _
        generalize (w4.alloc (.cells #[.string ⟨#[]⟩, .string ⟨#[]⟩, .slice none 0 0] 28)) = w5 at *
        obtain ⟨b5, hbb5⟩ : ∃ x, x = w4.heap.size := ⟨_, rfl⟩
        rw [← hbb5] at HI ⊢
        have hbo : w.heap.size + 1 < b5 := by omega
        clear hzz hzn
        clear hbb5
        refine hK _ _ (fun _ => ⟨heap_cell HX.out 0, heap_cell HX.out 1, HO.out⟩) ?_
        clear hK K
        refine wpAnyT_one 12 rfl (by kernel_rfl) (fun K hK => ?_)
        go_simp
        have hzz := HG.out.size
        have hb : Below w5.heap.size w5 (w5.alloc (.cells #[] 25)) := (Below.refl _ _).alloc (Nat.le_refl _) _
        have HE : Hid ((w5.alloc (.cells #[] 25)).ownsRow w.heap.size 25 2 (.slice (some ⟨w5.heap.size, 0, none⟩) 0 0) 0 []) := by
          have h := World.ownsRow_made (base := w.heap.size) (e := 25) (size := 2) w5 #[] 0 (by omega) (by simp [maxLen]) rfl
          show World.ownsRow _ _ _ _ _ _ _
          simpa using h
        replace HO : Hid ((w5.alloc (.cells #[] 25)).ownsRow b 69 2 (.slice (some ⟨g, 0, none⟩) cs.length vc) cs.length (flat cs)) := row_below hb HO.out
        replace HR : Hid (RD (w5.alloc (.cells #[] 25)) a (q + 2)) := HR.out.below hb
        replace HG : Hid (w.grownBy (w5.alloc (.cells #[] 25)) (some a)) := grown_trans HG.out (gb0 hb _)
        replace HX : Hid ((w5.alloc (.cells #[] 25)).heap[w.heap.size]? = some (.cells #[.slice (some ⟨g, 0, none⟩) cs.length vc, .slice ua un uc] 42 (0, 0))) := below_heap hb (lt_of_heap HX.out) HX.out
        replace HN : Hid ((w5.alloc (.cells #[] 25)).heap[w.heap.size + 1]? = some (.cells #[.string ⟨#[]⟩, .string ⟨#[]⟩, .slice none 0 0] 28 (0, 0))) := below_heap hb (lt_of_heap HN.out) HN.out
        replace HI : Hid ((w5.alloc (.cells #[] 25)).heap[b5]? = some (.cells #[.string ⟨#[]⟩, .string ⟨#[]⟩, .slice none 0 0] 28 (0, 0))) := below_heap hb (lt_of_heap HI.out) HI.out
        clear hb
        have HM : Hid ((w5.alloc (.cells #[] 25)).heap[w5.heap.size]? = some (.cells #[] 25 (0, 0))) := heap_alloc_new _ _
        generalize (w5.alloc (.cells #[] 25)) = w6 at *
        obtain ⟨b6, hbb6⟩ : ∃ x, x = w5.heap.size := ⟨_, rfl⟩
        rw [← hbb6] at HM HE ⊢
        clear hbb6
        clear hzz
        refine hK _ _ (fun _ => ⟨heap_cell HX.out 0, heap_cell HX.out 1, HO.out⟩) ?_
        clear hK K
        refine wpAnyT_take (i := 13) (v := .agg #[.string nm, .string ⟨l.toArray⟩, .slice (some ⟨b6, 0, none⟩) 0 0]) rfl (by kernel_rfl) (by kernel_rfl) (by kernel_rfl) (by kernel_rfl) (fun _ _ _ h => h) (Or.inl ⟨by kernel_rfl, fun X hS => by obtain ⟨e0, e1, e2⟩ := hS; go_simp⟩) ⟨heap_cell HX.out 0, heap_cell HX.out 1, HO.out⟩ ?_
        try go_simp
        refine wpAnyT_drop _ 15 _ _ _ (by decide) (by kernel_rfl) ?_
        change wpList _ _ _ [_] _ _
        obtain ⟨i0, i1, i2, f0, f1, f2⟩ := PIn.k3 HI.out
        have hli := lt_of_heap HI.out
        go_wp2
        go_meet
        case rel =>
          have hg := set3_boxR w6 b5 (.string nm) (.string ⟨l.toArray⟩) (.slice (some ⟨b6, 0, none⟩) 0 0)
          exact ⟨b5, b6, nm, rfl, hnm, hbo, heap_set (heap_set (heap_set HI.out 0 _) 1 _) 2 _, row_boxR HI.out HE.out (by decide) hg, row_boxR HI.out HO.out (by decide) hg, HR.out.grown hg (fun g hg => by cases hg; omega), grown_boxR HG.out hg (by omega), heap_boxR HX.out hg (by omega), heap_boxR HN.out hg (by omega)⟩
    · go_simp
      have hzz := HG.out.size
      have hb : Below w3.heap.size w3 (w3.alloc (.cells #[] 25)) := (Below.refl _ _).alloc (Nat.le_refl _) _
      have HE : Hid ((w3.alloc (.cells #[] 25)).ownsRow w.heap.size 25 2 (.slice (some ⟨w3.heap.size, 0, none⟩) 0 0) 0 []) := by
        have h := World.ownsRow_made (base := w.heap.size) (e := 25) (size := 2) w3 #[] 0 (by omega) (by simp [maxLen]) rfl
        show World.ownsRow _ _ _ _ _ _ _
        simpa using h
      replace HO : Hid ((w3.alloc (.cells #[] 25)).ownsRow b 69 2 (.slice (some ⟨g, 0, none⟩) cs.length vc) cs.length (flat cs)) := row_below hb HO.out
      replace HR : Hid (RD (w3.alloc (.cells #[] 25)) a (q + 1)) := HR.out.below hb
      replace HG : Hid (w.grownBy (w3.alloc (.cells #[] 25)) (some a)) := grown_trans HG.out (gb0 hb _)
      replace HX : Hid ((w3.alloc (.cells #[] 25)).heap[w.heap.size]? = some (.cells #[.slice (some ⟨g, 0, none⟩) cs.length vc, .slice ua un uc] 42 (0, 0))) := below_heap hb (lt_of_heap HX.out) HX.out
      replace HN : Hid ((w3.alloc (.cells #[] 25)).heap[w.heap.size + 1]? = some (.cells #[.string ⟨#[]⟩, .string ⟨#[]⟩, .slice none 0 0] 28 (0, 0))) := below_heap hb (lt_of_heap HN.out) HN.out
      clear hb
      have HM : Hid ((w3.alloc (.cells #[] 25)).heap[w3.heap.size]? = some (.cells #[] 25 (0, 0))) := heap_alloc_new _ _
      generalize (w3.alloc (.cells #[] 25)) = w4 at *
      obtain ⟨b4, hbb4⟩ : ∃ x, x = w3.heap.size := ⟨_, rfl⟩
      rw [← hbb4] at HM HE ⊢
      clear hbb4
      clear hzz
      refine hK _ _ (fun _ => ⟨heap_cell HX.out 0, heap_cell HX.out 1, HO.out⟩) ?_
      clear hK K
      refine wpAnyT_two 6 14 rfl rfl (by kernel_rfl) (fun K hK => ?_) (fun K hK => ?_)
      · go_simp
        refine (pick_any a (q + 1) cs.length w4 hcs (by omega) (by omega) HR.out).mono ?_
        rintro e w5 ⟨k, hk, rfl, hr, hgr⟩
        replace HO : Hid (w5.ownsRow b 69 2 (.slice (some ⟨g, 0, none⟩) cs.length vc) cs.length (flat cs)) := HR.out.row HO.out (by decide) hgr
        replace HG : Hid (w.grownBy w5 (some a)) := grown_trans HG.out hgr
        replace HX : Hid (w5.heap[w.heap.size]? = some (.cells #[.slice (some ⟨g, 0, none⟩) cs.length vc, .slice ua un uc] 42 (0, 0))) := HR.out.box HX.out (by decide) hgr
        replace HN : Hid (w5.heap[w.heap.size + 1]? = some (.cells #[.string ⟨#[]⟩, .string ⟨#[]⟩, .slice none 0 0] 28 (0, 0))) := HR.out.box HN.out (by decide) hgr
        replace HM : Hid (w5.heap[b4]? = some (.cells #[] 25 (0, 0))) := HR.out.box HM.out (by decide) hgr
        replace HE : Hid (w5.ownsRow w.heap.size 25 2 (.slice (some ⟨b4, 0, none⟩) 0 0) 0 []) := HR.out.row HE.out (by decide) hgr
        have hzc := hgr.size
        replace HR : Hid (RD w5 a (q + 2)) := hr.mono (by omega)
        clear hr hgr hzc
        obtain ⟨⟨nm, sp⟩, hp⟩ : ∃ p, cs[k]? = some p := ⟨_, List.getElem?_eq_getElem hk⟩
        have hnm : nm.size ≤ 200 := name_size HCT.out hp
        have HF := hid (flat_get cs k _ hp).1
        clear hp
        refine hK _ _ (fun _ => ⟨heap_cell HX.out 0, heap_cell HX.out 1, HO.out⟩) ?_
        clear hK K
        refine wpAnyT_take (i := 7) (v := .pointer (some ⟨g, k * 2, none⟩)) rfl (by kernel_rfl) (by kernel_rfl) (by kernel_rfl) (by kernel_rfl) (fun _ _ _ h => h) (Or.inl ⟨by kernel_rfl, fun X hS => by obtain ⟨e0, e1, e2⟩ := hS; go_simp⟩) ⟨heap_cell HX.out 0, heap_cell HX.out 1, HO.out⟩ ?_
        try go_simp
        refine wpAnyT_take (i := 8) (v := .pointer (some ⟨g, k * 2, none⟩)) rfl (by kernel_rfl) (by kernel_rfl) (by kernel_rfl) (by kernel_rfl) (fun _ _ _ h => h) (Or.inl ⟨by kernel_rfl, fun X hS => by obtain ⟨e0, e1, e2⟩ := hS; go_simp⟩) ⟨heap_cell HX.out 0, heap_cell HX.out 1, HO.out⟩ ?_
        try go_simp
        refine wpAnyT_take (i := 9) (v := .string nm) rfl (by kernel_rfl) (by kernel_rfl) (by kernel_rfl) (by kernel_rfl) (fun _ _ _ h => h) (Or.inl ⟨by kernel_rfl, fun X hS => by obtain ⟨e0, e1, e2⟩ := hS; have e9 := row_cell e2 _ HF.out; go_simp⟩) ⟨heap_cell HX.out 0, heap_cell HX.out 1, HO.out⟩ ?_
        try go_simp
        refine wpAnyT_take (i := 11) (v := .agg #[.string nm, .string ⟨l.toArray⟩]) rfl (by kernel_rfl) (by kernel_rfl) (by kernel_rfl) (by kernel_rfl) (fun _ _ _ h => h) (Or.inl ⟨by kernel_rfl, fun X hS => by obtain ⟨e0, e1, e2⟩ := hS; go_simp⟩) ⟨heap_cell HX.out 0, heap_cell HX.out 1, HO.out⟩ ?_
        try go_simp
        refine wpAnyT_take (i := 13) (v := .agg #[.string nm, .string ⟨l.toArray⟩, .slice (some ⟨b4, 0, none⟩) 0 0]) rfl (by kernel_rfl) (by kernel_rfl) (by kernel_rfl) (by kernel_rfl) (fun _ _ _ h => h) (Or.inl ⟨by kernel_rfl, fun X hS => by obtain ⟨e0, e1, e2⟩ := hS; go_simp⟩) ⟨heap_cell HX.out 0, heap_cell HX.out 1, HO.out⟩ ?_
        try go_simp
        refine wpAnyT_one 14 rfl (by kernel_rfl) (fun K hK => ?_)
        go_simp
        have hzz := HG.out.size
        have hzn := lt_of_heap HN.out
        have hb : Below w5.heap.size w5 (w5.alloc (.cells #[.string ⟨#[]⟩, .string ⟨#[]⟩, .slice none 0 0] 28)) := (Below.refl _ _).alloc (Nat.le_refl _) _
        replace HO : Hid ((w5.alloc (.cells #[.string ⟨#[]⟩, .string ⟨#[]⟩, .slice none 0 0] 28)).ownsRow b 69 2 (.slice (some ⟨g, 0, none⟩) cs.length vc) cs.length (flat cs)) := row_below hb HO.out
        replace HR : Hid (RD (w5.alloc (.cells #[.string ⟨#[]⟩, .string ⟨#[]⟩, .slice none 0 0] 28)) a (q + 2)) := HR.out.below hb
        replace HG : Hid (w.grownBy (w5.alloc (.cells #[.string ⟨#[]⟩, .string ⟨#[]⟩, .slice none 0 0] 28)) (some a)) := grown_trans HG.out (gb0 hb _)
        replace HX : Hid ((w5.alloc (.cells #[.string ⟨#[]⟩, .string ⟨#[]⟩, .slice none 0 0] 28)).heap[w.heap.size]? = some (.cells #[.slice (some ⟨g, 0, none⟩) cs.length vc, .slice ua un uc] 42 (0, 0))) := below_heap hb (lt_of_heap HX.out) HX.out
        replace HN : Hid ((w5.alloc (.cells #[.string ⟨#[]⟩, .string ⟨#[]⟩, .slice none 0 0] 28)).heap[w.heap.size + 1]? = some (.cells #[.string ⟨#[]⟩, .string ⟨#[]⟩, .slice none 0 0] 28 (0, 0))) := below_heap hb (lt_of_heap HN.out) HN.out
        replace HM : Hid ((w5.alloc (.cells #[.string ⟨#[]⟩, .string ⟨#[]⟩, .slice none 0 0] 28)).heap[b4]? = some (.cells #[] 25 (0, 0))) := below_heap hb (lt_of_heap HM.out) HM.out
        replace HE : Hid ((w5.alloc (.cells #[.string ⟨#[]⟩, .string ⟨#[]⟩, .slice none 0 0] 28)).ownsRow w.heap.size 25 2 (.slice (some ⟨b4, 0, none⟩) 0 0) 0 []) := row_below hb HE.out
        clear hb
        have HI : Hid ((w5.alloc (.cells #[.string ⟨#[]⟩, .string ⟨#[]⟩, .slice none 0 0] 28)).heap[w5.heap.size]? = some (.cells #[.string ⟨#[]⟩, .string ⟨#[]⟩, .slice none 0 0] 28 (0, 0))) := heap_alloc_new _ _
        generalize (w5.alloc (.cells #[.string ⟨#[]⟩, .string ⟨#[]⟩, .slice none 0 0] 28)) = w6 at *
        obtain ⟨b6, hbb6⟩ : ∃ x, x = w5.heap.size := ⟨_, rfl⟩
        rw [← hbb6] at HI ⊢
        have hbo : w.heap.size + 1 < b6 := by omega
        clear hzz hzn
        clear hbb6
        refine hK _ _ (fun _ => ⟨heap_cell HX.out 0, heap_cell HX.out 1, HO.out⟩) ?_
        clear hK K
        refine wpAnyT_drop _ 15 _ _ _ (by decide) (by kernel_rfl) ?_
        change wpList _ _ _ [_] _ _
        obtain ⟨i0, i1, i2, f0, f1, f2⟩ := PIn.k3 HI.out
        have hli := lt_of_heap HI.out
        go_wp2
        go_meet
        case rel =>
          have hg := set3_boxR w6 b6 (.string nm) (.string ⟨l.toArray⟩) (.slice (some ⟨b4, 0, none⟩) 0 0)
          exact ⟨b6, b4, nm, rfl, hnm, hbo, heap_set (heap_set (heap_set HI.out 0 _) 1 _) 2 _, row_boxR HI.out HE.out (by decide) hg, row_boxR HI.out HO.out (by decide) hg, HR.out.grown hg (fun g hg => by cases hg; omega), grown_boxR HG.out hg (by omega), heap_boxR HX.out hg (by omega), heap_boxR HN.out hg (by omega)⟩
      · go_simp
        have hzz := HG.out.size
        have hzn := lt_of_heap HN.out
        have hb : Below w4.heap.size w4 (w4.alloc (.cells #[.string ⟨#[]⟩, .string ⟨#[]⟩, .slice none 0 0] 28)) := (Below.refl _ _).alloc (Nat.le_refl _) _
        replace HO : Hid ((w4.alloc (.cells #[.string ⟨#[]⟩, .string ⟨#[]⟩, .slice none 0 0] 28)).ownsRow b 69 2 (.slice (some ⟨g, 0, none⟩) cs.length vc) cs.length (flat cs)) := row_below hb HO.out
        replace HR : Hid (RD (w4.alloc (.cells #[.string ⟨#[]⟩, .string ⟨#[]⟩, .slice none 0 0] 28)) a (q + 1)) := HR.out.below hb
        replace HG : Hid (w.grownBy (w4.alloc (.cells #[.string ⟨#[]⟩, .string ⟨#[]⟩, .slice none 0 0] 28)) (some a)) := grown_trans HG.out (gb0 hb _)
        replace HX : Hid ((w4.alloc (.cells #[.string ⟨#[]⟩, .string ⟨#[]⟩, .slice none 0 0] 28)).heap[w.heap.size]? = some (.cells #[.slice (some ⟨g, 0, none⟩) cs.length vc, .slice ua un uc] 42 (0, 0))) := below_heap hb (lt_of_heap HX.out) HX.out
        replace HN : Hid ((w4.alloc (.cells #[.string ⟨#[]⟩, .string ⟨#[]⟩, .slice none 0 0] 28)).heap[w.heap.size + 1]? = some (.cells #[.string ⟨#[]⟩, .string ⟨#[]⟩, .slice none 0 0] 28 (0, 0))) := below_heap hb (lt_of_heap HN.out) HN.out
        replace HM : Hid ((w4.alloc (.cells #[.string ⟨#[]⟩, .string ⟨#[]⟩, .slice none 0 0] 28)).heap[b4]? = some (.cells #[] 25 (0, 0))) := below_heap hb (lt_of_heap HM.out) HM.out
        replace HE : Hid ((w4.alloc (.cells #[.string ⟨#[]⟩, .string ⟨#[]⟩, .slice none 0 0] 28)).ownsRow w.heap.size 25 2 (.slice (some ⟨b4, 0, none⟩) 0 0) 0 []) := row_below hb HE.out
        clear hb
        have HI : Hid ((w4.alloc (.cells #[.string ⟨#[]⟩, .string ⟨#[]⟩, .slice none 0 0] 28)).heap[w4.heap.size]? = some (.cells #[.string ⟨#[]⟩, .string ⟨#[]⟩, .slice none 0 0] 28 (0, 0))) := heap_alloc_new _ _
        generalize (w4.alloc (.cells #[.string ⟨#[]⟩, .string ⟨#[]⟩, .slice none 0 0] 28)) = w5 at *
        obtain ⟨b5, hbb5⟩ : ∃ x, x = w4.heap.size := ⟨_, rfl⟩
        rw [← hbb5] at HI ⊢
        have hbo : w.heap.size + 1 < b5 := by omega
        clear hzz hzn
        clear hbb5
        refine hK _ _ (fun _ => ⟨heap_cell HX.out 0, heap_cell HX.out 1, HO.out⟩) ?_
        clear hK K
        refine wpAnyT_one 6 rfl (by kernel_rfl) (fun K hK => ?_)
        go_simp
        refine (pick_any a (q + 1) cs.length w5 hcs (by omega) (by omega) HR.out).mono ?_
        rintro e w6 ⟨k, hk, rfl, hr, hgr⟩
        replace HO : Hid (w6.ownsRow b 69 2 (.slice (some ⟨g, 0, none⟩) cs.length vc) cs.length (flat cs)) := HR.out.row HO.out (by decide) hgr
        replace HG : Hid (w.grownBy w6 (some a)) := grown_trans HG.out hgr
        replace HX : Hid (w6.heap[w.heap.size]? = some (.cells #[.slice (some ⟨g, 0, none⟩) cs.length vc, .slice ua un uc] 42 (0, 0))) := HR.out.box HX.out (by decide) hgr
        replace HN : Hid (w6.heap[w.heap.size + 1]? = some (.cells #[.string ⟨#[]⟩, .string ⟨#[]⟩, .slice none 0 0] 28 (0, 0))) := HR.out.box HN.out (by decide) hgr
        replace HM : Hid (w6.heap[b4]? = some (.cells #[] 25 (0, 0))) := HR.out.box HM.out (by decide) hgr
        replace HE : Hid (w6.ownsRow w.heap.size 25 2 (.slice (some ⟨b4, 0, none⟩) 0 0) 0 []) := HR.out.row HE.out (by decide) hgr
        replace HI : Hid (w6.heap[b5]? = some (.cells #[.string ⟨#[]⟩, .string ⟨#[]⟩, .slice none 0 0] 28 (0, 0))) := HR.out.box HI.out (by decide) hgr
        have hzc := hgr.size
        replace HR : Hid (RD w6 a (q + 2)) := hr.mono (by omega)
        clear hr hgr hzc
        obtain ⟨⟨nm, sp⟩, hp⟩ : ∃ p, cs[k]? = some p := ⟨_, List.getElem?_eq_getElem hk⟩
        have hnm : nm.size ≤ 200 := name_size HCT.out hp
        have HF := hid (flat_get cs k _ hp).1
        clear hp
        refine hK _ _ (fun _ => ⟨heap_cell HX.out 0, heap_cell HX.out 1, HO.out⟩) ?_
        clear hK K
        refine wpAnyT_take (i := 7) (v := .pointer (some ⟨g, k * 2, none⟩)) rfl (by kernel_rfl) (by kernel_rfl) (by kernel_rfl) (by kernel_rfl) (fun _ _ _ h => h) (Or.inl ⟨by kernel_rfl, fun X hS => by obtain ⟨e0, e1, e2⟩ := hS; go_simp⟩) ⟨heap_cell HX.out 0, heap_cell HX.out 1, HO.out⟩ ?_
        try go_simp
        refine wpAnyT_take (i := 8) (v := .pointer (some ⟨g, k * 2, none⟩)) rfl (by kernel_rfl) (by kernel_rfl) (by kernel_rfl) (by kernel_rfl) (fun _ _ _ h => h) (Or.inl ⟨by kernel_rfl, fun X hS => by obtain ⟨e0, e1, e2⟩ := hS; go_simp⟩) ⟨heap_cell HX.out 0, heap_cell HX.out 1, HO.out⟩ ?_
        try go_simp
        refine wpAnyT_take (i := 9) (v := .string nm) rfl (by kernel_rfl) (by kernel_rfl) (by kernel_rfl) (by kernel_rfl) (fun _ _ _ h => h) (Or.inl ⟨by kernel_rfl, fun X hS => by obtain ⟨e0, e1, e2⟩ := hS; have e9 := row_cell e2 _ HF.out; go_simp⟩) ⟨heap_cell HX.out 0, heap_cell HX.out 1, HO.out⟩ ?_
        try go_simp
        refine wpAnyT_take (i := 11) (v := .agg #[.string nm, .string ⟨l.toArray⟩]) rfl (by kernel_rfl) (by kernel_rfl) (by kernel_rfl) (by kernel_rfl) (fun _ _ _ h => h) (Or.inl ⟨by kernel_rfl, fun X hS => by obtain ⟨e0, e1, e2⟩ := hS; go_simp⟩) ⟨heap_cell HX.out 0, heap_cell HX.out 1, HO.out⟩ ?_
        try go_simp
        refine wpAnyT_take (i := 13) (v := .agg #[.string nm, .string ⟨l.toArray⟩, .slice (some ⟨b4, 0, none⟩) 0 0]) rfl (by kernel_rfl) (by kernel_rfl) (by kernel_rfl) (by kernel_rfl) (fun _ _ _ h => h) (Or.inl ⟨by kernel_rfl, fun X hS => by obtain ⟨e0, e1, e2⟩ := hS; go_simp⟩) ⟨heap_cell HX.out 0, heap_cell HX.out 1, HO.out⟩ ?_
        try go_simp
        refine wpAnyT_drop _ 15 _ _ _ (by decide) (by kernel_rfl) ?_
        change wpList _ _ _ [_] _ _
        obtain ⟨i0, i1, i2, f0, f1, f2⟩ := PIn.k3 HI.out
        have hli := lt_of_heap HI.out
        go_wp2
        go_meet
        case rel =>
          have hg := set3_boxR w6 b5 (.string nm) (.string ⟨l.toArray⟩) (.slice (some ⟨b4, 0, none⟩) 0 0)
          exact ⟨b5, b4, nm, rfl, hnm, hbo, heap_set (heap_set (heap_set HI.out 0 _) 1 _) 2 _, row_boxR HI.out HE.out (by decide) hg, row_boxR HI.out HO.out (by decide) hg, HR.out.grown hg (fun g hg => by cases hg; omega), grown_boxR HG.out hg (by omega), heap_boxR HX.out hg (by omega), heap_boxR HN.out hg (by omega)⟩
    · go_simp
      have hzz := HG.out.size
      have hzn := lt_of_heap HN.out
      have hb : Below w3.heap.size w3 (w3.alloc (.cells #[.string ⟨#[]⟩, .string ⟨#[]⟩, .slice none 0 0] 28)) := (Below.refl _ _).alloc (Nat.le_refl _) _
      replace HO : Hid ((w3.alloc (.cells #[.string ⟨#[]⟩, .string ⟨#[]⟩, .slice none 0 0] 28)).ownsRow b 69 2 (.slice (some ⟨g, 0, none⟩) cs.length vc) cs.length (flat cs)) := row_below hb HO.out
      replace HR : Hid (RD (w3.alloc (.cells #[.string ⟨#[]⟩, .string ⟨#[]⟩, .slice none 0 0] 28)) a (q + 1)) := HR.out.below hb
      replace HG : Hid (w.grownBy (w3.alloc (.cells #[.string ⟨#[]⟩, .string ⟨#[]⟩, .slice none 0 0] 28)) (some a)) := grown_trans HG.out (gb0 hb _)
      replace HX : Hid ((w3.alloc (.cells #[.string ⟨#[]⟩, .string ⟨#[]⟩, .slice none 0 0] 28)).heap[w.heap.size]? = some (.cells #[.slice (some ⟨g, 0, none⟩) cs.length vc, .slice ua un uc] 42 (0, 0))) := below_heap hb (lt_of_heap HX.out) HX.out
      replace HN : Hid ((w3.alloc (.cells #[.string ⟨#[]⟩, .string ⟨#[]⟩, .slice none 0 0] 28)).heap[w.heap.size + 1]? = some (.cells #[.string ⟨#[]⟩, .string ⟨#[]⟩, .slice none 0 0] 28 (0, 0))) := below_heap hb (lt_of_heap HN.out) HN.out
      clear hb
      have HI : Hid ((w3.alloc (.cells #[.string ⟨#[]⟩, .string ⟨#[]⟩, .slice none 0 0] 28)).heap[w3.heap.size]? = some (.cells #[.string ⟨#[]⟩, .string ⟨#[]⟩, .slice none 0 0] 28 (0, 0))) := heap_alloc_new _ _
      generalize (w3.alloc (.cells #[.string ⟨#[]⟩, .string ⟨#[]⟩, .slice none 0 0] 28)) = w4 at *
      obtain ⟨b4, hbb4⟩ : ∃ x, x = w3.heap.size := ⟨_, rfl⟩
      rw [← hbb4] at HI ⊢
      have hbo : w.heap.size + 1 < b4 := by omega
      clear hzz hzn
      clear hbb4
      refine hK _ _ (fun _ => ⟨heap_cell HX.out 0, heap_cell HX.out 1, HO.out⟩) ?_
      clear hK K
      refine wpAnyT_two 6 12 rfl rfl (by kernel_rfl) (fun K hK => ?_) (fun K hK => ?_)
      · go_simp
        refine (pick_any a (q + 1) cs.length w4 hcs (by omega) (by omega) HR.out).mono ?_
        rintro e w5 ⟨k, hk, rfl, hr, hgr⟩
        replace HO : Hid (w5.ownsRow b 69 2 (.slice (some ⟨g, 0, none⟩) cs.length vc) cs.length (flat cs)) := HR.out.row HO.out (by decide) hgr
        replace HG : Hid (w.grownBy w5 (some a)) := grown_trans HG.out hgr
        replace HX : Hid (w5.heap[w.heap.size]? = some (.cells #[.slice (some ⟨g, 0, none⟩) cs.length vc, .slice ua un uc] 42 (0, 0))) := HR.out.box HX.out (by decide) hgr
        replace HN : Hid (w5.heap[w.heap.size + 1]? = some (.cells #[.string ⟨#[]⟩, .string ⟨#[]⟩, .slice none 0 0] 28 (0, 0))) := HR.out.box HN.out (by decide) hgr
        replace HI : Hid (w5.heap[b4]? = some (.cells #[.string ⟨#[]⟩, .string ⟨#[]⟩, .slice none 0 0] 28 (0, 0))) := HR.out.box HI.out (by decide) hgr
        have hzc := hgr.size
        replace HR : Hid (RD w5 a (q + 2)) := hr.mono (by omega)
        clear hr hgr hzc
        obtain ⟨⟨nm, sp⟩, hp⟩ : ∃ p, cs[k]? = some p := ⟨_, List.getElem?_eq_getElem hk⟩
        have hnm : nm.size ≤ 200 := name_size HCT.out hp
        have HF := hid (flat_get cs k _ hp).1
        clear hp
        refine hK _ _ (fun _ => ⟨heap_cell HX.out 0, heap_cell HX.out 1, HO.out⟩) ?_
        clear hK K
        refine wpAnyT_take (i := 7) (v := .pointer (some ⟨g, k * 2, none⟩)) rfl (by kernel_rfl) (by kernel_rfl) (by kernel_rfl) (by kernel_rfl) (fun _ _ _ h => h) (Or.inl ⟨by kernel_rfl, fun X hS => by obtain ⟨e0, e1, e2⟩ := hS; go_simp⟩) ⟨heap_cell HX.out 0, heap_cell HX.out 1, HO.out⟩ ?_
        try go_simp
        refine wpAnyT_take (i := 8) (v := .pointer (some ⟨g, k * 2, none⟩)) rfl (by kernel_rfl) (by kernel_rfl) (by kernel_rfl) (by kernel_rfl) (fun _ _ _ h => h) (Or.inl ⟨by kernel_rfl, fun X hS => by obtain ⟨e0, e1, e2⟩ := hS; go_simp⟩) ⟨heap_cell HX.out 0, heap_cell HX.out 1, HO.out⟩ ?_
        try go_simp
        refine wpAnyT_take (i := 9) (v := .string nm) rfl (by kernel_rfl) (by kernel_rfl) (by kernel_rfl) (by kernel_rfl) (fun _ _ _ h => h) (Or.inl ⟨by kernel_rfl, fun X hS => by obtain ⟨e0, e1, e2⟩ := hS; have e9 := row_cell e2 _ HF.out; go_simp⟩) ⟨heap_cell HX.out 0, heap_cell HX.out 1, HO.out⟩ ?_
        try go_simp
        refine wpAnyT_take (i := 11) (v := .agg #[.string nm, .string ⟨l.toArray⟩]) rfl (by kernel_rfl) (by kernel_rfl) (by kernel_rfl) (by kernel_rfl) (fun _ _ _ h => h) (Or.inl ⟨by kernel_rfl, fun X hS => by obtain ⟨e0, e1, e2⟩ := hS; go_simp⟩) ⟨heap_cell HX.out 0, heap_cell HX.out 1, HO.out⟩ ?_
        try go_simp
        refine wpAnyT_one 12 rfl (by kernel_rfl) (fun K hK => ?_)
        go_simp
        have hzz := HG.out.size
        have hb : Below w5.heap.size w5 (w5.alloc (.cells #[] 25)) := (Below.refl _ _).alloc (Nat.le_refl _) _
        have HE : Hid ((w5.alloc (.cells #[] 25)).ownsRow w.heap.size 25 2 (.slice (some ⟨w5.heap.size, 0, none⟩) 0 0) 0 []) := by
          have h := World.ownsRow_made (base := w.heap.size) (e := 25) (size := 2) w5 #[] 0 (by omega) (by simp [maxLen]) rfl
          show World.ownsRow _ _ _ _ _ _ _
          simpa using h
        replace HO : Hid ((w5.alloc (.cells #[] 25)).ownsRow b 69 2 (.slice (some ⟨g, 0, none⟩) cs.length vc) cs.length (flat cs)) := row_below hb HO.out
        replace HR : Hid (RD (w5.alloc (.cells #[] 25)) a (q + 2)) := HR.out.below hb
        replace HG : Hid (w.grownBy (w5.alloc (.cells #[] 25)) (some a)) := grown_trans HG.out (gb0 hb _)
        replace HX : Hid ((w5.alloc (.cells #[] 25)).heap[w.heap.size]? = some (.cells #[.slice (some ⟨g, 0, none⟩) cs.length vc, .slice ua un uc] 42 (0, 0))) := below_heap hb (lt_of_heap HX.out) HX.out
        replace HN : Hid ((w5.alloc (.cells #[] 25)).heap[w.heap.size + 1]? = some (.cells #[.string ⟨#[]⟩, .string ⟨#[]⟩, .slice none 0 0] 28 (0, 0))) := below_heap hb (lt_of_heap HN.out) HN.out
        replace HI : Hid ((w5.alloc (.cells #[] 25)).heap[b4]? = some (.cells #[.string ⟨#[]⟩, .string ⟨#[]⟩, .slice none 0 0] 28 (0, 0))) := below_heap hb (lt_of_heap HI.out) HI.out
        clear hb
        have HM : Hid ((w5.alloc (.cells #[] 25)).heap[w5.heap.size]? = some (.cells #[] 25 (0, 0))) := heap_alloc_new _ _
        generalize (w5.alloc (.cells #[] 25)) = w6 at *
        obtain ⟨b6, hbb6⟩ : ∃ x, x = w5.heap.size := ⟨_, rfl⟩
        rw [← hbb6] at HM HE ⊢
        clear hbb6
        clear hzz
        refine hK _ _ (fun _ => ⟨heap_cell HX.out 0, heap_cell HX.out 1, HO.out⟩) ?_
        clear hK K
        refine wpAnyT_take (i := 13) (v := .agg #[.string nm, .string ⟨l.toArray⟩, .slice (some ⟨b6, 0, none⟩) 0 0]) rfl (by kernel_rfl) (by kernel_rfl) (by kernel_rfl) (by kernel_rfl) (fun _ _ _ h => h) (Or.inl ⟨by kernel_rfl, fun X hS => by obtain ⟨e0, e1, e2⟩ := hS; go_simp⟩) ⟨heap_cell HX.out 0, heap_cell HX.out 1, HO.out⟩ ?_
        try go_simp
        refine wpAnyT_drop _ 15 _ _ _ (by decide) (by kernel_rfl) ?_
        change wpList _ _ _ [_] _ _
        obtain ⟨i0, i1, i2, f0, f1, f2⟩ := PIn.k3 HI.out
        have hli := lt_of_heap HI.out
        go_wp2
        go_meet
        case rel =>
          have hg := set3_boxR w6 b4 (.string nm) (.string ⟨l.toArray⟩) (.slice (some ⟨b6, 0, none⟩) 0 0)
          exact ⟨b4, b6, nm, rfl, hnm, hbo, heap_set (heap_set (heap_set HI.out 0 _) 1 _) 2 _, row_boxR HI.out HE.out (by decide) hg, row_boxR HI.out HO.out (by decide) hg, HR.out.grown hg (fun g hg => by cases hg; omega), grown_boxR HG.out hg (by omega), heap_boxR HX.out hg (by omega), heap_boxR HN.out hg (by omega)⟩
      · go_simp
        have hzz := HG.out.size
        have hb : Below w4.heap.size w4 (w4.alloc (.cells #[] 25)) := (Below.refl _ _).alloc (Nat.le_refl _) _
        have HE : Hid ((w4.alloc (.cells #[] 25)).ownsRow w.heap.size 25 2 (.slice (some ⟨w4.heap.size, 0, none⟩) 0 0) 0 []) := by
          have h := World.ownsRow_made (base := w.heap.size) (e := 25) (size := 2) w4 #[] 0 (by omega) (by simp [maxLen]) rfl
          show World.ownsRow _ _ _ _ _ _ _
          simpa using h
        replace HO : Hid ((w4.alloc (.cells #[] 25)).ownsRow b 69 2 (.slice (some ⟨g, 0, none⟩) cs.length vc) cs.length (flat cs)) := row_below hb HO.out
        replace HR : Hid (RD (w4.alloc (.cells #[] 25)) a (q + 1)) := HR.out.below hb
        replace HG : Hid (w.grownBy (w4.alloc (.cells #[] 25)) (some a)) := grown_trans HG.out (gb0 hb _)
        replace HX : Hid ((w4.alloc (.cells #[] 25)).heap[w.heap.size]? = some (.cells #[.slice (some ⟨g, 0, none⟩) cs.length vc, .slice ua un uc] 42 (0, 0))) := below_heap hb (lt_of_heap HX.out) HX.out
        replace HN : Hid ((w4.alloc (.cells #[] 25)).heap[w.heap.size + 1]? = some (.cells #[.string ⟨#[]⟩, .string ⟨#[]⟩, .slice none 0 0] 28 (0, 0))) := below_heap hb (lt_of_heap HN.out) HN.out
        replace HI : Hid ((w4.alloc (.cells #[] 25)).heap[b4]? = some (.cells #[.string ⟨#[]⟩, .string ⟨#[]⟩, .slice none 0 0] 28 (0, 0))) := below_heap hb (lt_of_heap HI.out) HI.out
        clear hb
        have HM : Hid ((w4.alloc (.cells #[] 25)).heap[w4.heap.size]? = some (.cells #[] 25 (0, 0))) := heap_alloc_new _ _
        generalize (w4.alloc (.cells #[] 25)) = w5 at *
        obtain ⟨b5, hbb5⟩ : ∃ x, x = w4.heap.size := ⟨_, rfl⟩
        rw [← hbb5] at HM HE ⊢
        clear hbb5
        clear hzz
        refine hK _ _ (fun _ => ⟨heap_cell HX.out 0, heap_cell HX.out 1, HO.out⟩) ?_
        clear hK K
        refine wpAnyT_one 6 rfl (by kernel_rfl) (fun K hK => ?_)
        go_simp
        refine (pick_any a (q + 1) cs.length w5 hcs (by omega) (by omega) HR.out).mono ?_
        rintro e w6 ⟨k, hk, rfl, hr, hgr⟩
        replace HO : Hid (w6.ownsRow b 69 2 (.slice (some ⟨g, 0, none⟩) cs.length vc) cs.length (flat cs)) := HR.out.row HO.out (by decide) hgr
        replace HG : Hid (w.grownBy w6 (some a)) := grown_trans HG.out hgr
        replace HX : Hid (w6.heap[w.heap.size]? = some (.cells #[.slice (some ⟨g, 0, none⟩) cs.length vc, .slice ua un uc] 42 (0, 0))) := HR.out.box HX.out (by decide) hgr
        replace HN : Hid (w6.heap[w.heap.size + 1]? = some (.cells #[.string ⟨#[]⟩, .string ⟨#[]⟩, .slice none 0 0] 28 (0, 0))) := HR.out.box HN.out (by decide) hgr
        replace HI : Hid (w6.heap[b4]? = some (.cells #[.string ⟨#[]⟩, .string ⟨#[]⟩, .slice none 0 0] 28 (0, 0))) := HR.out.box HI.out (by decide) hgr
        replace HM : Hid (w6.heap[b5]? = some (.cells #[] 25 (0, 0))) := HR.out.box HM.out (by decide) hgr
        replace HE : Hid (w6.ownsRow w.heap.size 25 2 (.slice (some ⟨b5, 0, none⟩) 0 0) 0 []) := HR.out.row HE.out (by decide) hgr
        have hzc := hgr.size
        replace HR : Hid (RD w6 a (q + 2)) := hr.mono (by omega)
        clear hr hgr hzc
        obtain ⟨⟨nm, sp⟩, hp⟩ : ∃ p, cs[k]? = some p := ⟨_, List.getElem?_eq_getElem hk⟩
        have hnm : nm.size ≤ 200 := name_size HCT.out hp
        have HF := hid (flat_get cs k _ hp).1
        clear hp
        refine hK _ _ (fun _ => ⟨heap_cell HX.out 0, heap_cell HX.out 1, HO.out⟩) ?_
        clear hK K
        refine wpAnyT_take (i := 7) (v := .pointer (some ⟨g, k * 2, none⟩)) rfl (by kernel_rfl) (by kernel_rfl) (by kernel_rfl) (by kernel_rfl) (fun _ _ _ h => h) (Or.inl ⟨by kernel_rfl, fun X hS => by obtain ⟨e0, e1, e2⟩ := hS; go_simp⟩) ⟨heap_cell HX.out 0, heap_cell HX.out 1, HO.out⟩ ?_
        try go_simp
        refine wpAnyT_take (i := 8) (v := .pointer (some ⟨g, k * 2, none⟩)) rfl (by kernel_rfl) (by kernel_rfl) (by kernel_rfl) (by kernel_rfl) (fun _ _ _ h => h) (Or.inl ⟨by kernel_rfl, fun X hS => by obtain ⟨e0, e1, e2⟩ := hS; go_simp⟩) ⟨heap_cell HX.out 0, heap_cell HX.out 1, HO.out⟩ ?_
        try go_simp
        refine wpAnyT_take (i := 9) (v := .string nm) rfl (by kernel_rfl) (by kernel_rfl) (by kernel_rfl) (by kernel_rfl) (fun _ _ _ h => h) (Or.inl ⟨by kernel_rfl, fun X hS => by obtain ⟨e0, e1, e2⟩ := hS; have e9 := row_cell e2 _ HF.out; go_simp⟩) ⟨heap_cell HX.out 0, heap_cell HX.out 1, HO.out⟩ ?_
        try go_simp
        refine wpAnyT_take (i := 11) (v := .agg #[.string nm, .string ⟨l.toArray⟩]) rfl (by kernel_rfl) (by kernel_rfl) (by kernel_rfl) (by kernel_rfl) (fun _ _ _ h => h) (Or.inl ⟨by kernel_rfl, fun X hS => by obtain ⟨e0, e1, e2⟩ := hS; go_simp⟩) ⟨heap_cell HX.out 0, heap_cell HX.out 1, HO.out⟩ ?_
        try go_simp
        refine wpAnyT_take (i := 13) (v := .agg #[.string nm, .string ⟨l.toArray⟩, .slice (some ⟨b5, 0, none⟩) 0 0]) rfl (by kernel_rfl) (by kernel_rfl) (by kernel_rfl) (by kernel_rfl) (fun _ _ _ h => h) (Or.inl ⟨by kernel_rfl, fun X hS => by obtain ⟨e0, e1, e2⟩ := hS; go_simp⟩) ⟨heap_cell HX.out 0, heap_cell HX.out 1, HO.out⟩ ?_
        try go_simp
        refine wpAnyT_drop _ 15 _ _ _ (by decide) (by kernel_rfl) ?_
        change wpList _ _ _ [_] _ _
        obtain ⟨i0, i1, i2, f0, f1, f2⟩ := PIn.k3 HI.out
        have hli := lt_of_heap HI.out
        go_wp2
        go_meet
        case rel =>
          have hg := set3_boxR w6 b4 (.string nm) (.string ⟨l.toArray⟩) (.slice (some ⟨b5, 0, none⟩) 0 0)
          exact ⟨b4, b5, nm, rfl, hnm, hbo, heap_set (heap_set (heap_set HI.out 0 _) 1 _) 2 _, row_boxR HI.out HE.out (by decide) hg, row_boxR HI.out HO.out (by decide) hg, HR.out.grown hg (fun g hg => by cases hg; omega), grown_boxR HG.out hg (by omega), heap_boxR HX.out hg (by omega), heap_boxR HN.out hg (by omega)⟩
  case rest =>
    obtain ⟨bo, gn, x, rfl, hx, hbo, hbh, hrow, hHO, hHR, hHG, hHX, hHN⟩ := hcut
    have HBO := hid hbh.out
    have HE := hid hrow.out
    clear HO HR HG HX HN
    have HO := hid hHO.out
    have HR := hid hHR.out
    have HG := hid hHG.out
    have HX := hid hHX.out
    have HN := hid hHN.out
    clear hbh hrow hHO hHR hHG hHX hHN
    go_wp2_with fail
    have hzz := HG.out.size
    have hb : Below wc.heap.size wc (wc.alloc (.cells #[.int .i64 1, .int .i64 0, .int .i64 1, .int .i64 2] 3)) := (Below.refl _ _).alloc (Nat.le_refl _) _
    replace HO : Hid ((wc.alloc (.cells #[.int .i64 1, .int .i64 0, .int .i64 1, .int .i64 2] 3)).ownsRow b 69 2 (.slice (some ⟨g, 0, none⟩) cs.length vc) cs.length (flat cs)) := row_below hb HO.out
    replace HR : Hid (RD (wc.alloc (.cells #[.int .i64 1, .int .i64 0, .int .i64 1, .int .i64 2] 3)) a (q + 2)) := HR.out.below hb
    replace HG : Hid (w.grownBy (wc.alloc (.cells #[.int .i64 1, .int .i64 0, .int .i64 1, .int .i64 2] 3)) (some a)) := grown_trans HG.out (gb0 hb _)
    replace HX : Hid ((wc.alloc (.cells #[.int .i64 1, .int .i64 0, .int .i64 1, .int .i64 2] 3)).heap[w.heap.size]? = some (.cells #[.slice (some ⟨g, 0, none⟩) cs.length vc, .slice ua un uc] 42 (0, 0))) := below_heap hb (lt_of_heap HX.out) HX.out
    replace HN : Hid ((wc.alloc (.cells #[.int .i64 1, .int .i64 0, .int .i64 1, .int .i64 2] 3)).heap[w.heap.size + 1]? = some (.cells #[.string ⟨#[]⟩, .string ⟨#[]⟩, .slice none 0 0] 28 (0, 0))) := below_heap hb (lt_of_heap HN.out) HN.out
    replace HBO : Hid ((wc.alloc (.cells #[.int .i64 1, .int .i64 0, .int .i64 1, .int .i64 2] 3)).heap[bo]? = some (.cells #[.string x, .string ⟨l.toArray⟩, .slice (some ⟨gn, 0, none⟩) 0 0] 28 (0, 0))) := below_heap hb (lt_of_heap HBO.out) HBO.out
    replace HE : Hid ((wc.alloc (.cells #[.int .i64 1, .int .i64 0, .int .i64 1, .int .i64 2] 3)).ownsRow w.heap.size 25 2 (.slice (some ⟨gn, 0, none⟩) 0 0) 0 []) := row_below hb HE.out
    clear hb
    have HQ : Hid ((wc.alloc (.cells #[.int .i64 1, .int .i64 0, .int .i64 1, .int .i64 2] 3)).heap[wc.heap.size]? = some (.cells #[.int .i64 1, .int .i64 0, .int .i64 1, .int .i64 2] 3 (0, 0))) := heap_alloc_new _ _
    generalize (wc.alloc (.cells #[.int .i64 1, .int .i64 0, .int .i64 1, .int .i64 2] 3)) = w3 at *
    obtain ⟨b3, hbb3⟩ : ∃ x, x = wc.heap.size := ⟨_, rfl⟩
    rw [← hbb3] at HQ ⊢
    clear hzz
    clear hbb3
    refine (num_any a (q + 2) b3 4 2 _ _ (by omega) (by decide) (by decide) rfl HQ.out (by decide) HR.out).mono ?_
    rintro e w4 ⟨n, rfl, hn2, hr, hgr⟩
    replace HO : Hid (w4.ownsRow b 69 2 (.slice (some ⟨g, 0, none⟩) cs.length vc) cs.length (flat cs)) := HR.out.row HO.out (by decide) hgr
    replace HG : Hid (w.grownBy w4 (some a)) := grown_trans HG.out hgr
    replace HX : Hid (w4.heap[w.heap.size]? = some (.cells #[.slice (some ⟨g, 0, none⟩) cs.length vc, .slice ua un uc] 42 (0, 0))) := HR.out.box HX.out (by decide) hgr
    replace HN : Hid (w4.heap[w.heap.size + 1]? = some (.cells #[.string ⟨#[]⟩, .string ⟨#[]⟩, .slice none 0 0] 28 (0, 0))) := HR.out.box HN.out (by decide) hgr
    replace HBO : Hid (w4.heap[bo]? = some (.cells #[.string x, .string ⟨l.toArray⟩, .slice (some ⟨gn, 0, none⟩) 0 0] 28 (0, 0))) := HR.out.box HBO.out (by decide) hgr
    replace HE : Hid (w4.ownsRow w.heap.size 25 2 (.slice (some ⟨gn, 0, none⟩) 0 0) 0 []) := HR.out.row HE.out (by decide) hgr
    replace HQ : Hid (w4.heap[b3]? = some (.cells #[.int .i64 1, .int .i64 0, .int .i64 1, .int .i64 2] 3 (0, 0))) := HR.out.box HQ.out (by decide) hgr
    have hzc := hgr.size
    replace HR : Hid (RD w4 a (q + 3)) := hr.mono (by omega)
    clear hr hgr hzc
    clear HQ
    obtain ⟨vl, hvl⟩ : ∃ v, v = varsL l := ⟨_, rfl⟩
    have hvl6 : vl.length ≤ 6 := by rw [hvl]; exact varsL_len l
    have HVS := hid (fun w => VarsOf_spec l w (by omega))
    rw [← hvl] at HVS
    clear hvl
    go_wp2_with fail
    go_loopg [27] n (fun u i wr => ∃ (k m g2 c : Nat) (xs : List BB), k ≤ n ∧ n - k ≤ u ∧ i = .int .i64 k ∧ m ≤ k ∧ Hid (xs.length = m) ∧ Hid (∀ p ∈ xs, p.1.size ≤ 200 ∧ p.2.size ≤ 40) ∧ Hid (wr.heap[bo]? = some (.cells #[.string x, .string ⟨l.toArray⟩, .slice (some ⟨g2, 0, none⟩) m c] 28 (0, 0))) ∧ Hid (wr.ownsRow w.heap.size 25 2 (.slice (some ⟨g2, 0, none⟩) m c) m (flat xs)) ∧ Hid (RD wr a (q + 3 + 50 * k)) ∧ Hid (wr.ownsRow b 69 2 (.slice (some ⟨g, 0, none⟩) cs.length vc) cs.length (flat cs)) ∧ Hid (w.grownBy wr (some a)) ∧ Hid (wr.heap[w.heap.size]? = some (.cells #[.slice (some ⟨g, 0, none⟩) cs.length vc, .slice ua un uc] 42 (0, 0))) ∧ Hid (wr.heap[w.heap.size + 1]? = some (.cells #[.string ⟨#[]⟩, .string ⟨#[]⟩, .slice none 0 0] 28 (0, 0))))
    case atStart => exact ⟨0, 0, gn, 0, [], Nat.zero_le _, by simp, rfl, Nat.le_refl _, rfl, (by show ∀ p ∈ _, _; simp), HBO.out, HE.out, HR.out.mono (by omega), HO.out, HG.out, HX.out, HN.out⟩
    case round =>
      clear HBO HE HR HO HG HX HN
      obtain ⟨k, m, g2, c, xs, hk, hu, rfl, hmk, hxl, hxs, hHBO, hHE, hHR, hHO, hHG, hHX, hHN⟩ := hrel
      have HXL := hid hxl.out
      have HXS := hid hxs.out
      have HBO := hid hHBO.out
      have HE := hid hHE.out
      have HR := hid hHR.out
      have HO := hid hHO.out
      have HG := hid hHG.out
      have HX := hid hHX.out
      have HN := hid hHN.out
      clear hxl hxs hHBO hHE hHR hHO hHG hHX hHN
      by_cases hlt : k < n
      · go_wp2_with fail
        refine (HVS.out wr).mono ?_
        rintro e w5 ⟨rfl, hb⟩
        replace HO : Hid (w5.ownsRow b 69 2 (.slice (some ⟨g, 0, none⟩) cs.length vc) cs.length (flat cs)) := row_below hb HO.out
        replace HR : Hid (RD w5 a (q + 3 + 50 * k)) := HR.out.below hb
        replace HG : Hid (w.grownBy w5 (some a)) := grown_trans HG.out (gb0 hb _)
        replace HX : Hid (w5.heap[w.heap.size]? = some (.cells #[.slice (some ⟨g, 0, none⟩) cs.length vc, .slice ua un uc] 42 (0, 0))) := below_heap hb (lt_of_heap HX.out) HX.out
        replace HN : Hid (w5.heap[w.heap.size + 1]? = some (.cells #[.string ⟨#[]⟩, .string ⟨#[]⟩, .slice none 0 0] 28 (0, 0))) := below_heap hb (lt_of_heap HN.out) HN.out
        replace HBO : Hid (w5.heap[bo]? = some (.cells #[.string x, .string ⟨l.toArray⟩, .slice (some ⟨g2, 0, none⟩) m c] 28 (0, 0))) := below_heap hb (lt_of_heap HBO.out) HBO.out
        replace HE : Hid (w5.ownsRow w.heap.size 25 2 (.slice (some ⟨g2, 0, none⟩) m c) m (flat xs)) := row_below hb HE.out
        clear hb
        by_cases hv0 : vl = []
        · have hve : vl.isEmpty = true := by rw [hv0]; rfl
          go_wp2_with fail
          refine (pick_any a (q + 3 + 50 * k) 4 w5 (by decide) (by decide) (by omega) HR.out).mono ?_
          rintro e w6 ⟨j, hj, rfl, hr, hgr⟩
          replace HO : Hid (w6.ownsRow b 69 2 (.slice (some ⟨g, 0, none⟩) cs.length vc) cs.length (flat cs)) := HR.out.row HO.out (by decide) hgr
          replace HG : Hid (w.grownBy w6 (some a)) := grown_trans HG.out hgr
          replace HX : Hid (w6.heap[w.heap.size]? = some (.cells #[.slice (some ⟨g, 0, none⟩) cs.length vc, .slice ua un uc] 42 (0, 0))) := HR.out.box HX.out (by decide) hgr
          replace HN : Hid (w6.heap[w.heap.size + 1]? = some (.cells #[.string ⟨#[]⟩, .string ⟨#[]⟩, .slice none 0 0] 28 (0, 0))) := HR.out.box HN.out (by decide) hgr
          replace HBO : Hid (w6.heap[bo]? = some (.cells #[.string x, .string ⟨l.toArray⟩, .slice (some ⟨g2, 0, none⟩) m c] 28 (0, 0))) := HR.out.box HBO.out (by decide) hgr
          replace HE : Hid (w6.ownsRow w.heap.size 25 2 (.slice (some ⟨g2, 0, none⟩) m c) m (flat xs)) := HR.out.row HE.out (by decide) hgr
          have hzc := hgr.size
          replace HR : Hid (RD w6 a (q + 3 + 50 * k + 1)) := hr.mono (by omega)
          clear hr hgr hzc
          by_cases hj0 : j = 0
          · subst hj0
            go_wp2_with fail
            clear hv0 hve
            refine wp_region_any (by kernel_rfl) ?_
            change wpAny _ _ _ _ _ _ _ (World.drew _)
            have hb : Below w6.heap.size w6 w6.drew := (Below.refl _ _).drew
            replace HO : Hid (w6.drew.ownsRow b 69 2 (.slice (some ⟨g, 0, none⟩) cs.length vc) cs.length (flat cs)) := row_below hb HO.out
            replace HR : Hid (RD w6.drew a (q + 3 + 50 * k + 1)) := HR.out.below hb
            replace HG : Hid (w.grownBy w6.drew (some a)) := grown_trans HG.out (gb0 hb _)
            replace HX : Hid (w6.drew.heap[w.heap.size]? = some (.cells #[.slice (some ⟨g, 0, none⟩) cs.length vc, .slice ua un uc] 42 (0, 0))) := below_heap hb (lt_of_heap HX.out) HX.out
            replace HN : Hid (w6.drew.heap[w.heap.size + 1]? = some (.cells #[.string ⟨#[]⟩, .string ⟨#[]⟩, .slice none 0 0] 28 (0, 0))) := below_heap hb (lt_of_heap HN.out) HN.out
            replace HBO : Hid (w6.drew.heap[bo]? = some (.cells #[.string x, .string ⟨l.toArray⟩, .slice (some ⟨g2, 0, none⟩) m c] 28 (0, 0))) := below_heap hb (lt_of_heap HBO.out) HBO.out
            replace HE : Hid (w6.drew.ownsRow w.heap.size 25 2 (.slice (some ⟨g2, 0, none⟩) m c) m (flat xs)) := row_below hb HE.out
            clear hb
            generalize w6.drew = w7 at *
            refine wpAny_of_T (S := fun X => X.cell? ⟨w.heap.size, 0, none⟩ = some (.slice (some ⟨g, 0, none⟩) cs.length vc) ∧ X.cell? ⟨w.heap.size, 1, none⟩ = some (.slice ua un uc) ∧ X.cell? ⟨bo, 2, none⟩ = some (.slice (some ⟨g2, 0, none⟩) m c)) (m := 9) _ _ _ _ ?_
            refine wpAnyT_take (i := 0) (v := .pointer (some ⟨bo, 2, none⟩)) rfl (by kernel_rfl) (by kernel_rfl) (by kernel_rfl) (by kernel_rfl) (fun _ _ _ h => h) (Or.inl ⟨by kernel_rfl, fun X hS => by obtain ⟨e0, e1, e2⟩ := hS; go_simp⟩) ⟨heap_cell HX.out 0, heap_cell HX.out 1, heap_cell HBO.out 2⟩ ?_
            try go_simp
            refine wpAnyT_take (i := 1) (v := .slice (some ⟨g2, 0, none⟩) m c) rfl (by kernel_rfl) (by kernel_rfl) (by kernel_rfl) (by kernel_rfl) (fun _ _ _ h => h) (Or.inl ⟨by kernel_rfl, fun X hS => by obtain ⟨e0, e1, e2⟩ := hS; go_simp⟩) ⟨heap_cell HX.out 0, heap_cell HX.out 1, heap_cell HBO.out 2⟩ ?_
            try go_simp
            refine wpAnyT_take (i := 2) (v := .pointer (some ⟨a, 0, none⟩)) rfl (by kernel_rfl) (by kernel_rfl) (by kernel_rfl) (by kernel_rfl) (fun _ _ _ h => h) (Or.inl ⟨by kernel_rfl, fun X hS => by obtain ⟨e0, e1, e2⟩ := hS; go_simp⟩) ⟨heap_cell HX.out 0, heap_cell HX.out 1, heap_cell HBO.out 2⟩ ?_
            try go_simp
            refine wpAnyT_take (i := 3) (v := .agg #[.slice (some ⟨g, 0, none⟩) cs.length vc, .slice ua un uc]) rfl (by kernel_rfl) (by kernel_rfl) (by kernel_rfl) (by kernel_rfl) (fun _ _ _ h => h) (Or.inl ⟨by kernel_rfl, fun X hS => by obtain ⟨e0, e1, e2⟩ := hS; go_simp⟩) ⟨heap_cell HX.out 0, heap_cell HX.out 1, heap_cell HBO.out 2⟩ ?_
            try go_simp
            refine wpAnyT_take (i := 4) (v := .string ⟨l.toArray⟩) rfl (by kernel_rfl) (by kernel_rfl) (by kernel_rfl) (by kernel_rfl) (fun _ _ _ h => h) (Or.inl ⟨by kernel_rfl, fun X hS => by obtain ⟨e0, e1, e2⟩ := hS; go_simp⟩) ⟨heap_cell HX.out 0, heap_cell HX.out 1, heap_cell HBO.out 2⟩ ?_
            try go_simp
            refine wpAnyT_one 5 rfl (by kernel_rfl) (fun K hK => ?_)
            go_simp
            refine (HVS.out w7).mono ?_
            rintro e w8 ⟨rfl, hb⟩
            replace HO : Hid (w8.ownsRow b 69 2 (.slice (some ⟨g, 0, none⟩) cs.length vc) cs.length (flat cs)) := row_below hb HO.out
            replace HR : Hid (RD w8 a (q + 3 + 50 * k + 1)) := HR.out.below hb
            replace HG : Hid (w.grownBy w8 (some a)) := grown_trans HG.out (gb0 hb _)
            replace HX : Hid (w8.heap[w.heap.size]? = some (.cells #[.slice (some ⟨g, 0, none⟩) cs.length vc, .slice ua un uc] 42 (0, 0))) := below_heap hb (lt_of_heap HX.out) HX.out
            replace HN : Hid (w8.heap[w.heap.size + 1]? = some (.cells #[.string ⟨#[]⟩, .string ⟨#[]⟩, .slice none 0 0] 28 (0, 0))) := below_heap hb (lt_of_heap HN.out) HN.out
            replace HBO : Hid (w8.heap[bo]? = some (.cells #[.string x, .string ⟨l.toArray⟩, .slice (some ⟨g2, 0, none⟩) m c] 28 (0, 0))) := below_heap hb (lt_of_heap HBO.out) HBO.out
            replace HE : Hid (w8.ownsRow w.heap.size 25 2 (.slice (some ⟨g2, 0, none⟩) m c) m (flat xs)) := row_below hb HE.out
            clear hb
            refine hK _ _ (fun _ => ⟨heap_cell HX.out 0, heap_cell HX.out 1, heap_cell HBO.out 2⟩) ?_
            clear hK K
            refine wpAnyT_one 6 rfl (by kernel_rfl) (fun K hK => ?_)
            go_simp
            refine (l3DrawNeed_any a (q + 3 + 50 * k + 1) b vc un uc (some ⟨g, 0, none⟩) ua cs vl w8 (by omega) hcs HCT.out (by omega) (HR.out.mono (by omega)) HO.out).mono ?_
            rintro e w9 ⟨x1, y1, rfl, hx1, hy1, hr, hgr⟩
            replace HO : Hid (w9.ownsRow b 69 2 (.slice (some ⟨g, 0, none⟩) cs.length vc) cs.length (flat cs)) := HR.out.row HO.out (by decide) hgr
            replace HG : Hid (w.grownBy w9 (some a)) := grown_trans HG.out hgr
            replace HX : Hid (w9.heap[w.heap.size]? = some (.cells #[.slice (some ⟨g, 0, none⟩) cs.length vc, .slice ua un uc] 42 (0, 0))) := HR.out.box HX.out (by decide) hgr
            replace HN : Hid (w9.heap[w.heap.size + 1]? = some (.cells #[.string ⟨#[]⟩, .string ⟨#[]⟩, .slice none 0 0] 28 (0, 0))) := HR.out.box HN.out (by decide) hgr
            replace HBO : Hid (w9.heap[bo]? = some (.cells #[.string x, .string ⟨l.toArray⟩, .slice (some ⟨g2, 0, none⟩) m c] 28 (0, 0))) := HR.out.box HBO.out (by decide) hgr
            replace HE : Hid (w9.ownsRow w.heap.size 25 2 (.slice (some ⟨g2, 0, none⟩) m c) m (flat xs)) := HR.out.row HE.out (by decide) hgr
            have hzc := hgr.size
            replace HR : Hid (RD w9 a (q + 3 + 50 * k + 50)) := hr.mono (by omega)
            clear hr hgr hzc
            refine hK _ _ (fun _ => ⟨heap_cell HX.out 0, heap_cell HX.out 1, heap_cell HBO.out 2⟩) ?_
            clear hK K
            refine wpAnyT_one 7 rfl (by kernel_rfl) (fun K hK => ?_)
            go_simp
            have hzz := HG.out.size
            have hb : Below w9.heap.size w9 (w9.alloc (.cells #[.string x1, .string y1] 25)) := (Below.refl _ _).alloc (Nat.le_refl _) _
            replace HO : Hid ((w9.alloc (.cells #[.string x1, .string y1] 25)).ownsRow b 69 2 (.slice (some ⟨g, 0, none⟩) cs.length vc) cs.length (flat cs)) := row_below hb HO.out
            replace HR : Hid (RD (w9.alloc (.cells #[.string x1, .string y1] 25)) a (q + 3 + 50 * k + 50)) := HR.out.below hb
            replace HG : Hid (w.grownBy (w9.alloc (.cells #[.string x1, .string y1] 25)) (some a)) := grown_trans HG.out (gb0 hb _)
            replace HX : Hid ((w9.alloc (.cells #[.string x1, .string y1] 25)).heap[w.heap.size]? = some (.cells #[.slice (some ⟨g, 0, none⟩) cs.length vc, .slice ua un uc] 42 (0, 0))) := below_heap hb (lt_of_heap HX.out) HX.out
            replace HN : Hid ((w9.alloc (.cells #[.string x1, .string y1] 25)).heap[w.heap.size + 1]? = some (.cells #[.string ⟨#[]⟩, .string ⟨#[]⟩, .slice none 0 0] 28 (0, 0))) := below_heap hb (lt_of_heap HN.out) HN.out
            replace HBO : Hid ((w9.alloc (.cells #[.string x1, .string y1] 25)).heap[bo]? = some (.cells #[.string x, .string ⟨l.toArray⟩, .slice (some ⟨g2, 0, none⟩) m c] 28 (0, 0))) := below_heap hb (lt_of_heap HBO.out) HBO.out
            replace HE : Hid ((w9.alloc (.cells #[.string x1, .string y1] 25)).ownsRow w.heap.size 25 2 (.slice (some ⟨g2, 0, none⟩) m c) m (flat xs)) := row_below hb HE.out
            clear hb
            have HNW : Hid ((w9.alloc (.cells #[.string x1, .string y1] 25)).heap[w9.heap.size]? = some (.cells #[.string x1, .string y1] 25 (0, 0))) := heap_alloc_new _ _
            generalize (w9.alloc (.cells #[.string x1, .string y1] 25)) = w10 at *
            obtain ⟨b10, hbb10⟩ : ∃ x, x = w9.heap.size := ⟨_, rfl⟩
            rw [← hbb10] at HNW ⊢
            clear hzz
            clear hbb10
            refine hK _ _ (fun _ => ⟨heap_cell HX.out 0, heap_cell HX.out 1, heap_cell HBO.out 2⟩) ?_
            clear hK K
            have hadd : ∀ j, (⟨b10, 0, none⟩ : Addr).add j = ⟨b10, j, none⟩ := fun j => by unfold Addr.add; split <;> simp_all
            have hzz := HG.out.size
            obtain ⟨ib, hib, hz0, hz1, hz2⟩ := info_parts infoNeedW
            refine wpAnyT_one 8 rfl (by kernel_rfl) (fun K hK => ?_)
            rw [if_pos (by kernel_rfl)]
            refine (wp_append_lies w10 (Operand.tmp 38) (Operand.tmp 44) 26 rfl (w.heap.size) 25 ib (.agg #[.string ⟨#[]⟩, .string ⟨#[]⟩]) 2 32 Tryd.underlying26 hib hz0 hz1 hz2 rfl (by decide) (.slice (some ⟨g2, 0, none⟩) m c) (m) (flat xs) rfl HE.out ⟨b10, 0, none⟩ 1 1 [.string x1, .string y1] rfl (by simp) (fun j u hj => by rw [hadd]; exact news_two (heap_cell HNW.out 0) (heap_cell HNW.out 1) j u hj) (by simp [Value.oneCell']) (by decide) (by unfold maxLen; omega) (by omega) (by omega) w10.heap.size rfl fun g1' cap1 w11 hown hgr hlie hlt9 => hK _ _ (fun _ => ⟨heap_cell (keep_rowG hgr HE.out HX.out (by decide)) 0, heap_cell (keep_rowG hgr HE.out HX.out (by decide)) 1, heap_cell (keep_rowG hgr HE.out HBO.out (by decide)) 2⟩) ?_)
            clear hK K hadd hib hz0 hz1 hz2 hlie hlt9 HNW
            replace HO : Hid (w11.ownsRow b 69 2 (.slice (some ⟨g, 0, none⟩) cs.length vc) cs.length (flat cs)) := row_grownG hgr HO.out HE.out (by decide)
            replace HR : Hid (RD w11 a (q + 3 + 50 * k + 50)) := HR.out.grown hgr (fun g hg => by have := (row_own HE.out g hg).1; omega)
            replace HG : Hid (w.grownBy w11 (some a)) := grown_rowR HG.out HE.out (by omega) hgr
            replace HX : Hid (w11.heap[w.heap.size]? = some (.cells #[.slice (some ⟨g, 0, none⟩) cs.length vc, .slice ua un uc] 42 (0, 0))) := keep_rowG hgr HE.out HX.out (by decide)
            replace HN : Hid (w11.heap[w.heap.size + 1]? = some (.cells #[.string ⟨#[]⟩, .string ⟨#[]⟩, .slice none 0 0] 28 (0, 0))) := keep_rowG hgr HE.out HN.out (by decide)
            replace HBO : Hid (w11.heap[bo]? = some (.cells #[.string x, .string ⟨l.toArray⟩, .slice (some ⟨g2, 0, none⟩) m c] 28 (0, 0))) := keep_rowG hgr HE.out HBO.out (by decide)
            replace HE : Hid (w11.ownsRow w.heap.size 25 2 (.slice (some ⟨g1', 0, none⟩) (m + 1) cap1) (m + 1) (flat xs ++ [.string x1, .string y1])) := hown
            clear hown hgr hzz
            refine wpAnyT_drop _ 9 _ _ _ (by decide) (by kernel_rfl) ?_
            change wpList _ _ _ [_, _] _ _
            obtain ⟨i0, i1, i2, f0, f1, f2⟩ := PIn.k3 HBO.out
            have hli := lt_of_heap HBO.out
            go_wp2_with fail
            go_roundg (n - (k + 1))
            case measure => omega
            case rel =>
              have hg := grown_set w11 bo 2 (.slice (some ⟨g1', 0, none⟩) (m + 1) cap1)
              refine ⟨k + 1, m + 1, g1', cap1, xs ++ [(x1, y1)], by omega, by omega, by go_num, by omega, ?_, ?_, heap_set HBO.out 2 _, ?_, (HR.out.grown hg (fun g hg => by cases hg; omega)).mono (by omega), row_boxR HBO.out HO.out (by decide) hg, grown_boxR HG.out hg (by omega), heap_boxR HX.out hg (by omega), heap_boxR HN.out hg (by omega)⟩
              · show _ = _
                rw [List.length_append, HXL.out]; rfl
              · show ∀ p ∈ _, _
                intro p hp
                rcases List.mem_append.1 hp with hp | hp
                · exact HXS.out p hp
                · simp at hp; subst hp; exact ⟨hx1, hy1⟩
              · show World.ownsRow _ _ _ _ _ _ _
                rw [flat_snocW]
                exact row_boxR HBO.out HE.out (by decide) hg
          · have hj1 : ((j : Int) == 0) = false := by rw [beq_eq_false_iff_ne]; omega
            go_wp2_with fail
            go_roundg (n - (k + 1))
            case measure => omega
            case rel => exact ⟨k + 1, m, g2, c, xs, by omega, by omega, by go_num, by omega, HXL.out, HXS.out, HBO.out, HE.out, HR.out.mono (by omega), HO.out, HG.out, HX.out, HN.out⟩
        · have hve : vl.isEmpty = false := by
            cases vl with
            | nil => exact absurd rfl hv0
            | cons c r => rfl
          go_wp2_with fail
          clear hv0 hve
          refine wp_region_any (by kernel_rfl) ?_
          change wpAny _ _ _ _ _ _ _ (World.drew _)
          have hb : Below w5.heap.size w5 w5.drew := (Below.refl _ _).drew
          replace HO : Hid (w5.drew.ownsRow b 69 2 (.slice (some ⟨g, 0, none⟩) cs.length vc) cs.length (flat cs)) := row_below hb HO.out
          replace HR : Hid (RD w5.drew a (q + 3 + 50 * k)) := HR.out.below hb
          replace HG : Hid (w.grownBy w5.drew (some a)) := grown_trans HG.out (gb0 hb _)
          replace HX : Hid (w5.drew.heap[w.heap.size]? = some (.cells #[.slice (some ⟨g, 0, none⟩) cs.length vc, .slice ua un uc] 42 (0, 0))) := below_heap hb (lt_of_heap HX.out) HX.out
          replace HN : Hid (w5.drew.heap[w.heap.size + 1]? = some (.cells #[.string ⟨#[]⟩, .string ⟨#[]⟩, .slice none 0 0] 28 (0, 0))) := below_heap hb (lt_of_heap HN.out) HN.out
          replace HBO : Hid (w5.drew.heap[bo]? = some (.cells #[.string x, .string ⟨l.toArray⟩, .slice (some ⟨g2, 0, none⟩) m c] 28 (0, 0))) := below_heap hb (lt_of_heap HBO.out) HBO.out
          replace HE : Hid (w5.drew.ownsRow w.heap.size 25 2 (.slice (some ⟨g2, 0, none⟩) m c) m (flat xs)) := row_below hb HE.out
          clear hb
          generalize w5.drew = w6 at *
          refine wpAny_of_T (S := fun X => X.cell? ⟨w.heap.size, 0, none⟩ = some (.slice (some ⟨g, 0, none⟩) cs.length vc) ∧ X.cell? ⟨w.heap.size, 1, none⟩ = some (.slice ua un uc) ∧ X.cell? ⟨bo, 2, none⟩ = some (.slice (some ⟨g2, 0, none⟩) m c)) (m := 9) _ _ _ _ ?_
          refine wpAnyT_take (i := 0) (v := .pointer (some ⟨bo, 2, none⟩)) rfl (by kernel_rfl) (by kernel_rfl) (by kernel_rfl) (by kernel_rfl) (fun _ _ _ h => h) (Or.inl ⟨by kernel_rfl, fun X hS => by obtain ⟨e0, e1, e2⟩ := hS; go_simp⟩) ⟨heap_cell HX.out 0, heap_cell HX.out 1, heap_cell HBO.out 2⟩ ?_
          try go_simp
          refine wpAnyT_take (i := 1) (v := .slice (some ⟨g2, 0, none⟩) m c) rfl (by kernel_rfl) (by kernel_rfl) (by kernel_rfl) (by kernel_rfl) (fun _ _ _ h => h) (Or.inl ⟨by kernel_rfl, fun X hS => by obtain ⟨e0, e1, e2⟩ := hS; go_simp⟩) ⟨heap_cell HX.out 0, heap_cell HX.out 1, heap_cell HBO.out 2⟩ ?_
          try go_simp
          refine wpAnyT_take (i := 2) (v := .pointer (some ⟨a, 0, none⟩)) rfl (by kernel_rfl) (by kernel_rfl) (by kernel_rfl) (by kernel_rfl) (fun _ _ _ h => h) (Or.inl ⟨by kernel_rfl, fun X hS => by obtain ⟨e0, e1, e2⟩ := hS; go_simp⟩) ⟨heap_cell HX.out 0, heap_cell HX.out 1, heap_cell HBO.out 2⟩ ?_
          try go_simp
          refine wpAnyT_take (i := 3) (v := .agg #[.slice (some ⟨g, 0, none⟩) cs.length vc, .slice ua un uc]) rfl (by kernel_rfl) (by kernel_rfl) (by kernel_rfl) (by kernel_rfl) (fun _ _ _ h => h) (Or.inl ⟨by kernel_rfl, fun X hS => by obtain ⟨e0, e1, e2⟩ := hS; go_simp⟩) ⟨heap_cell HX.out 0, heap_cell HX.out 1, heap_cell HBO.out 2⟩ ?_
          try go_simp
          refine wpAnyT_take (i := 4) (v := .string ⟨l.toArray⟩) rfl (by kernel_rfl) (by kernel_rfl) (by kernel_rfl) (by kernel_rfl) (fun _ _ _ h => h) (Or.inl ⟨by kernel_rfl, fun X hS => by obtain ⟨e0, e1, e2⟩ := hS; go_simp⟩) ⟨heap_cell HX.out 0, heap_cell HX.out 1, heap_cell HBO.out 2⟩ ?_
          try go_simp
          refine wpAnyT_one 5 rfl (by kernel_rfl) (fun K hK => ?_)
          go_simp
          refine (HVS.out w6).mono ?_
          rintro e w7 ⟨rfl, hb⟩
          replace HO : Hid (w7.ownsRow b 69 2 (.slice (some ⟨g, 0, none⟩) cs.length vc) cs.length (flat cs)) := row_below hb HO.out
          replace HR : Hid (RD w7 a (q + 3 + 50 * k)) := HR.out.below hb
          replace HG : Hid (w.grownBy w7 (some a)) := grown_trans HG.out (gb0 hb _)
          replace HX : Hid (w7.heap[w.heap.size]? = some (.cells #[.slice (some ⟨g, 0, none⟩) cs.length vc, .slice ua un uc] 42 (0, 0))) := below_heap hb (lt_of_heap HX.out) HX.out
          replace HN : Hid (w7.heap[w.heap.size + 1]? = some (.cells #[.string ⟨#[]⟩, .string ⟨#[]⟩, .slice none 0 0] 28 (0, 0))) := below_heap hb (lt_of_heap HN.out) HN.out
          replace HBO : Hid (w7.heap[bo]? = some (.cells #[.string x, .string ⟨l.toArray⟩, .slice (some ⟨g2, 0, none⟩) m c] 28 (0, 0))) := below_heap hb (lt_of_heap HBO.out) HBO.out
          replace HE : Hid (w7.ownsRow w.heap.size 25 2 (.slice (some ⟨g2, 0, none⟩) m c) m (flat xs)) := row_below hb HE.out
          clear hb
          refine hK _ _ (fun _ => ⟨heap_cell HX.out 0, heap_cell HX.out 1, heap_cell HBO.out 2⟩) ?_
          clear hK K
          refine wpAnyT_one 6 rfl (by kernel_rfl) (fun K hK => ?_)
          go_simp
          refine (l3DrawNeed_any a (q + 3 + 50 * k + 1) b vc un uc (some ⟨g, 0, none⟩) ua cs vl w7 (by omega) hcs HCT.out (by omega) (HR.out.mono (by omega)) HO.out).mono ?_
          rintro e w8 ⟨x1, y1, rfl, hx1, hy1, hr, hgr⟩
          replace HO : Hid (w8.ownsRow b 69 2 (.slice (some ⟨g, 0, none⟩) cs.length vc) cs.length (flat cs)) := HR.out.row HO.out (by decide) hgr
          replace HG : Hid (w.grownBy w8 (some a)) := grown_trans HG.out hgr
          replace HX : Hid (w8.heap[w.heap.size]? = some (.cells #[.slice (some ⟨g, 0, none⟩) cs.length vc, .slice ua un uc] 42 (0, 0))) := HR.out.box HX.out (by decide) hgr
          replace HN : Hid (w8.heap[w.heap.size + 1]? = some (.cells #[.string ⟨#[]⟩, .string ⟨#[]⟩, .slice none 0 0] 28 (0, 0))) := HR.out.box HN.out (by decide) hgr
          replace HBO : Hid (w8.heap[bo]? = some (.cells #[.string x, .string ⟨l.toArray⟩, .slice (some ⟨g2, 0, none⟩) m c] 28 (0, 0))) := HR.out.box HBO.out (by decide) hgr
          replace HE : Hid (w8.ownsRow w.heap.size 25 2 (.slice (some ⟨g2, 0, none⟩) m c) m (flat xs)) := HR.out.row HE.out (by decide) hgr
          have hzc := hgr.size
          replace HR : Hid (RD w8 a (q + 3 + 50 * k + 50)) := hr.mono (by omega)
          clear hr hgr hzc
          refine hK _ _ (fun _ => ⟨heap_cell HX.out 0, heap_cell HX.out 1, heap_cell HBO.out 2⟩) ?_
          clear hK K
          refine wpAnyT_one 7 rfl (by kernel_rfl) (fun K hK => ?_)
          go_simp
          have hzz := HG.out.size
          have hb : Below w8.heap.size w8 (w8.alloc (.cells #[.string x1, .string y1] 25)) := (Below.refl _ _).alloc (Nat.le_refl _) _
          replace HO : Hid ((w8.alloc (.cells #[.string x1, .string y1] 25)).ownsRow b 69 2 (.slice (some ⟨g, 0, none⟩) cs.length vc) cs.length (flat cs)) := row_below hb HO.out
          replace HR : Hid (RD (w8.alloc (.cells #[.string x1, .string y1] 25)) a (q + 3 + 50 * k + 50)) := HR.out.below hb
          replace HG : Hid (w.grownBy (w8.alloc (.cells #[.string x1, .string y1] 25)) (some a)) := grown_trans HG.out (gb0 hb _)
          replace HX : Hid ((w8.alloc (.cells #[.string x1, .string y1] 25)).heap[w.heap.size]? = some (.cells #[.slice (some ⟨g, 0, none⟩) cs.length vc, .slice ua un uc] 42 (0, 0))) := below_heap hb (lt_of_heap HX.out) HX.out
          replace HN : Hid ((w8.alloc (.cells #[.string x1, .string y1] 25)).heap[w.heap.size + 1]? = some (.cells #[.string ⟨#[]⟩, .string ⟨#[]⟩, .slice none 0 0] 28 (0, 0))) := below_heap hb (lt_of_heap HN.out) HN.out
          replace HBO : Hid ((w8.alloc (.cells #[.string x1, .string y1] 25)).heap[bo]? = some (.cells #[.string x, .string ⟨l.toArray⟩, .slice (some ⟨g2, 0, none⟩) m c] 28 (0, 0))) := below_heap hb (lt_of_heap HBO.out) HBO.out
          replace HE : Hid ((w8.alloc (.cells #[.string x1, .string y1] 25)).ownsRow w.heap.size 25 2 (.slice (some ⟨g2, 0, none⟩) m c) m (flat xs)) := row_below hb HE.out
          clear hb
          have HNW : Hid ((w8.alloc (.cells #[.string x1, .string y1] 25)).heap[w8.heap.size]? = some (.cells #[.string x1, .string y1] 25 (0, 0))) := heap_alloc_new _ _
          generalize (w8.alloc (.cells #[.string x1, .string y1] 25)) = w9 at *
          obtain ⟨b9, hbb9⟩ : ∃ x, x = w8.heap.size := ⟨_, rfl⟩
          rw [← hbb9] at HNW ⊢
          clear hzz
          clear hbb9
          refine hK _ _ (fun _ => ⟨heap_cell HX.out 0, heap_cell HX.out 1, heap_cell HBO.out 2⟩) ?_
          clear hK K
          have hadd : ∀ j, (⟨b9, 0, none⟩ : Addr).add j = ⟨b9, j, none⟩ := fun j => by unfold Addr.add; split <;> simp_all
          have hzz := HG.out.size
          obtain ⟨ib, hib, hz0, hz1, hz2⟩ := info_parts infoNeedW
          refine wpAnyT_one 8 rfl (by kernel_rfl) (fun K hK => ?_)
          rw [if_pos (by kernel_rfl)]
          refine (wp_append_lies w9 (Operand.tmp 38) (Operand.tmp 44) 26 rfl (w.heap.size) 25 ib (.agg #[.string ⟨#[]⟩, .string ⟨#[]⟩]) 2 32 Tryd.underlying26 hib hz0 hz1 hz2 rfl (by decide) (.slice (some ⟨g2, 0, none⟩) m c) (m) (flat xs) rfl HE.out ⟨b9, 0, none⟩ 1 1 [.string x1, .string y1] rfl (by simp) (fun j u hj => by rw [hadd]; exact news_two (heap_cell HNW.out 0) (heap_cell HNW.out 1) j u hj) (by simp [Value.oneCell']) (by decide) (by unfold maxLen; omega) (by omega) (by omega) w9.heap.size rfl fun g1' cap1 w10 hown hgr hlie hlt9 => hK _ _ (fun _ => ⟨heap_cell (keep_rowG hgr HE.out HX.out (by decide)) 0, heap_cell (keep_rowG hgr HE.out HX.out (by decide)) 1, heap_cell (keep_rowG hgr HE.out HBO.out (by decide)) 2⟩) ?_)
          clear hK K hadd hib hz0 hz1 hz2 hlie hlt9 HNW
          replace HO : Hid (w10.ownsRow b 69 2 (.slice (some ⟨g, 0, none⟩) cs.length vc) cs.length (flat cs)) := row_grownG hgr HO.out HE.out (by decide)
          replace HR : Hid (RD w10 a (q + 3 + 50 * k + 50)) := HR.out.grown hgr (fun g hg => by have := (row_own HE.out g hg).1; omega)
          replace HG : Hid (w.grownBy w10 (some a)) := grown_rowR HG.out HE.out (by omega) hgr
          replace HX : Hid (w10.heap[w.heap.size]? = some (.cells #[.slice (some ⟨g, 0, none⟩) cs.length vc, .slice ua un uc] 42 (0, 0))) := keep_rowG hgr HE.out HX.out (by decide)
          replace HN : Hid (w10.heap[w.heap.size + 1]? = some (.cells #[.string ⟨#[]⟩, .string ⟨#[]⟩, .slice none 0 0] 28 (0, 0))) := keep_rowG hgr HE.out HN.out (by decide)
          replace HBO : Hid (w10.heap[bo]? = some (.cells #[.string x, .string ⟨l.toArray⟩, .slice (some ⟨g2, 0, none⟩) m c] 28 (0, 0))) := keep_rowG hgr HE.out HBO.out (by decide)
          replace HE : Hid (w10.ownsRow w.heap.size 25 2 (.slice (some ⟨g1', 0, none⟩) (m + 1) cap1) (m + 1) (flat xs ++ [.string x1, .string y1])) := hown
          clear hown hgr hzz
          refine wpAnyT_drop _ 9 _ _ _ (by decide) (by kernel_rfl) ?_
          change wpList _ _ _ [_, _] _ _
          obtain ⟨i0, i1, i2, f0, f1, f2⟩ := PIn.k3 HBO.out
          have hli := lt_of_heap HBO.out
          go_wp2_with fail
          go_roundg (n - (k + 1))
          case measure => omega
          case rel =>
            have hg := grown_set w10 bo 2 (.slice (some ⟨g1', 0, none⟩) (m + 1) cap1)
            refine ⟨k + 1, m + 1, g1', cap1, xs ++ [(x1, y1)], by omega, by omega, by go_num, by omega, ?_, ?_, heap_set HBO.out 2 _, ?_, (HR.out.grown hg (fun g hg => by cases hg; omega)).mono (by omega), row_boxR HBO.out HO.out (by decide) hg, grown_boxR HG.out hg (by omega), heap_boxR HX.out hg (by omega), heap_boxR HN.out hg (by omega)⟩
            · show _ = _
              rw [List.length_append, HXL.out]; rfl
            · show ∀ p ∈ _, _
              intro p hp
              rcases List.mem_append.1 hp with hp | hp
              · exact HXS.out p hp
              · simp at hp; subst hp; exact ⟨hx1, hy1⟩
            · show World.ownsRow _ _ _ _ _ _ _
              rw [flat_snocW]
              exact row_boxR HBO.out HE.out (by decide) hg
      · have hke : k = n := by omega
        subst hke
        obtain ⟨i0, i1, i2, f0, f1, f2⟩ := PIn.k3 HBO.out
        obtain ⟨j0, j1, j2, y0, y1, y2⟩ := PIn.k3 HN.out
        have hli := lt_of_heap HBO.out
        have hln := lt_of_heap HN.out
        go_wp2
        have hg := set3_boxR wr (w.heap.size + 1) (.string x) (.string ⟨l.toArray⟩) (.slice (some ⟨g2, 0, none⟩) m c)
        refine bodyPost_ret (results_cell_row rfl _ _ (w.heap.size + 1) 28 #[.string x, .string ⟨l.toArray⟩, .slice (some ⟨g2, 0, none⟩) m c] (0, 0) _ rfl (heap_set (heap_set (heap_set HN.out 0 _) 1 _) 2 _) Tryd.underlying28 rfl (by kernel_rfl)) rfl ?_
        exact ⟨x, ⟨l.toArray⟩, xs, g2, c, by rw [HXL.out], by rw [HXL.out]; exact row_boxR HN.out HE.out (by decide) hg, hx, by simpa [ByteArray.size] using hl7, by rw [HXL.out]; omega, HXS.out, (HR.out.grown hg (fun g hg => by cases hg; omega)).mono (by omega), grown_boxR HG.out hg (by omega)⟩
end Draw
end Go.Proofs.YtbdnhcfebgkpdaaDoor
set_option linter.unusedVariables false
set_option linter.unusedSimpArgs false
set_option maxRecDepth 100000
namespace Go.Proofs.YtbdnhcfebgkpdaaDoor
open Go.RowKit ListS IRow PWo
namespace Draw
theorem RD.rows {w w' : World} {a q b : Nat} {vs : List Value} {is : List II} (h : RD w a q) (hi : IRow.Rows w b is vs) (hg : w.grownBy w' (some a)) : IRow.Rows w' b is vs :=
  ⟨hi.1, fun i p u hp hu => h.row (hi.2.1 i p u hp hu) (by decide) hg, hi.2.2⟩
theorem okW_one {n : Nat} {cs : List Value} (h : KnP.okW n cs = true) {u : Value} (hu : u ∈ cs) : ∃ s : ByteArray, u = .string s ∧ KnP.okW n [.string s] = true := by
  have h1 := List.all_eq_true.1 h u hu
  split at h1
  · rename_i s
    exact ⟨s, rfl, by unfold KnP.okW; simpa using h1⟩
  · simp at h1
theorem tot_smallW : ∀ (xs : List BB), (∀ p ∈ xs, p.1.size ≤ 200 ∧ p.2.size ≤ 40) → tot xs ≤ 240 * xs.length
  | [], _ => by simp [tot]
  | x :: xs, h => by
    have h1 := tot_smallW xs (fun p hp => h p (List.mem_cons_of_mem _ hp))
    have h2 := h x (by simp)
    simp only [tot, List.map_cons, List.sum_cons, List.length_cons] at h1 ⊢
    omega
theorem iw_small {x y : ByteArray} {ns : List BB} (h1 : x.size ≤ 200) (h2 : y.size ≤ 40) (h3 : ns.length ≤ 2) (h4 : ∀ p ∈ ns, p.1.size ≤ 200 ∧ p.2.size ≤ 40) : iw (x, y, ns) ≤ 722 := by
  have := tot_smallW ns h4
  unfold iw
  show x.size + y.size + ns.length + tot ns ≤ 722
  omega
theorem itot_snoc (is : List II) (p : II) : itot (is ++ [p]) = itot is + iw p := by rw [itot_app]; simp [itot]
/-- a drawn world: of the call's own -/
def DPost (w : World) (a q : Nat) (e : Ending) (w' : World) : Prop := ∃ (gc vc gi uc : Nat) (cs : List BB) (is : List II), e = .returned (.agg #[.slice (some ⟨gc, 0, none⟩) cs.length vc, .slice (some ⟨gi, 0, none⟩) is.length uc]) ∧ w'.ownsRow w.heap.size 69 2 (.slice (some ⟨gc, 0, none⟩) cs.length vc) cs.length (flat cs) ∧ IR w' w.heap.size (.slice (some ⟨gi, 0, none⟩) is.length uc) is ∧ 1 ≤ cs.length ∧ 1 ≤ is.length ∧ tot cs + cs.length ≤ 200 ∧ itot is + is.length ≤ 6000 ∧ RD w' a q ∧ w.grownBy w' (some a)
set_option maxHeartbeats 16000000 in
theorem l3Draw_any (a q : Nat) (w : World) (hq : q ≤ 40000) (h : RD w a q) : Calls Tryd.prog 50 #[.pointer (some ⟨a, 0, none⟩)] w (DPost w a (q + 2000)) := by
  have HR := hid h
  have hal := h.lt
  have HG : Hid (w.grownBy w (some a)) := gb0 (Below.refl _ _) _
  clear h
  go_enter Tryd.func50, Tryd.ntmps50
  have hb : Below w.heap.size w (w.alloc (.cells #[.slice none 0 0, .slice none 0 0] 42)) := (Below.refl _ _).alloc (by simp; try omega) _
  replace HR : Hid (RD (w.alloc (.cells #[.slice none 0 0, .slice none 0 0] 42)) a (q)) := HR.out.below hb
  replace HG : Hid (w.grownBy (w.alloc (.cells #[.slice none 0 0, .slice none 0 0] 42)) (some a)) := grown_trans HG.out (gb0 hb _)
  clear hb
  have HZ : Hid ((w.alloc (.cells #[.slice none 0 0, .slice none 0 0] 42)).heap[w.heap.size]? = some (.cells #[.slice none 0 0, .slice none 0 0] 42 (0, 0))) := hb_newk (by simp; try omega)
  go_wp2_with fail
  generalize (w.alloc (.cells #[.slice none 0 0, .slice none 0 0] 42)) = w1 at *
  refine (pick_any a q 2 w1 (by decide) (by decide) (by omega) HR.out).mono ?_
  rintro e w2 ⟨j, hj, rfl, hr, hgr⟩
  replace HG : Hid (w.grownBy w2 (some a)) := grown_trans HG.out hgr
  replace HZ : Hid (w2.heap[w.heap.size]? = some (.cells #[.slice none 0 0, .slice none 0 0] 42 (0, 0))) := HR.out.box HZ.out (by decide) hgr
  have hzc := hgr.size
  replace HR : Hid (RD w2 a (q + 1)) := hr.mono (by omega)
  clear hr hgr hzc
  by_cases hj0 : j = 0
  · subst hj0
    go_wp2_with fail
    refine (pick_any a (q + 1) 9 w2 (by decide) (by decide) (by omega) HR.out).mono ?_
    rintro e w3 ⟨k, hk, rfl, hr, hgr⟩
    replace HG : Hid (w.grownBy w3 (some a)) := grown_trans HG.out hgr
    replace HZ : Hid (w3.heap[w.heap.size]? = some (.cells #[.slice none 0 0, .slice none 0 0] 42 (0, 0))) := HR.out.box HZ.out (by decide) hgr
    have hzc := hgr.size
    replace HR : Hid (RD w3 a (q + 2)) := hr.mono (by omega)
    clear hr hgr hzc
    go_wp2_with fail
    have hz0 := HG.out.size
    refine (l3Known_any k w3 hk).mono ?_
    rintro e w4 ⟨v, u, cs, is, rfl, hv, hu, h1, h2, h3, h4, hb⟩
    obtain ⟨va, vc, rfl⟩ := row_slice hv
    obtain ⟨ua, uc, rfl⟩ := ir_slice hu
    obtain ⟨gc, rfl⟩ := row_some hv h1
    obtain ⟨gi, rfl⟩ := row_some hu.choose_spec.1 h2
    have HV : Hid (w4.ownsRow w.heap.size 69 2 (.slice (some ⟨gc, 0, none⟩) cs.length vc) cs.length (flat cs)) := row_mono hv hz0
    have HU : Hid (IR w4 w.heap.size (.slice (some ⟨gi, 0, none⟩) is.length uc) is) := IR_mono hu hz0
    clear hv hu hz0
    replace HR : Hid (RD w4 a (q + 2)) := HR.out.below hb
    replace HG : Hid (w.grownBy w4 (some a)) := grown_trans HG.out (gb0 hb _)
    replace HZ : Hid (w4.heap[w.heap.size]? = some (.cells #[.slice none 0 0, .slice none 0 0] 42 (0, 0))) := below_heap hb (lt_of_heap HZ.out) HZ.out
    clear hb
    obtain ⟨r0, r1, z0, z1⟩ := k2 HZ.out
    have hlr := lt_of_heap HZ.out
    go_wp2
    have hg := set2_boxR w4 w.heap.size (.slice (some ⟨gc, 0, none⟩) cs.length vc) (.slice (some ⟨gi, 0, none⟩) is.length uc)
    refine bodyPost_ret (results_cell_row rfl _ _ w.heap.size 42 #[.slice (some ⟨gc, 0, none⟩) cs.length vc, .slice (some ⟨gi, 0, none⟩) is.length uc] (0, 0) _ rfl (heap_set (heap_set HZ.out 0 _) 1 _) Tryd.underlying42 rfl (by kernel_rfl)) rfl ?_
    exact ⟨gc, vc, gi, uc, cs, is, rfl, row_boxR HZ.out HV.out (by decide) hg, ir_boxR HZ.out (HU.out) (by decide) (by decide) hg, h1, h2, h3, by omega, (HR.out.grown hg (fun g hg => by cases hg; omega)).mono (by omega), grown_boxR HG.out hg (by omega)⟩
  · have hj1 : ((j : Int) == 0) = false := by rw [beq_eq_false_iff_ne]; omega
    go_wp2_with fail
    have hb : Below w2.heap.size w2 (w2.alloc (.cells #[.string ⟨#[69]⟩, .string ⟨#[69, 32, 79, 60, 69]⟩, .string ⟨#[65, 32, 66]⟩, .string ⟨#[65, 32, 66, 60, 65, 32, 67, 60, 65, 66]⟩, .string ⟨#[69, 32, 79, 60, 69, 32, 83]⟩] 9)) := (Below.refl _ _).alloc (Nat.le_refl _) _
    replace HR : Hid (RD (w2.alloc (.cells #[.string ⟨#[69]⟩, .string ⟨#[69, 32, 79, 60, 69]⟩, .string ⟨#[65, 32, 66]⟩, .string ⟨#[65, 32, 66, 60, 65, 32, 67, 60, 65, 66]⟩, .string ⟨#[69, 32, 79, 60, 69, 32, 83]⟩] 9)) a (q + 1)) := HR.out.below hb
    replace HG : Hid (w.grownBy (w2.alloc (.cells #[.string ⟨#[69]⟩, .string ⟨#[69, 32, 79, 60, 69]⟩, .string ⟨#[65, 32, 66]⟩, .string ⟨#[65, 32, 66, 60, 65, 32, 67, 60, 65, 66]⟩, .string ⟨#[69, 32, 79, 60, 69, 32, 83]⟩] 9)) (some a)) := grown_trans HG.out (gb0 hb _)
    replace HZ : Hid ((w2.alloc (.cells #[.string ⟨#[69]⟩, .string ⟨#[69, 32, 79, 60, 69]⟩, .string ⟨#[65, 32, 66]⟩, .string ⟨#[65, 32, 66, 60, 65, 32, 67, 60, 65, 66]⟩, .string ⟨#[69, 32, 79, 60, 69, 32, 83]⟩] 9)).heap[w.heap.size]? = some (.cells #[.slice none 0 0, .slice none 0 0] 42 (0, 0))) := below_heap hb (lt_of_heap HZ.out) HZ.out
    clear hb
    have HL : Hid ((w2.alloc (.cells #[.string ⟨#[69]⟩, .string ⟨#[69, 32, 79, 60, 69]⟩, .string ⟨#[65, 32, 66]⟩, .string ⟨#[65, 32, 66, 60, 65, 32, 67, 60, 65, 66]⟩, .string ⟨#[69, 32, 79, 60, 69, 32, 83]⟩] 9)).heap[w2.heap.size]? = some (.cells #[.string ⟨#[69]⟩, .string ⟨#[69, 32, 79, 60, 69]⟩, .string ⟨#[65, 32, 66]⟩, .string ⟨#[65, 32, 66, 60, 65, 32, 67, 60, 65, 66]⟩, .string ⟨#[69, 32, 79, 60, 69, 32, 83]⟩] 9 (0, 0))) := heap_alloc_new _ _
    generalize (w2.alloc (.cells #[.string ⟨#[69]⟩, .string ⟨#[69, 32, 79, 60, 69]⟩, .string ⟨#[65, 32, 66]⟩, .string ⟨#[65, 32, 66, 60, 65, 32, 67, 60, 65, 66]⟩, .string ⟨#[69, 32, 79, 60, 69, 32, 83]⟩] 9)) = w3 at *
    obtain ⟨b3, hbb3⟩ : ∃ x, x = w2.heap.size := ⟨_, rfl⟩
    rw [← hbb3] at HL ⊢
    clear hbb3
    refine (of_any a (q + 1) b3 5 _ w3 (by omega) (by decide) (by decide) rfl HL.out HR.out).mono ?_
    rintro e w4 ⟨u0, hu0, rfl, hr, hgr⟩
    replace HG : Hid (w.grownBy w4 (some a)) := grown_trans HG.out hgr
    replace HZ : Hid (w4.heap[w.heap.size]? = some (.cells #[.slice none 0 0, .slice none 0 0] 42 (0, 0))) := HR.out.box HZ.out (by decide) hgr
    replace HL : Hid (w4.heap[b3]? = some (.cells #[.string ⟨#[69]⟩, .string ⟨#[69, 32, 79, 60, 69]⟩, .string ⟨#[65, 32, 66]⟩, .string ⟨#[65, 32, 66, 60, 65, 32, 67, 60, 65, 66]⟩, .string ⟨#[69, 32, 79, 60, 69, 32, 83]⟩] 9 (0, 0))) := HR.out.box HL.out (by decide) hgr
    have hzc := hgr.size
    replace HR : Hid (RD w4 a (q + 2)) := hr.mono (by omega)
    clear hr hgr hzc
    clear HL
    obtain ⟨s, rfl, hs⟩ := okW_one (n := 0) (by kernel_rfl) hu0
    clear hu0
    go_wp2_with fail
    have hz0 := HG.out.size
    refine (PW_good 0 s w4 hs).mono ?_
    rintro e w5 ⟨v, u, cs, is, rfl, hv, hu, h1, -, h3, h4, hb⟩
    obtain ⟨va, vc, rfl⟩ := row_slice hv
    obtain ⟨ua, uc, rfl⟩ := ir_slice hu
    obtain ⟨gc, rfl⟩ := row_some hv h1
    obtain ⟨vs, hui, hur⟩ := hu
    have HV : Hid (w5.ownsRow w.heap.size 69 2 (.slice (some ⟨gc, 0, none⟩) cs.length vc) cs.length (flat cs)) := row_mono hv hz0
    have HIR : Hid (w5.ownsRow w.heap.size 28 3 (.slice ua is.length uc) is.length (flatI is vs)) := row_mono hui hz0
    have HRS : Hid (IRow.Rows w5 w.heap.size is vs) := ⟨hur.1, fun i p u hp hu => row_mono (hur.2.1 i p u hp hu) hz0, hur.2.2⟩
    clear hv hui hur hz0 hs
    replace HR : Hid (RD w5 a (q + 2)) := HR.out.below hb
    replace HG : Hid (w.grownBy w5 (some a)) := grown_trans HG.out (gb0 hb _)
    replace HZ : Hid (w5.heap[w.heap.size]? = some (.cells #[.slice none 0 0, .slice none 0 0] 42 (0, 0))) := below_heap hb (lt_of_heap HZ.out) HZ.out
    clear hb
    go_wp2_with fail
    have hzz := HG.out.size
    have hbz := lt_of_heap HZ.out
    have hb : Below w5.heap.size w5 (w5.alloc (.cells #[.slice (some ⟨gc, 0, none⟩) cs.length vc, .slice ua is.length uc] 42)) := (Below.refl _ _).alloc (Nat.le_refl _) _
    replace HR : Hid (RD (w5.alloc (.cells #[.slice (some ⟨gc, 0, none⟩) cs.length vc, .slice ua is.length uc] 42)) a (q + 2)) := HR.out.below hb
    replace HG : Hid (w.grownBy (w5.alloc (.cells #[.slice (some ⟨gc, 0, none⟩) cs.length vc, .slice ua is.length uc] 42)) (some a)) := grown_trans HG.out (gb0 hb _)
    replace HZ : Hid ((w5.alloc (.cells #[.slice (some ⟨gc, 0, none⟩) cs.length vc, .slice ua is.length uc] 42)).heap[w.heap.size]? = some (.cells #[.slice none 0 0, .slice none 0 0] 42 (0, 0))) := below_heap hb (lt_of_heap HZ.out) HZ.out
    replace HV : Hid ((w5.alloc (.cells #[.slice (some ⟨gc, 0, none⟩) cs.length vc, .slice ua is.length uc] 42)).ownsRow w.heap.size 69 2 (.slice (some ⟨gc, 0, none⟩) cs.length vc) cs.length (flat cs)) := row_below hb HV.out
    replace HIR : Hid ((w5.alloc (.cells #[.slice (some ⟨gc, 0, none⟩) cs.length vc, .slice ua is.length uc] 42)).ownsRow w.heap.size 28 3 (.slice ua is.length uc) is.length (flatI is vs)) := row_below hb HIR.out
    replace HRS : Hid (IRow.Rows (w5.alloc (.cells #[.slice (some ⟨gc, 0, none⟩) cs.length vc, .slice ua is.length uc] 42)) w.heap.size is vs) := HRS.out.below hb
    clear hb
    have HBX : Hid ((w5.alloc (.cells #[.slice (some ⟨gc, 0, none⟩) cs.length vc, .slice ua is.length uc] 42)).heap[w5.heap.size]? = some (.cells #[.slice (some ⟨gc, 0, none⟩) cs.length vc, .slice ua is.length uc] 42 (0, 0))) := heap_alloc_new _ _
    generalize (w5.alloc (.cells #[.slice (some ⟨gc, 0, none⟩) cs.length vc, .slice ua is.length uc] 42)) = w6 at *
    obtain ⟨bx, hbbx⟩ : ∃ x, x = w5.heap.size := ⟨_, rfl⟩
    rw [← hbbx] at HBX ⊢
    have hbx : w.heap.size < bx := by omega
    clear hzz
    clear hbbx
    clear hbz
    refine (pick_any a (q + 2) 6 w6 (by decide) (by decide) (by omega) HR.out).mono ?_
    rintro e w7 ⟨p, hp, rfl, hr, hgr⟩
    replace HG : Hid (w.grownBy w7 (some a)) := grown_trans HG.out hgr
    replace HZ : Hid (w7.heap[w.heap.size]? = some (.cells #[.slice none 0 0, .slice none 0 0] 42 (0, 0))) := HR.out.box HZ.out (by decide) hgr
    replace HV : Hid (w7.ownsRow w.heap.size 69 2 (.slice (some ⟨gc, 0, none⟩) cs.length vc) cs.length (flat cs)) := HR.out.row HV.out (by decide) hgr
    replace HIR : Hid (w7.ownsRow w.heap.size 28 3 (.slice ua is.length uc) is.length (flatI is vs)) := HR.out.row HIR.out (by decide) hgr
    replace HRS : Hid (IRow.Rows w7 w.heap.size is vs) := HR.out.rows HRS.out hgr
    replace HBX : Hid (w7.heap[bx]? = some (.cells #[.slice (some ⟨gc, 0, none⟩) cs.length vc, .slice ua is.length uc] 42 (0, 0))) := HR.out.box HBX.out (by decide) hgr
    have hzc := hgr.size
    replace HR : Hid (RD w7 a (q + 3)) := hr.mono (by omega)
    clear hr hgr hzc
    obtain ⟨n, hn⟩ : ∃ n : Nat, n = 1 + p := ⟨_, rfl⟩
    have hn6 : n ≤ 6 := by omega
    have hn1 : 1 ≤ n := by omega
    have hni : (1 : Int) + (p : Int) = (n : Int) := by omega
    have HN1 := hid hni
    clear hn hni
    go_wp2_with fail
    rw [HN1.out]
    go_loopg [21] n (fun t i wr => ∃ (k L c : Nat) (uv : Option Addr) (ix : List II) (vs D2 : List Value), k ≤ n ∧ n - k ≤ t ∧ i = .int .i64 k ∧ k ≤ L ∧ L ≤ 200 + k ∧ Hid (ix.length = L) ∧ Hid (itot ix + L ≤ 200 + 723 * k) ∧ Hid (D2 = flatI ix vs) ∧ Hid (wr.heap[bx]? = some (.cells #[.slice (some ⟨gc, 0, none⟩) cs.length vc, .slice uv L c] 42 (0, 0))) ∧ Hid (wr.ownsRow w.heap.size 28 3 (.slice uv L c) L D2) ∧ Hid (IRow.Rows wr w.heap.size ix vs) ∧ Hid (RD wr a (q + 3 + 200 * k)) ∧ Hid (w.grownBy wr (some a)) ∧ Hid (wr.heap[w.heap.size]? = some (.cells #[.slice none 0 0, .slice none 0 0] 42 (0, 0))) ∧ Hid (wr.ownsRow w.heap.size 69 2 (.slice (some ⟨gc, 0, none⟩) cs.length vc) cs.length (flat cs)))
    case atStart => exact ⟨0, is.length, uc, ua, is, vs, flatI is vs, Nat.zero_le _, by simp, rfl, Nat.zero_le _, by omega, rfl, (by show _ ≤ _; omega), rfl, HBX.out, HIR.out, HRS.out, HR.out.mono (by omega), HG.out, HZ.out, HV.out⟩
    case round =>
      clear HBX HIR HRS HR HG HZ HV
      obtain ⟨k, L, c, uv, ix, vs, D2, hk, ht, rfl, hkL, hL, hxl, hxt, hD, hHBX, hHIR, hHRS, hHR, hHG, hHZ, hHV⟩ := hrel
      have HXL := hid hxl.out
      have HXT := hid hxt.out
      have HD := hid hD.out
      have HBX := hid hHBX.out
      have HIR := hid hHIR.out
      have HRS := hid hHRS.out
      have HR := hid hHR.out
      have HG := hid hHG.out
      have HZ := hid hHZ.out
      have HV := hid hHV.out
      clear hxl hxt hD hHBX hHIR hHRS hHR hHG hHZ hHV
      by_cases hlt : k < n
      · go_wp2_with fail
        refine wp_region_any (by kernel_rfl) ?_
        change wpAny _ _ _ _ _ _ _ (World.drew _)
        have hb : Below wr.heap.size wr wr.drew := (Below.refl _ _).drew
        replace HR : Hid (RD wr.drew a (q + 3 + 200 * k)) := HR.out.below hb
        replace HG : Hid (w.grownBy wr.drew (some a)) := grown_trans HG.out (gb0 hb _)
        replace HZ : Hid (wr.drew.heap[w.heap.size]? = some (.cells #[.slice none 0 0, .slice none 0 0] 42 (0, 0))) := below_heap hb (lt_of_heap HZ.out) HZ.out
        replace HV : Hid (wr.drew.ownsRow w.heap.size 69 2 (.slice (some ⟨gc, 0, none⟩) cs.length vc) cs.length (flat cs)) := row_below hb HV.out
        replace HIR : Hid (wr.drew.ownsRow w.heap.size 28 3 (.slice uv L c) L D2) := row_below hb HIR.out
        replace HRS : Hid (IRow.Rows wr.drew w.heap.size ix vs) := HRS.out.below hb
        replace HBX : Hid (wr.drew.heap[bx]? = some (.cells #[.slice (some ⟨gc, 0, none⟩) cs.length vc, .slice uv L c] 42 (0, 0))) := below_heap hb (lt_of_heap HBX.out) HBX.out
        clear hb
        generalize wr.drew = w8 at *
        refine wpAny_of_T (S := fun X => X.cell? ⟨bx, 0, none⟩ = some (.slice (some ⟨gc, 0, none⟩) cs.length vc) ∧ X.cell? ⟨bx, 1, none⟩ = some (.slice uv L c)) (m := 7) _ _ _ _ ?_
        refine wpAnyT_take (i := 0) (v := .pointer (some ⟨bx, 1, none⟩)) rfl (by kernel_rfl) (by kernel_rfl) (by kernel_rfl) (by kernel_rfl) (fun _ _ _ h => h) (Or.inl ⟨by kernel_rfl, fun X hS => by obtain ⟨e0, e1⟩ := hS; go_simp⟩) ⟨heap_cell HBX.out 0, heap_cell HBX.out 1⟩ ?_
        try go_simp
        refine wpAnyT_take (i := 1) (v := .slice uv L c) rfl (by kernel_rfl) (by kernel_rfl) (by kernel_rfl) (by kernel_rfl) (fun _ _ _ h => h) (Or.inl ⟨by kernel_rfl, fun X hS => by obtain ⟨e0, e1⟩ := hS; go_simp⟩) ⟨heap_cell HBX.out 0, heap_cell HBX.out 1⟩ ?_
        try go_simp
        refine wpAnyT_take (i := 2) (v := .pointer (some ⟨a, 0, none⟩)) rfl (by kernel_rfl) (by kernel_rfl) (by kernel_rfl) (by kernel_rfl) (fun _ _ _ h => h) (Or.inl ⟨by kernel_rfl, fun X hS => by obtain ⟨e0, e1⟩ := hS; go_simp⟩) ⟨heap_cell HBX.out 0, heap_cell HBX.out 1⟩ ?_
        try go_simp
        refine wpAnyT_take (i := 3) (v := .agg #[.slice (some ⟨gc, 0, none⟩) cs.length vc, .slice uv L c]) rfl (by kernel_rfl) (by kernel_rfl) (by kernel_rfl) (by kernel_rfl) (fun _ _ _ h => h) (Or.inl ⟨by kernel_rfl, fun X hS => by obtain ⟨e0, e1⟩ := hS; go_simp⟩) ⟨heap_cell HBX.out 0, heap_cell HBX.out 1⟩ ?_
        try go_simp
        have HOWN := hid (fun v hv g hg => (IRow.Rows.own HRS.out (u := v) hv g hg).2)
        have hzz := HG.out.size
        refine wpAnyT_one 4 rfl (by kernel_rfl) (fun K hK => ?_)
        go_simp
        refine (l3DrawInstance_any a (q + 3 + 200 * k) w.heap.size vc L c (some ⟨gc, 0, none⟩) uv cs w8 (by omega) h1 h3 HR.out HV.out).mono ?_
        rintro e w9 ⟨x1, y1, ns, g2, c2, rfl, hnr, hx1, hy1, hn1, hn2, hr, hgr⟩
        replace HG : Hid (w.grownBy w9 (some a)) := grown_trans HG.out hgr
        replace HZ : Hid (w9.heap[w.heap.size]? = some (.cells #[.slice none 0 0, .slice none 0 0] 42 (0, 0))) := HR.out.box HZ.out (by decide) hgr
        replace HV : Hid (w9.ownsRow w.heap.size 69 2 (.slice (some ⟨gc, 0, none⟩) cs.length vc) cs.length (flat cs)) := HR.out.row HV.out (by decide) hgr
        replace HIR : Hid (w9.ownsRow w.heap.size 28 3 (.slice uv L c) L D2) := HR.out.row HIR.out (by decide) hgr
        replace HRS : Hid (IRow.Rows w9 w.heap.size ix vs) := HR.out.rows HRS.out hgr
        replace HBX : Hid (w9.heap[bx]? = some (.cells #[.slice (some ⟨gc, 0, none⟩) cs.length vc, .slice uv L c] 42 (0, 0))) := HR.out.box HBX.out (by decide) hgr
        have hzc := hgr.size
        replace HR : Hid (RD w9 a (q + 3 + 200 * (k + 1))) := hr.mono (by omega)
        clear hr hgr hzc
        have HNW : Hid (∀ v ∈ vs, ∀ g, v.ownBlock = some g → (Value.slice (some ⟨g2, 0, none⟩) ns.length c2).ownBlock ≠ some g) := by
          intro v hv g hg he
          have h8 := HOWN.out v hv g hg
          have h9 := (row_own hnr g he).1
          omega
        have HNR : Hid (w9.ownsRow w.heap.size 25 2 (.slice (some ⟨g2, 0, none⟩) ns.length c2) ns.length (flat ns)) := row_mono hnr hzz
        clear hnr HOWN hzz
        have hiw := iw_small hx1 (by omega : y1.size ≤ 40) hn1 hn2
        have HIW := hid hiw
        clear hiw hx1 hy1 hn2
        refine hK _ _ (fun _ => ⟨heap_cell HBX.out 0, heap_cell HBX.out 1⟩) ?_
        clear hK K
        refine wpAnyT_one 5 rfl (by kernel_rfl) (fun K hK => ?_)
        go_simp
        have hzz := HG.out.size
        have hb : Below w9.heap.size w9 (w9.alloc (.cells #[.string x1, .string y1, .slice (some ⟨g2, 0, none⟩) ns.length c2] 28)) := (Below.refl _ _).alloc (Nat.le_refl _) _
        replace HR : Hid (RD (w9.alloc (.cells #[.string x1, .string y1, .slice (some ⟨g2, 0, none⟩) ns.length c2] 28)) a (q + 3 + 200 * (k + 1))) := HR.out.below hb
        replace HG : Hid (w.grownBy (w9.alloc (.cells #[.string x1, .string y1, .slice (some ⟨g2, 0, none⟩) ns.length c2] 28)) (some a)) := grown_trans HG.out (gb0 hb _)
        replace HZ : Hid ((w9.alloc (.cells #[.string x1, .string y1, .slice (some ⟨g2, 0, none⟩) ns.length c2] 28)).heap[w.heap.size]? = some (.cells #[.slice none 0 0, .slice none 0 0] 42 (0, 0))) := below_heap hb (lt_of_heap HZ.out) HZ.out
        replace HV : Hid ((w9.alloc (.cells #[.string x1, .string y1, .slice (some ⟨g2, 0, none⟩) ns.length c2] 28)).ownsRow w.heap.size 69 2 (.slice (some ⟨gc, 0, none⟩) cs.length vc) cs.length (flat cs)) := row_below hb HV.out
        replace HIR : Hid ((w9.alloc (.cells #[.string x1, .string y1, .slice (some ⟨g2, 0, none⟩) ns.length c2] 28)).ownsRow w.heap.size 28 3 (.slice uv L c) L D2) := row_below hb HIR.out
        replace HRS : Hid (IRow.Rows (w9.alloc (.cells #[.string x1, .string y1, .slice (some ⟨g2, 0, none⟩) ns.length c2] 28)) w.heap.size ix vs) := HRS.out.below hb
        replace HBX : Hid ((w9.alloc (.cells #[.string x1, .string y1, .slice (some ⟨g2, 0, none⟩) ns.length c2] 28)).heap[bx]? = some (.cells #[.slice (some ⟨gc, 0, none⟩) cs.length vc, .slice uv L c] 42 (0, 0))) := below_heap hb (lt_of_heap HBX.out) HBX.out
        replace HNR : Hid ((w9.alloc (.cells #[.string x1, .string y1, .slice (some ⟨g2, 0, none⟩) ns.length c2] 28)).ownsRow w.heap.size 25 2 (.slice (some ⟨g2, 0, none⟩) ns.length c2) ns.length (flat ns)) := row_below hb HNR.out
        clear hb
        have HNB : Hid ((w9.alloc (.cells #[.string x1, .string y1, .slice (some ⟨g2, 0, none⟩) ns.length c2] 28)).heap[w9.heap.size]? = some (.cells #[.string x1, .string y1, .slice (some ⟨g2, 0, none⟩) ns.length c2] 28 (0, 0))) := heap_alloc_new _ _
        generalize (w9.alloc (.cells #[.string x1, .string y1, .slice (some ⟨g2, 0, none⟩) ns.length c2] 28)) = w10 at *
        obtain ⟨b10, hbb10⟩ : ∃ x, x = w9.heap.size := ⟨_, rfl⟩
        rw [← hbb10] at HNB ⊢
        clear hzz
        clear hbb10
        refine hK _ _ (fun _ => ⟨heap_cell HBX.out 0, heap_cell HBX.out 1⟩) ?_
        clear hK K
        have hadd : ∀ j, (⟨b10, 0, none⟩ : Addr).add j = ⟨b10, j, none⟩ := fun j => by unfold Addr.add; split <;> simp_all
        have hzz := HG.out.size
        obtain ⟨ib, hib, hz0, hz1, hz2⟩ := info_parts infoInst
        refine wpAnyT_one 6 rfl (by kernel_rfl) (fun K hK => ?_)
        rw [if_pos (by kernel_rfl)]
        refine (wp_append_lies w10 (Operand.tmp 24) (Operand.tmp 28) 40 rfl (w.heap.size) 28 ib (.agg #[.string ⟨#[]⟩, .string ⟨#[]⟩, .slice none 0 0]) 3 56 Tryd.underlying40 hib hz0 hz1 hz2 rfl (by decide) (.slice uv L c) (L) D2 rfl HIR.out ⟨b10, 0, none⟩ 1 1 [.string x1, .string y1, .slice (some ⟨g2, 0, none⟩) ns.length c2] rfl (by simp) (fun j u hj => by rw [hadd]; exact news_three (heap_cell HNB.out 0) (heap_cell HNB.out 1) (heap_cell HNB.out 2) j u hj) (by simp [Value.oneCell']) (by decide) (by unfold maxLen; omega) (by omega) (by omega) w10.heap.size rfl fun g1' cap1 w11 hown hgr hlie hlt9 => hK _ _ (fun _ => ⟨heap_cell (keep_rowG hgr HIR.out HBX.out (by decide)) 0, heap_cell (keep_rowG hgr HIR.out HBX.out (by decide)) 1⟩) ?_)
        clear hK K hadd hib hz0 hz1 hz2 hlie hlt9 HNB
        replace HR : Hid (RD w11 a (q + 3 + 200 * (k + 1))) := HR.out.grown hgr (fun g hg => by have := (row_own HIR.out g hg).1; omega)
        replace HG : Hid (w.grownBy w11 (some a)) := grown_rowR HG.out HIR.out (by omega) hgr
        replace HZ : Hid (w11.heap[w.heap.size]? = some (.cells #[.slice none 0 0, .slice none 0 0] 42 (0, 0))) := keep_rowG hgr HIR.out HZ.out (by decide)
        replace HV : Hid (w11.ownsRow w.heap.size 69 2 (.slice (some ⟨gc, 0, none⟩) cs.length vc) cs.length (flat cs)) := row_grownG hgr HV.out HIR.out (by decide)
        replace HRS : Hid (IRow.Rows w11 w.heap.size ix vs) := HRS.out.grown hgr HIR.out (by decide)
        replace HBX : Hid (w11.heap[bx]? = some (.cells #[.slice (some ⟨gc, 0, none⟩) cs.length vc, .slice uv L c] 42 (0, 0))) := keep_rowG hgr HIR.out HBX.out (by decide)
        replace HNR : Hid (w11.ownsRow w.heap.size 25 2 (.slice (some ⟨g2, 0, none⟩) ns.length c2) ns.length (flat ns)) := row_grownG hgr HNR.out HIR.out (by decide)
        replace HIR : Hid (w11.ownsRow w.heap.size 28 3 (.slice (some ⟨g1', 0, none⟩) (L + 1) cap1) (L + 1) (D2 ++ [.string x1, .string y1, .slice (some ⟨g2, 0, none⟩) ns.length c2])) := hown
        clear hown hgr hzz
        refine wpAnyT_drop _ 7 _ _ _ (by decide) (by kernel_rfl) ?_
        change wpList _ _ _ [_, _] _ _
        obtain ⟨i0, i1, f0, f1⟩ := k2 HBX.out
        have hli := lt_of_heap HBX.out
        go_wp2_with fail
        go_roundg (n - (k + 1))
        case measure => omega
        case rel =>
          have hg := grown_set w11 bx 1 (.slice (some ⟨g1', 0, none⟩) (L + 1) cap1)
          refine ⟨k + 1, L + 1, cap1, some ⟨g1', 0, none⟩, ix ++ [(x1, y1, ns)], vs ++ [.slice (some ⟨g2, 0, none⟩) ns.length c2], _, by omega, by omega, by go_num, by omega, by omega, ?_, ?_, ?_, heap_set HBX.out 1 _, row_boxR HBX.out HIR.out (by decide) hg, ?_, (HR.out.grown hg (fun g hg => by cases hg; omega)).mono (by omega), grown_boxR HG.out hg (by omega), heap_boxR HZ.out hg (by omega), row_boxR HBX.out HV.out (by decide) hg⟩
          · show _ = _
            rw [List.length_append, HXL.out]; rfl
          · show _ ≤ _
            rw [itot_snoc]
            have := HIW.out
            have := HXT.out
            omega
          · show _ = _
            rw [flatI_snoc _ vs _ _ HRS.out.1, HD.out]
          · exact (HRS.out.set HBX.out (by decide) _).snoc (p := (x1, y1, ns)) (row_boxR HBX.out HNR.out (by decide) hg) HNW.out
      · have hke : k = n := by omega
        subst hke
        obtain ⟨gi, rfl⟩ := row_some HIR.out (by omega)
        obtain ⟨i0, i1, f0, f1⟩ := k2 HBX.out
        have hli := lt_of_heap HBX.out
        have HU : Hid (IR wr w.heap.size (.slice (some ⟨gi, 0, none⟩) ix.length c) ix) := ⟨vs, by rw [HXL.out, ← HD.out]; exact HIR.out, HRS.out⟩
        obtain ⟨r0, r1, z0, z1⟩ := k2 HZ.out
        have hlr := lt_of_heap HZ.out
        go_wp2
        have hg := set2_boxR wr w.heap.size (.slice (some ⟨gc, 0, none⟩) cs.length vc) (.slice (some ⟨gi, 0, none⟩) L c)
        refine bodyPost_ret (results_cell_row rfl _ _ w.heap.size 42 #[.slice (some ⟨gc, 0, none⟩) cs.length vc, .slice (some ⟨gi, 0, none⟩) L c] (0, 0) _ rfl (heap_set (heap_set HZ.out 0 _) 1 _) Tryd.underlying42 rfl (by kernel_rfl)) rfl ?_
        exact ⟨gc, vc, gi, c, cs, ix, by rw [HXL.out], row_boxR HZ.out HV.out (by decide) hg, ir_boxR HZ.out HU.out (by decide) (by decide) hg, h1, by rw [HXL.out]; omega, h3, by rw [HXL.out]; have := HXT.out; omega, (HR.out.grown hg (fun g hg => by cases hg; omega)).mono (by omega), grown_boxR HG.out hg (by omega)⟩
end Draw
end Go.Proofs.YtbdnhcfebgkpdaaDoor
set_option linter.unusedVariables false
set_option linter.unusedSimpArgs false
set_option maxRecDepth 100000
namespace Go.Proofs.YtbdnhcfebgkpdaaDoor
open Go.RowKit ListS IRow PWo
namespace Draw
theorem ir_grownG {w w' : World} {base n size b : Nat} {u v : Value} {is : List II} {xs : List Value} {e : TypeId} (hg : w.grownBy w' v.ownBlock) (hi : IR w b u is) (ho : w.ownsRow base e size v n xs) (h1 : 28 ≠ e) (h2 : 25 ≠ e) : IR w' b u is := by
  obtain ⟨vs, a1, a2, a3, a4⟩ := hi
  exact ⟨vs, row_grownG hg a1 ho h1, a2, fun i p u hp hu => row_grownG hg (a3 i p u hp hu) ho h2, a4⟩
theorem flatI_one : ∀ (is : List II) (vs : List Value), (∀ v ∈ vs, v.oneCell' = true) → ∀ u ∈ flatI is vs, u.oneCell' = true
  | [], vs, h => by simp [flatI]
  | p :: is, [], h => by simp [flatI]
  | p :: is, v :: vs, h => by
    intro u hu
    simp only [flatI, List.mem_cons] at hu
    rcases hu with rfl | rfl | rfl | hu
    · rfl
    · rfl
    · exact h _ (by simp)
    · exact flatI_one is vs (fun v hv => h v (List.mem_cons_of_mem _ hv)) u hu
theorem own_one {w : World} {b size n : Nat} {e : TypeId} {v : Value} {xs : List Value} (h : w.ownsRow b e size v n xs) : v.oneCell' = true := by
  obtain ⟨a, c, rfl⟩ := row_slice h
  rfl
theorem rows_one {w : World} {b : Nat} {is : List II} {vs : List Value} (h : IRow.Rows w b is vs) : ∀ v ∈ vs, v.oneCell' = true := by
  intro v hv
  obtain ⟨i, hi, hh⟩ := List.mem_iff_getElem.1 hv
  have hl := h.1
  obtain ⟨p, hp⟩ : ∃ p, is[i]? = some p := ⟨_, List.getElem?_eq_getElem (by omega)⟩
  exact own_one (h.2.1 i p v hp (by rw [List.getElem?_eq_getElem hi, hh]))
theorem rows_set1 {w : World} {base k o : Nat} {is : List II} {vs : List Value} {cs : Array Value} {e : TypeId} {fr : Nat × Nat} (h : IRow.Rows w base is vs) (hk : w.heap[k]? = some (.cells cs e fr)) (hne : e ≠ 25) {w' : World} (hg : w.grownBy w' (some k)) : IRow.Rows w' base is vs :=
  ⟨h.1, fun i p u hp hu => row_boxR hk (h.2.1 i p u hp hu) (Ne.symm hne) hg, h.2.2⟩
theorem rows_mono {w : World} {b b2 : Nat} {is : List II} {vs : List Value} (h : IRow.Rows w b is vs) (hb : b2 ≤ b) : IRow.Rows w b2 is vs := ⟨h.1, fun i p u hp hu => row_mono (h.2.1 i p u hp hu) hb, h.2.2⟩
theorem tot_snocW (cs : List BB) (p : BB) : tot (cs ++ [p]) = tot cs + (p.1.size + p.2.size) := by simp [tot]
/-- a world of the call's own or handed in: rows from block b on -/
def BPostW (w : World) (a q b : Nat) (e : Ending) (w' : World) : Prop := ∃ (va ua : Option Addr) (vc uc : Nat) (cs : List BB) (is : List II), e = .returned (.agg #[.slice va cs.length vc, .slice ua is.length uc]) ∧ w'.ownsRow b 69 2 (.slice va cs.length vc) cs.length (flat cs) ∧ IR w' b (.slice ua is.length uc) is ∧ 1 ≤ cs.length ∧ 1 ≤ is.length ∧ tot cs + cs.length ≤ 300 ∧ itot is + is.length ≤ 8000 ∧ RD w' a q ∧ w.grownBy w' (some a)
set_option maxHeartbeats 16000000 in
theorem l3Bad_any (a q b gc vc gi uc : Nat) (cs : List BB) (is : List II) (w : World) (hq : q ≤ 50000) (h1 : 1 ≤ cs.length) (h2 : 1 ≤ is.length) (h3 : tot cs + cs.length ≤ 200) (h4 : itot is + is.length ≤ 6000) (h : RD w a q) (hv : w.ownsRow b 69 2 (.slice (some ⟨gc, 0, none⟩) cs.length vc) cs.length (flat cs)) (hu : IR w b (.slice (some ⟨gi, 0, none⟩) is.length uc) is) (hbw : b ≤ w.heap.size) :
    Calls Tryd.prog 65 #[.pointer (some ⟨a, 0, none⟩), .agg #[.slice (some ⟨gc, 0, none⟩) cs.length vc, .slice (some ⟨gi, 0, none⟩) is.length uc]] w (BPostW w a (q + 10) b) := by
  obtain ⟨vs, hui, hur⟩ := hu
  have HR := hid h
  have hal := h.lt
  have HG : Hid (w.grownBy w (some a)) := gb0 (Below.refl _ _) _
  have HV := hid hv
  have HIR := hid hui
  have HRS := hid hur
  have hcl : cs.length ≤ 200 := by omega
  have hil : is.length ≤ 6000 := by omega
  clear h hv hui hur
  go_enter Tryd.func65, Tryd.ntmps65
  have hb : Below w.heap.size w ((w.alloc (.cells #[.slice (some ⟨gc, 0, none⟩) cs.length vc, .slice (some ⟨gi, 0, none⟩) is.length uc] 42)).alloc (.cells #[.slice none 0 0, .slice none 0 0] 42)) := ((Below.refl _ _).alloc (by simp; try omega) _).alloc (by simp; try omega) _
  replace HR : Hid (RD ((w.alloc (.cells #[.slice (some ⟨gc, 0, none⟩) cs.length vc, .slice (some ⟨gi, 0, none⟩) is.length uc] 42)).alloc (.cells #[.slice none 0 0, .slice none 0 0] 42)) a (q)) := HR.out.below hb
  replace HG : Hid (w.grownBy ((w.alloc (.cells #[.slice (some ⟨gc, 0, none⟩) cs.length vc, .slice (some ⟨gi, 0, none⟩) is.length uc] 42)).alloc (.cells #[.slice none 0 0, .slice none 0 0] 42)) (some a)) := grown_trans HG.out (gb0 hb _)
  replace HV : Hid (((w.alloc (.cells #[.slice (some ⟨gc, 0, none⟩) cs.length vc, .slice (some ⟨gi, 0, none⟩) is.length uc] 42)).alloc (.cells #[.slice none 0 0, .slice none 0 0] 42)).ownsRow b 69 2 (.slice (some ⟨gc, 0, none⟩) cs.length vc) cs.length (flat cs)) := row_below hb HV.out
  replace HIR : Hid (((w.alloc (.cells #[.slice (some ⟨gc, 0, none⟩) cs.length vc, .slice (some ⟨gi, 0, none⟩) is.length uc] 42)).alloc (.cells #[.slice none 0 0, .slice none 0 0] 42)).ownsRow b 28 3 (.slice (some ⟨gi, 0, none⟩) is.length uc) is.length (flatI is vs)) := row_below hb HIR.out
  replace HRS : Hid (IRow.Rows ((w.alloc (.cells #[.slice (some ⟨gc, 0, none⟩) cs.length vc, .slice (some ⟨gi, 0, none⟩) is.length uc] 42)).alloc (.cells #[.slice none 0 0, .slice none 0 0] 42)) b is vs) := HRS.out.below hb
  clear hb
  have HBX : Hid (((w.alloc (.cells #[.slice (some ⟨gc, 0, none⟩) cs.length vc, .slice (some ⟨gi, 0, none⟩) is.length uc] 42)).alloc (.cells #[.slice none 0 0, .slice none 0 0] 42)).heap[w.heap.size]? = some (.cells #[.slice (some ⟨gc, 0, none⟩) cs.length vc, .slice (some ⟨gi, 0, none⟩) is.length uc] 42 (0, 0))) := hb_alloc (hb_newk (by simp; try omega)) _
  have HZ : Hid (((w.alloc (.cells #[.slice (some ⟨gc, 0, none⟩) cs.length vc, .slice (some ⟨gi, 0, none⟩) is.length uc] 42)).alloc (.cells #[.slice none 0 0, .slice none 0 0] 42)).heap[w.heap.size + 1]? = some (.cells #[.slice none 0 0, .slice none 0 0] 42 (0, 0))) := hb_newk (by simp; try omega)
  go_wp2_with fail
  generalize ((w.alloc (.cells #[.slice (some ⟨gc, 0, none⟩) cs.length vc, .slice (some ⟨gi, 0, none⟩) is.length uc] 42)).alloc (.cells #[.slice none 0 0, .slice none 0 0] 42)) = w1 at *
  refine (pick_any a q 36 w1 (by decide) (by decide) (by omega) HR.out).mono ?_
  rintro e w2 ⟨j, hj, rfl, hr, hgr⟩
  replace HG : Hid (w.grownBy w2 (some a)) := grown_trans HG.out hgr
  replace HV : Hid (w2.ownsRow b 69 2 (.slice (some ⟨gc, 0, none⟩) cs.length vc) cs.length (flat cs)) := HR.out.row HV.out (by decide) hgr
  replace HIR : Hid (w2.ownsRow b 28 3 (.slice (some ⟨gi, 0, none⟩) is.length uc) is.length (flatI is vs)) := HR.out.row HIR.out (by decide) hgr
  replace HRS : Hid (IRow.Rows w2 b is vs) := HR.out.rows HRS.out hgr
  replace HBX : Hid (w2.heap[w.heap.size]? = some (.cells #[.slice (some ⟨gc, 0, none⟩) cs.length vc, .slice (some ⟨gi, 0, none⟩) is.length uc] 42 (0, 0))) := HR.out.box HBX.out (by decide) hgr
  replace HZ : Hid (w2.heap[w.heap.size + 1]? = some (.cells #[.slice none 0 0, .slice none 0 0] 42 (0, 0))) := HR.out.box HZ.out (by decide) hgr
  have hzc := hgr.size
  replace HR : Hid (RD w2 a (q + 1)) := hr.mono (by omega)
  clear hr hgr hzc
  by_cases hj0 : j = 0
  · subst hj0
    have hzz := HG.out.size
    obtain ⟨cHBX0, cHBX1, fHBX0, fHBX1⟩ := k2 HBX.out
    have lHBX := lt_of_heap HBX.out
    obtain ⟨cHZ0, cHZ1, fHZ0, fHZ1⟩ := k2 HZ.out
    have lHZ := lt_of_heap HZ.out
    have hb : Below w2.heap.size w2 (w2.alloc (.cells #[] 69)) := (Below.refl _ _).alloc (by simp; try omega) _
    have AHR : Hid (RD (w2.alloc (.cells #[] 69)) a (q + 1)) := HR.out.below hb
    have AHG : Hid (w.grownBy (w2.alloc (.cells #[] 69)) (some a)) := grown_trans HG.out (gb0 hb _)
    have AHV : Hid ((w2.alloc (.cells #[] 69)).ownsRow b 69 2 (.slice (some ⟨gc, 0, none⟩) cs.length vc) cs.length (flat cs)) := row_below hb HV.out
    have AHIR : Hid ((w2.alloc (.cells #[] 69)).ownsRow b 28 3 (.slice (some ⟨gi, 0, none⟩) is.length uc) is.length (flatI is vs)) := row_below hb HIR.out
    have AHRS : Hid (IRow.Rows (w2.alloc (.cells #[] 69)) b is vs) := HRS.out.below hb
    have AHBX : Hid ((w2.alloc (.cells #[] 69)).heap[w.heap.size]? = some (.cells #[.slice (some ⟨gc, 0, none⟩) cs.length vc, .slice (some ⟨gi, 0, none⟩) is.length uc] 42 (0, 0))) := below_heap hb (lt_of_heap HBX.out) HBX.out
    have AHZ : Hid ((w2.alloc (.cells #[] 69)).heap[w.heap.size + 1]? = some (.cells #[.slice none 0 0, .slice none 0 0] 42 (0, 0))) := below_heap hb (lt_of_heap HZ.out) HZ.out
    have AHEM : Hid ((w2.alloc (.cells #[] 69)).heap[w2.heap.size]? = some (.cells #[] 69 (0, 0))) := hb_newk (by simp; try omega)
    have AHEMR : Hid ((w2.alloc (.cells #[] 69)).ownsRow w.heap.size 69 2 (.slice (some ⟨w2.heap.size, 0, none⟩) 0 0) 0 []) := by
      have h := World.ownsRow_made (base := w.heap.size) (e := 69) (size := 2) w2 #[] 0 (by first | omega | (simp; omega)) (by simp [maxLen]) rfl
      have h := h
      show World.ownsRow _ _ _ _ _ _ _
      simpa using h
    clear hb
    go_wp2_with (first
      | (at_builtin; refine app_many_at 39 69 (.agg #[.string ⟨#[]⟩, .string ⟨#[]⟩]) 2 32 Tryd.underlying39 infoClass rfl (by decide) rfl _ _ rfl (w.heap.size) (.slice (some ⟨w2.heap.size, 0, none⟩) 0 0) 0 [] rfl AHEMR.out gc vc (cs.length) (flat cs) (by simp [go_sem]) HV.out.1 (fun j u hu => row_cell AHV.out j hu) (flat_one cs) (by unfold maxLen; omega) (by omega) (by simp; omega) ?_))
    intro v' w3 hown hgr
    replace hown : w3.ownsRow w.heap.size 69 2 v' (cs.length) (flat cs) := by simpa using hown
    obtain ⟨na', nc', rfl⟩ := row_slice hown
    replace HR : Hid (RD w3 a (q + 1)) := AHR.out.grown hgr (fun g hg => by have := (row_own AHEMR.out g hg).1; omega)
    replace HG : Hid (w.grownBy w3 (some a)) := grown_rowR AHG.out AHEMR.out (by omega) hgr
    replace HIR : Hid (w3.ownsRow b 28 3 (.slice (some ⟨gi, 0, none⟩) is.length uc) is.length (flatI is vs)) := row_grownG hgr AHIR.out AHEMR.out (by decide)
    replace HRS : Hid (IRow.Rows w3 b is vs) := AHRS.out.grown hgr AHEMR.out (by decide)
    replace HBX : Hid (w3.heap[w.heap.size]? = some (.cells #[.slice (some ⟨gc, 0, none⟩) cs.length vc, .slice (some ⟨gi, 0, none⟩) is.length uc] 42 (0, 0))) := keep_rowG hgr AHEMR.out AHBX.out (by decide)
    replace HZ : Hid (w3.heap[w.heap.size + 1]? = some (.cells #[.slice none 0 0, .slice none 0 0] 42 (0, 0))) := keep_rowG hgr AHEMR.out AHZ.out (by decide)
    clear AHR AHG AHV AHIR AHRS AHBX AHZ AHEM AHEMR HV
    have HV2 := hid hown
    clear hown hgr
    clear cHBX0 cHBX1 fHBX0 fHBX1 lHBX
    clear cHZ0 cHZ1 fHZ0 fHZ1 lHZ
    clear hzz
    go_wp2_with fail
    have hzz := HG.out.size
    have hb : Below w3.heap.size w3 (w3.alloc (.cells #[.string ⟨#[69]⟩, .string ⟨#[73]⟩, .string ⟨#[]⟩, .string ⟨#[72]⟩] 9)) := (Below.refl _ _).alloc (Nat.le_refl _) _
    replace HR : Hid (RD (w3.alloc (.cells #[.string ⟨#[69]⟩, .string ⟨#[73]⟩, .string ⟨#[]⟩, .string ⟨#[72]⟩] 9)) a (q + 1)) := HR.out.below hb
    replace HG : Hid (w.grownBy (w3.alloc (.cells #[.string ⟨#[69]⟩, .string ⟨#[73]⟩, .string ⟨#[]⟩, .string ⟨#[72]⟩] 9)) (some a)) := grown_trans HG.out (gb0 hb _)
    replace HIR : Hid ((w3.alloc (.cells #[.string ⟨#[69]⟩, .string ⟨#[73]⟩, .string ⟨#[]⟩, .string ⟨#[72]⟩] 9)).ownsRow b 28 3 (.slice (some ⟨gi, 0, none⟩) is.length uc) is.length (flatI is vs)) := row_below hb HIR.out
    replace HRS : Hid (IRow.Rows (w3.alloc (.cells #[.string ⟨#[69]⟩, .string ⟨#[73]⟩, .string ⟨#[]⟩, .string ⟨#[72]⟩] 9)) b is vs) := HRS.out.below hb
    replace HBX : Hid ((w3.alloc (.cells #[.string ⟨#[69]⟩, .string ⟨#[73]⟩, .string ⟨#[]⟩, .string ⟨#[72]⟩] 9)).heap[w.heap.size]? = some (.cells #[.slice (some ⟨gc, 0, none⟩) cs.length vc, .slice (some ⟨gi, 0, none⟩) is.length uc] 42 (0, 0))) := below_heap hb (lt_of_heap HBX.out) HBX.out
    replace HZ : Hid ((w3.alloc (.cells #[.string ⟨#[69]⟩, .string ⟨#[73]⟩, .string ⟨#[]⟩, .string ⟨#[72]⟩] 9)).heap[w.heap.size + 1]? = some (.cells #[.slice none 0 0, .slice none 0 0] 42 (0, 0))) := below_heap hb (lt_of_heap HZ.out) HZ.out
    replace HV2 : Hid ((w3.alloc (.cells #[.string ⟨#[69]⟩, .string ⟨#[73]⟩, .string ⟨#[]⟩, .string ⟨#[72]⟩] 9)).ownsRow w.heap.size 69 2 (.slice na' (cs.length) nc') (cs.length) (flat cs)) := row_below hb HV2.out
    clear hb
    have HL : Hid ((w3.alloc (.cells #[.string ⟨#[69]⟩, .string ⟨#[73]⟩, .string ⟨#[]⟩, .string ⟨#[72]⟩] 9)).heap[w3.heap.size]? = some (.cells #[.string ⟨#[69]⟩, .string ⟨#[73]⟩, .string ⟨#[]⟩, .string ⟨#[72]⟩] 9 (0, 0))) := heap_alloc_new _ _
    generalize (w3.alloc (.cells #[.string ⟨#[69]⟩, .string ⟨#[73]⟩, .string ⟨#[]⟩, .string ⟨#[72]⟩] 9)) = w4 at *
    obtain ⟨b4, hbb4⟩ : ∃ x, x = w3.heap.size := ⟨_, rfl⟩
    rw [← hbb4] at HL ⊢
    clear hzz
    clear hbb4
    refine (ofS_any a (q + 1) b4 4 0 4 _ w4 (by omega) (by decide) (by decide) rfl HL.out (by decide) HR.out).mono ?_
    rintro e w5 ⟨x, rfl, -, hx, hr, hgr⟩
    replace HG : Hid (w.grownBy w5 (some a)) := grown_trans HG.out hgr
    replace HIR : Hid (w5.ownsRow b 28 3 (.slice (some ⟨gi, 0, none⟩) is.length uc) is.length (flatI is vs)) := HR.out.row HIR.out (by decide) hgr
    replace HRS : Hid (IRow.Rows w5 b is vs) := HR.out.rows HRS.out hgr
    replace HBX : Hid (w5.heap[w.heap.size]? = some (.cells #[.slice (some ⟨gc, 0, none⟩) cs.length vc, .slice (some ⟨gi, 0, none⟩) is.length uc] 42 (0, 0))) := HR.out.box HBX.out (by decide) hgr
    replace HZ : Hid (w5.heap[w.heap.size + 1]? = some (.cells #[.slice none 0 0, .slice none 0 0] 42 (0, 0))) := HR.out.box HZ.out (by decide) hgr
    replace HV2 : Hid (w5.ownsRow w.heap.size 69 2 (.slice na' (cs.length) nc') (cs.length) (flat cs)) := HR.out.row HV2.out (by decide) hgr
    replace HL : Hid (w5.heap[b4]? = some (.cells #[.string ⟨#[69]⟩, .string ⟨#[73]⟩, .string ⟨#[]⟩, .string ⟨#[72]⟩] 9 (0, 0))) := HR.out.box HL.out (by decide) hgr
    have hzc := hgr.size
    replace HR : Hid (RD w5 a (q + 2)) := hr.mono (by omega)
    clear hr hgr hzc
    clear HL
    go_wp2_with fail
    have hzz := HG.out.size
    have hb : Below w5.heap.size w5 (w5.alloc (.cells #[.string ⟨#[]⟩, .string ⟨#[69]⟩, .string ⟨#[72]⟩, .string ⟨#[90]⟩] 9)) := (Below.refl _ _).alloc (Nat.le_refl _) _
    replace HR : Hid (RD (w5.alloc (.cells #[.string ⟨#[]⟩, .string ⟨#[69]⟩, .string ⟨#[72]⟩, .string ⟨#[90]⟩] 9)) a (q + 2)) := HR.out.below hb
    replace HG : Hid (w.grownBy (w5.alloc (.cells #[.string ⟨#[]⟩, .string ⟨#[69]⟩, .string ⟨#[72]⟩, .string ⟨#[90]⟩] 9)) (some a)) := grown_trans HG.out (gb0 hb _)
    replace HIR : Hid ((w5.alloc (.cells #[.string ⟨#[]⟩, .string ⟨#[69]⟩, .string ⟨#[72]⟩, .string ⟨#[90]⟩] 9)).ownsRow b 28 3 (.slice (some ⟨gi, 0, none⟩) is.length uc) is.length (flatI is vs)) := row_below hb HIR.out
    replace HRS : Hid (IRow.Rows (w5.alloc (.cells #[.string ⟨#[]⟩, .string ⟨#[69]⟩, .string ⟨#[72]⟩, .string ⟨#[90]⟩] 9)) b is vs) := HRS.out.below hb
    replace HBX : Hid ((w5.alloc (.cells #[.string ⟨#[]⟩, .string ⟨#[69]⟩, .string ⟨#[72]⟩, .string ⟨#[90]⟩] 9)).heap[w.heap.size]? = some (.cells #[.slice (some ⟨gc, 0, none⟩) cs.length vc, .slice (some ⟨gi, 0, none⟩) is.length uc] 42 (0, 0))) := below_heap hb (lt_of_heap HBX.out) HBX.out
    replace HZ : Hid ((w5.alloc (.cells #[.string ⟨#[]⟩, .string ⟨#[69]⟩, .string ⟨#[72]⟩, .string ⟨#[90]⟩] 9)).heap[w.heap.size + 1]? = some (.cells #[.slice none 0 0, .slice none 0 0] 42 (0, 0))) := below_heap hb (lt_of_heap HZ.out) HZ.out
    replace HV2 : Hid ((w5.alloc (.cells #[.string ⟨#[]⟩, .string ⟨#[69]⟩, .string ⟨#[72]⟩, .string ⟨#[90]⟩] 9)).ownsRow w.heap.size 69 2 (.slice na' (cs.length) nc') (cs.length) (flat cs)) := row_below hb HV2.out
    clear hb
    have HL : Hid ((w5.alloc (.cells #[.string ⟨#[]⟩, .string ⟨#[69]⟩, .string ⟨#[72]⟩, .string ⟨#[90]⟩] 9)).heap[w5.heap.size]? = some (.cells #[.string ⟨#[]⟩, .string ⟨#[69]⟩, .string ⟨#[72]⟩, .string ⟨#[90]⟩] 9 (0, 0))) := heap_alloc_new _ _
    generalize (w5.alloc (.cells #[.string ⟨#[]⟩, .string ⟨#[69]⟩, .string ⟨#[72]⟩, .string ⟨#[90]⟩] 9)) = w6 at *
    obtain ⟨b6, hbb6⟩ : ∃ x, x = w5.heap.size := ⟨_, rfl⟩
    rw [← hbb6] at HL ⊢
    clear hzz
    clear hbb6
    refine (ofS_any a (q + 2) b6 4 0 4 _ w6 (by omega) (by decide) (by decide) rfl HL.out (by decide) HR.out).mono ?_
    rintro e w7 ⟨y, rfl, -, hy, hr, hgr⟩
    replace HG : Hid (w.grownBy w7 (some a)) := grown_trans HG.out hgr
    replace HIR : Hid (w7.ownsRow b 28 3 (.slice (some ⟨gi, 0, none⟩) is.length uc) is.length (flatI is vs)) := HR.out.row HIR.out (by decide) hgr
    replace HRS : Hid (IRow.Rows w7 b is vs) := HR.out.rows HRS.out hgr
    replace HBX : Hid (w7.heap[w.heap.size]? = some (.cells #[.slice (some ⟨gc, 0, none⟩) cs.length vc, .slice (some ⟨gi, 0, none⟩) is.length uc] 42 (0, 0))) := HR.out.box HBX.out (by decide) hgr
    replace HZ : Hid (w7.heap[w.heap.size + 1]? = some (.cells #[.slice none 0 0, .slice none 0 0] 42 (0, 0))) := HR.out.box HZ.out (by decide) hgr
    replace HV2 : Hid (w7.ownsRow w.heap.size 69 2 (.slice na' (cs.length) nc') (cs.length) (flat cs)) := HR.out.row HV2.out (by decide) hgr
    replace HL : Hid (w7.heap[b6]? = some (.cells #[.string ⟨#[]⟩, .string ⟨#[69]⟩, .string ⟨#[72]⟩, .string ⟨#[90]⟩] 9 (0, 0))) := HR.out.box HL.out (by decide) hgr
    have hzc := hgr.size
    replace HR : Hid (RD w7 a (q + 3)) := hr.mono (by omega)
    clear hr hgr hzc
    clear HL
    have hzz := HG.out.size
    obtain ⟨cHBX0, cHBX1, fHBX0, fHBX1⟩ := k2 HBX.out
    have lHBX := lt_of_heap HBX.out
    obtain ⟨cHZ0, cHZ1, fHZ0, fHZ1⟩ := k2 HZ.out
    have lHZ := lt_of_heap HZ.out
    have hb : Below w7.heap.size w7 (w7.alloc (.cells #[.string x, .string y] 69)) := (Below.refl _ _).alloc (by simp; try omega) _
    have AHR : Hid (RD (w7.alloc (.cells #[.string x, .string y] 69)) a (q + 3)) := HR.out.below hb
    have AHG : Hid (w.grownBy (w7.alloc (.cells #[.string x, .string y] 69)) (some a)) := grown_trans HG.out (gb0 hb _)
    have AHIR : Hid ((w7.alloc (.cells #[.string x, .string y] 69)).ownsRow b 28 3 (.slice (some ⟨gi, 0, none⟩) is.length uc) is.length (flatI is vs)) := row_below hb HIR.out
    have AHRS : Hid (IRow.Rows (w7.alloc (.cells #[.string x, .string y] 69)) b is vs) := HRS.out.below hb
    have AHBX : Hid ((w7.alloc (.cells #[.string x, .string y] 69)).heap[w.heap.size]? = some (.cells #[.slice (some ⟨gc, 0, none⟩) cs.length vc, .slice (some ⟨gi, 0, none⟩) is.length uc] 42 (0, 0))) := below_heap hb (lt_of_heap HBX.out) HBX.out
    have AHZ : Hid ((w7.alloc (.cells #[.string x, .string y] 69)).heap[w.heap.size + 1]? = some (.cells #[.slice none 0 0, .slice none 0 0] 42 (0, 0))) := below_heap hb (lt_of_heap HZ.out) HZ.out
    have AHV2 : Hid ((w7.alloc (.cells #[.string x, .string y] 69)).ownsRow w.heap.size 69 2 (.slice na' (cs.length) nc') (cs.length) (flat cs)) := row_below hb HV2.out
    have AHNB : Hid ((w7.alloc (.cells #[.string x, .string y] 69)).heap[w7.heap.size]? = some (.cells #[.string x, .string y] 69 (0, 0))) := hb_newk (by simp; try omega)
    clear hb
    go_wp2_with (first
      | (at_builtin; refine app_push_at 39 69 (.agg #[.string ⟨#[]⟩, .string ⟨#[]⟩]) 2 32 Tryd.underlying39 infoClass rfl (by decide) rfl _ _ rfl (w.heap.size) (.slice na' (cs.length) nc') (cs.length) (flat cs) rfl AHV2.out (w7.heap.size) 1 [.string x, .string y] (by simp [go_sem]) (by simp) (news_two (heap_cell AHNB.out 0) (heap_cell AHNB.out 1)) (by simp [Value.oneCell']) (by unfold maxLen; omega) (by omega) (by first | omega | (simp; omega)) ?_))
    intro g1' cap1 w8 hown hgr hlie
    replace HR : Hid (RD w8 a (q + 3)) := AHR.out.grown hgr (fun g hg => by have := (row_own AHV2.out g hg).1; omega)
    replace HG : Hid (w.grownBy w8 (some a)) := grown_rowR AHG.out AHV2.out (by omega) hgr
    replace HIR : Hid (w8.ownsRow b 28 3 (.slice (some ⟨gi, 0, none⟩) is.length uc) is.length (flatI is vs)) := row_grownG hgr AHIR.out AHV2.out (by decide)
    replace HRS : Hid (IRow.Rows w8 b is vs) := AHRS.out.grown hgr AHV2.out (by decide)
    replace HBX : Hid (w8.heap[w.heap.size]? = some (.cells #[.slice (some ⟨gc, 0, none⟩) cs.length vc, .slice (some ⟨gi, 0, none⟩) is.length uc] 42 (0, 0))) := keep_rowG hgr AHV2.out AHBX.out (by decide)
    replace HZ : Hid (w8.heap[w.heap.size + 1]? = some (.cells #[.slice none 0 0, .slice none 0 0] 42 (0, 0))) := keep_rowG hgr AHV2.out AHZ.out (by decide)
    clear AHR AHG AHIR AHRS AHBX AHZ AHV2 AHNB
    replace HV2 : Hid (w8.ownsRow w.heap.size 69 2 (.slice (some ⟨g1', 0, none⟩) (cs.length + 1) cap1) (cs.length + 1) (flat cs ++ [.string x, .string y])) := hown
    clear hown hgr hlie
    clear cHBX0 cHBX1 fHBX0 fHBX1 lHBX
    clear cHZ0 cHZ1 fHZ0 fHZ1 lHZ
    clear hzz
    have hfl : flat (cs ++ [(x, y)]) = flat cs ++ [.string x, .string y] := flat_snocW _ _
    have HFL := hid hfl
    clear hfl
    obtain ⟨i0, i1, f0, f1⟩ := k2 HBX.out
    obtain ⟨r0, r1, z0, z1⟩ := k2 HZ.out
    have hli := lt_of_heap HBX.out
    have hlr := lt_of_heap HZ.out
    go_wp2
    have hg1 := grown_set w8 w.heap.size 0 (.slice (some ⟨g1', 0, none⟩) (cs.length + 1) cap1)
    have HZ2 := heap_boxR HZ.out hg1 (by omega)
    have HXX := heap_set HBX.out 0 (.slice (some ⟨g1', 0, none⟩) (cs.length + 1) cap1)
    have hg2 := set2_boxR (w8.setCell ⟨w.heap.size, 0, none⟩ (.slice (some ⟨g1', 0, none⟩) (cs.length + 1) cap1)) (w.heap.size + 1) (.slice (some ⟨g1', 0, none⟩) (cs.length + 1) cap1) (.slice (some ⟨gi, 0, none⟩) is.length uc)
    refine bodyPost_ret (results_cell_row rfl _ _ (w.heap.size + 1) 42 #[.slice (some ⟨g1', 0, none⟩) (cs.length + 1) cap1, .slice (some ⟨gi, 0, none⟩) is.length uc] (0, 0) _ rfl (heap_set (heap_set HZ2 0 _) 1 _) Tryd.underlying42 rfl (by kernel_rfl)) rfl ?_
    refine ⟨some ⟨g1', 0, none⟩, some ⟨gi, 0, none⟩, cap1, uc, cs ++ [(x, y)], is, by rw [List.length_append]; rfl, ?_, ir_boxR HZ2 (ir_boxR HBX.out (⟨vs, HIR.out, HRS.out⟩) (by decide) (by decide) hg1) (by decide) (by decide) hg2, by simp, h2, ?_, by omega, ((HR.out.grown hg1 (fun g hg => by cases hg; omega)).grown hg2 (fun g hg => by cases hg; omega)).mono (by omega), grown_boxR (grown_boxR HG.out hg1 (by omega)) hg2 (by omega)⟩
    · rw [HFL.out, List.length_append]
      exact row_mono (row_boxR HZ2 (row_boxR HBX.out HV2.out (by decide) hg1) (by decide) hg2) hbw
    · rw [tot_snocW, List.length_append]
      show tot cs + (x.size + y.size) + (cs.length + 1) ≤ 300
      omega
  have hj0i : ((j : Int) == 0) = false := by rw [beq_eq_false_iff_ne]; omega
  by_cases hj1 : j = 1
  · subst hj1
    have hzz := HG.out.size
    have HO1 := hid (flatI_one is vs (rows_one HRS.out))
    obtain ⟨cHBX0, cHBX1, fHBX0, fHBX1⟩ := k2 HBX.out
    have lHBX := lt_of_heap HBX.out
    obtain ⟨cHZ0, cHZ1, fHZ0, fHZ1⟩ := k2 HZ.out
    have lHZ := lt_of_heap HZ.out
    have hb : Below w2.heap.size w2 (w2.alloc (.cells #[] 28)) := (Below.refl _ _).alloc (by simp; try omega) _
    have AHR : Hid (RD (w2.alloc (.cells #[] 28)) a (q + 1)) := HR.out.below hb
    have AHG : Hid (w.grownBy (w2.alloc (.cells #[] 28)) (some a)) := grown_trans HG.out (gb0 hb _)
    have AHV : Hid ((w2.alloc (.cells #[] 28)).ownsRow b 69 2 (.slice (some ⟨gc, 0, none⟩) cs.length vc) cs.length (flat cs)) := row_below hb HV.out
    have AHIR : Hid ((w2.alloc (.cells #[] 28)).ownsRow b 28 3 (.slice (some ⟨gi, 0, none⟩) is.length uc) is.length (flatI is vs)) := row_below hb HIR.out
    have AHRS : Hid (IRow.Rows (w2.alloc (.cells #[] 28)) b is vs) := HRS.out.below hb
    have AHBX : Hid ((w2.alloc (.cells #[] 28)).heap[w.heap.size]? = some (.cells #[.slice (some ⟨gc, 0, none⟩) cs.length vc, .slice (some ⟨gi, 0, none⟩) is.length uc] 42 (0, 0))) := below_heap hb (lt_of_heap HBX.out) HBX.out
    have AHZ : Hid ((w2.alloc (.cells #[] 28)).heap[w.heap.size + 1]? = some (.cells #[.slice none 0 0, .slice none 0 0] 42 (0, 0))) := below_heap hb (lt_of_heap HZ.out) HZ.out
    have AHEM : Hid ((w2.alloc (.cells #[] 28)).heap[w2.heap.size]? = some (.cells #[] 28 (0, 0))) := hb_newk (by simp; try omega)
    have AHEMR : Hid ((w2.alloc (.cells #[] 28)).ownsRow w.heap.size 28 3 (.slice (some ⟨w2.heap.size, 0, none⟩) 0 0) 0 []) := by
      have h := World.ownsRow_made (base := w.heap.size) (e := 28) (size := 3) w2 #[] 0 (by first | omega | (simp; omega)) (by simp [maxLen]) rfl
      have h := h
      show World.ownsRow _ _ _ _ _ _ _
      simpa using h
    clear hb
    go_wp2_with (first
      | (at_builtin; refine app_many_at 40 28 (.agg #[.string ⟨#[]⟩, .string ⟨#[]⟩, .slice none 0 0]) 3 56 Tryd.underlying40 infoInst rfl (by decide) rfl _ _ rfl (w.heap.size) (.slice (some ⟨w2.heap.size, 0, none⟩) 0 0) 0 [] rfl AHEMR.out gi uc (is.length) (flatI is vs) (by simp [go_sem]) HIR.out.1 (fun j u hu => row_cell AHIR.out j hu) HO1.out (by unfold maxLen; omega) (by omega) (by simp; omega) ?_))
    intro v' w3 hown hgr
    replace hown : w3.ownsRow w.heap.size 28 3 v' (is.length) (flatI is vs) := by simpa using hown
    obtain ⟨na', nc', rfl⟩ := row_slice hown
    replace HR : Hid (RD w3 a (q + 1)) := AHR.out.grown hgr (fun g hg => by have := (row_own AHEMR.out g hg).1; omega)
    replace HG : Hid (w.grownBy w3 (some a)) := grown_rowR AHG.out AHEMR.out (by omega) hgr
    replace HV : Hid (w3.ownsRow b 69 2 (.slice (some ⟨gc, 0, none⟩) cs.length vc) cs.length (flat cs)) := row_grownG hgr AHV.out AHEMR.out (by decide)
    replace HRS : Hid (IRow.Rows w3 b is vs) := AHRS.out.grown hgr AHEMR.out (by decide)
    replace HBX : Hid (w3.heap[w.heap.size]? = some (.cells #[.slice (some ⟨gc, 0, none⟩) cs.length vc, .slice (some ⟨gi, 0, none⟩) is.length uc] 42 (0, 0))) := keep_rowG hgr AHEMR.out AHBX.out (by decide)
    replace HZ : Hid (w3.heap[w.heap.size + 1]? = some (.cells #[.slice none 0 0, .slice none 0 0] 42 (0, 0))) := keep_rowG hgr AHEMR.out AHZ.out (by decide)
    clear AHR AHG AHV AHIR AHRS AHBX AHZ AHEM AHEMR HIR
    have HIR2 := hid hown
    clear hown hgr
    clear cHBX0 cHBX1 fHBX0 fHBX1 lHBX
    clear cHZ0 cHZ1 fHZ0 fHZ1 lHZ
    clear hzz HO1
    go_wp2_with fail
    have hzz := HG.out.size
    have hb : Below w3.heap.size w3 (w3.alloc (.cells #[.string ⟨#[69]⟩, .string ⟨#[72]⟩, .string ⟨#[65]⟩] 9)) := (Below.refl _ _).alloc (Nat.le_refl _) _
    replace HR : Hid (RD (w3.alloc (.cells #[.string ⟨#[69]⟩, .string ⟨#[72]⟩, .string ⟨#[65]⟩] 9)) a (q + 1)) := HR.out.below hb
    replace HG : Hid (w.grownBy (w3.alloc (.cells #[.string ⟨#[69]⟩, .string ⟨#[72]⟩, .string ⟨#[65]⟩] 9)) (some a)) := grown_trans HG.out (gb0 hb _)
    replace HV : Hid ((w3.alloc (.cells #[.string ⟨#[69]⟩, .string ⟨#[72]⟩, .string ⟨#[65]⟩] 9)).ownsRow b 69 2 (.slice (some ⟨gc, 0, none⟩) cs.length vc) cs.length (flat cs)) := row_below hb HV.out
    replace HRS : Hid (IRow.Rows (w3.alloc (.cells #[.string ⟨#[69]⟩, .string ⟨#[72]⟩, .string ⟨#[65]⟩] 9)) b is vs) := HRS.out.below hb
    replace HBX : Hid ((w3.alloc (.cells #[.string ⟨#[69]⟩, .string ⟨#[72]⟩, .string ⟨#[65]⟩] 9)).heap[w.heap.size]? = some (.cells #[.slice (some ⟨gc, 0, none⟩) cs.length vc, .slice (some ⟨gi, 0, none⟩) is.length uc] 42 (0, 0))) := below_heap hb (lt_of_heap HBX.out) HBX.out
    replace HZ : Hid ((w3.alloc (.cells #[.string ⟨#[69]⟩, .string ⟨#[72]⟩, .string ⟨#[65]⟩] 9)).heap[w.heap.size + 1]? = some (.cells #[.slice none 0 0, .slice none 0 0] 42 (0, 0))) := below_heap hb (lt_of_heap HZ.out) HZ.out
    replace HIR2 : Hid ((w3.alloc (.cells #[.string ⟨#[69]⟩, .string ⟨#[72]⟩, .string ⟨#[65]⟩] 9)).ownsRow w.heap.size 28 3 (.slice na' (is.length) nc') (is.length) (flatI is vs)) := row_below hb HIR2.out
    clear hb
    have HL : Hid ((w3.alloc (.cells #[.string ⟨#[69]⟩, .string ⟨#[72]⟩, .string ⟨#[65]⟩] 9)).heap[w3.heap.size]? = some (.cells #[.string ⟨#[69]⟩, .string ⟨#[72]⟩, .string ⟨#[65]⟩] 9 (0, 0))) := heap_alloc_new _ _
    generalize (w3.alloc (.cells #[.string ⟨#[69]⟩, .string ⟨#[72]⟩, .string ⟨#[65]⟩] 9)) = w4 at *
    obtain ⟨b4, hbb4⟩ : ∃ x, x = w3.heap.size := ⟨_, rfl⟩
    rw [← hbb4] at HL ⊢
    clear hzz
    clear hbb4
    refine (ofS_any a (q + 1) b4 3 0 4 _ w4 (by omega) (by decide) (by decide) rfl HL.out (by decide) HR.out).mono ?_
    rintro e w5 ⟨x, rfl, -, hx, hr, hgr⟩
    replace HG : Hid (w.grownBy w5 (some a)) := grown_trans HG.out hgr
    replace HV : Hid (w5.ownsRow b 69 2 (.slice (some ⟨gc, 0, none⟩) cs.length vc) cs.length (flat cs)) := HR.out.row HV.out (by decide) hgr
    replace HRS : Hid (IRow.Rows w5 b is vs) := HR.out.rows HRS.out hgr
    replace HBX : Hid (w5.heap[w.heap.size]? = some (.cells #[.slice (some ⟨gc, 0, none⟩) cs.length vc, .slice (some ⟨gi, 0, none⟩) is.length uc] 42 (0, 0))) := HR.out.box HBX.out (by decide) hgr
    replace HZ : Hid (w5.heap[w.heap.size + 1]? = some (.cells #[.slice none 0 0, .slice none 0 0] 42 (0, 0))) := HR.out.box HZ.out (by decide) hgr
    replace HIR2 : Hid (w5.ownsRow w.heap.size 28 3 (.slice na' (is.length) nc') (is.length) (flatI is vs)) := HR.out.row HIR2.out (by decide) hgr
    replace HL : Hid (w5.heap[b4]? = some (.cells #[.string ⟨#[69]⟩, .string ⟨#[72]⟩, .string ⟨#[65]⟩] 9 (0, 0))) := HR.out.box HL.out (by decide) hgr
    have hzc := hgr.size
    replace HR : Hid (RD w5 a (q + 2)) := hr.mono (by omega)
    clear hr hgr hzc
    clear HL
    go_wp2_with fail
    have hzz := HG.out.size
    have hb : Below w5.heap.size w5 (w5.alloc (.cells #[.string ⟨#[120]⟩, .string ⟨#[113]⟩, .string ⟨#[105]⟩, .string ⟨#[108, 40, 120, 41]⟩] 9)) := (Below.refl _ _).alloc (Nat.le_refl _) _
    replace HR : Hid (RD (w5.alloc (.cells #[.string ⟨#[120]⟩, .string ⟨#[113]⟩, .string ⟨#[105]⟩, .string ⟨#[108, 40, 120, 41]⟩] 9)) a (q + 2)) := HR.out.below hb
    replace HG : Hid (w.grownBy (w5.alloc (.cells #[.string ⟨#[120]⟩, .string ⟨#[113]⟩, .string ⟨#[105]⟩, .string ⟨#[108, 40, 120, 41]⟩] 9)) (some a)) := grown_trans HG.out (gb0 hb _)
    replace HV : Hid ((w5.alloc (.cells #[.string ⟨#[120]⟩, .string ⟨#[113]⟩, .string ⟨#[105]⟩, .string ⟨#[108, 40, 120, 41]⟩] 9)).ownsRow b 69 2 (.slice (some ⟨gc, 0, none⟩) cs.length vc) cs.length (flat cs)) := row_below hb HV.out
    replace HRS : Hid (IRow.Rows (w5.alloc (.cells #[.string ⟨#[120]⟩, .string ⟨#[113]⟩, .string ⟨#[105]⟩, .string ⟨#[108, 40, 120, 41]⟩] 9)) b is vs) := HRS.out.below hb
    replace HBX : Hid ((w5.alloc (.cells #[.string ⟨#[120]⟩, .string ⟨#[113]⟩, .string ⟨#[105]⟩, .string ⟨#[108, 40, 120, 41]⟩] 9)).heap[w.heap.size]? = some (.cells #[.slice (some ⟨gc, 0, none⟩) cs.length vc, .slice (some ⟨gi, 0, none⟩) is.length uc] 42 (0, 0))) := below_heap hb (lt_of_heap HBX.out) HBX.out
    replace HZ : Hid ((w5.alloc (.cells #[.string ⟨#[120]⟩, .string ⟨#[113]⟩, .string ⟨#[105]⟩, .string ⟨#[108, 40, 120, 41]⟩] 9)).heap[w.heap.size + 1]? = some (.cells #[.slice none 0 0, .slice none 0 0] 42 (0, 0))) := below_heap hb (lt_of_heap HZ.out) HZ.out
    replace HIR2 : Hid ((w5.alloc (.cells #[.string ⟨#[120]⟩, .string ⟨#[113]⟩, .string ⟨#[105]⟩, .string ⟨#[108, 40, 120, 41]⟩] 9)).ownsRow w.heap.size 28 3 (.slice na' (is.length) nc') (is.length) (flatI is vs)) := row_below hb HIR2.out
    clear hb
    have HL : Hid ((w5.alloc (.cells #[.string ⟨#[120]⟩, .string ⟨#[113]⟩, .string ⟨#[105]⟩, .string ⟨#[108, 40, 120, 41]⟩] 9)).heap[w5.heap.size]? = some (.cells #[.string ⟨#[120]⟩, .string ⟨#[113]⟩, .string ⟨#[105]⟩, .string ⟨#[108, 40, 120, 41]⟩] 9 (0, 0))) := heap_alloc_new _ _
    generalize (w5.alloc (.cells #[.string ⟨#[120]⟩, .string ⟨#[113]⟩, .string ⟨#[105]⟩, .string ⟨#[108, 40, 120, 41]⟩] 9)) = w6 at *
    obtain ⟨b6, hbb6⟩ : ∃ x, x = w5.heap.size := ⟨_, rfl⟩
    rw [← hbb6] at HL ⊢
    clear hzz
    clear hbb6
    refine (ofS_any a (q + 2) b6 4 0 4 _ w6 (by omega) (by decide) (by decide) rfl HL.out (by decide) HR.out).mono ?_
    rintro e w7 ⟨y, rfl, -, hy, hr, hgr⟩
    replace HG : Hid (w.grownBy w7 (some a)) := grown_trans HG.out hgr
    replace HV : Hid (w7.ownsRow b 69 2 (.slice (some ⟨gc, 0, none⟩) cs.length vc) cs.length (flat cs)) := HR.out.row HV.out (by decide) hgr
    replace HRS : Hid (IRow.Rows w7 b is vs) := HR.out.rows HRS.out hgr
    replace HBX : Hid (w7.heap[w.heap.size]? = some (.cells #[.slice (some ⟨gc, 0, none⟩) cs.length vc, .slice (some ⟨gi, 0, none⟩) is.length uc] 42 (0, 0))) := HR.out.box HBX.out (by decide) hgr
    replace HZ : Hid (w7.heap[w.heap.size + 1]? = some (.cells #[.slice none 0 0, .slice none 0 0] 42 (0, 0))) := HR.out.box HZ.out (by decide) hgr
    replace HIR2 : Hid (w7.ownsRow w.heap.size 28 3 (.slice na' (is.length) nc') (is.length) (flatI is vs)) := HR.out.row HIR2.out (by decide) hgr
    replace HL : Hid (w7.heap[b6]? = some (.cells #[.string ⟨#[120]⟩, .string ⟨#[113]⟩, .string ⟨#[105]⟩, .string ⟨#[108, 40, 120, 41]⟩] 9 (0, 0))) := HR.out.box HL.out (by decide) hgr
    have hzc := hgr.size
    replace HR : Hid (RD w7 a (q + 3)) := hr.mono (by omega)
    clear hr hgr hzc
    clear HL
    go_wp2_with fail
    have hzz := HG.out.size
    have hb : Below w7.heap.size w7 (w7.alloc (.cells #[.string ⟨#[69]⟩, .string ⟨#[65]⟩, .string ⟨#[72]⟩] 9)) := (Below.refl _ _).alloc (Nat.le_refl _) _
    replace HR : Hid (RD (w7.alloc (.cells #[.string ⟨#[69]⟩, .string ⟨#[65]⟩, .string ⟨#[72]⟩] 9)) a (q + 3)) := HR.out.below hb
    replace HG : Hid (w.grownBy (w7.alloc (.cells #[.string ⟨#[69]⟩, .string ⟨#[65]⟩, .string ⟨#[72]⟩] 9)) (some a)) := grown_trans HG.out (gb0 hb _)
    replace HV : Hid ((w7.alloc (.cells #[.string ⟨#[69]⟩, .string ⟨#[65]⟩, .string ⟨#[72]⟩] 9)).ownsRow b 69 2 (.slice (some ⟨gc, 0, none⟩) cs.length vc) cs.length (flat cs)) := row_below hb HV.out
    replace HRS : Hid (IRow.Rows (w7.alloc (.cells #[.string ⟨#[69]⟩, .string ⟨#[65]⟩, .string ⟨#[72]⟩] 9)) b is vs) := HRS.out.below hb
    replace HBX : Hid ((w7.alloc (.cells #[.string ⟨#[69]⟩, .string ⟨#[65]⟩, .string ⟨#[72]⟩] 9)).heap[w.heap.size]? = some (.cells #[.slice (some ⟨gc, 0, none⟩) cs.length vc, .slice (some ⟨gi, 0, none⟩) is.length uc] 42 (0, 0))) := below_heap hb (lt_of_heap HBX.out) HBX.out
    replace HZ : Hid ((w7.alloc (.cells #[.string ⟨#[69]⟩, .string ⟨#[65]⟩, .string ⟨#[72]⟩] 9)).heap[w.heap.size + 1]? = some (.cells #[.slice none 0 0, .slice none 0 0] 42 (0, 0))) := below_heap hb (lt_of_heap HZ.out) HZ.out
    replace HIR2 : Hid ((w7.alloc (.cells #[.string ⟨#[69]⟩, .string ⟨#[65]⟩, .string ⟨#[72]⟩] 9)).ownsRow w.heap.size 28 3 (.slice na' (is.length) nc') (is.length) (flatI is vs)) := row_below hb HIR2.out
    clear hb
    have HL : Hid ((w7.alloc (.cells #[.string ⟨#[69]⟩, .string ⟨#[65]⟩, .string ⟨#[72]⟩] 9)).heap[w7.heap.size]? = some (.cells #[.string ⟨#[69]⟩, .string ⟨#[65]⟩, .string ⟨#[72]⟩] 9 (0, 0))) := heap_alloc_new _ _
    generalize (w7.alloc (.cells #[.string ⟨#[69]⟩, .string ⟨#[65]⟩, .string ⟨#[72]⟩] 9)) = w8 at *
    obtain ⟨b8, hbb8⟩ : ∃ x, x = w7.heap.size := ⟨_, rfl⟩
    rw [← hbb8] at HL ⊢
    clear hzz
    clear hbb8
    refine (ofS_any a (q + 3) b8 3 0 4 _ w8 (by omega) (by decide) (by decide) rfl HL.out (by decide) HR.out).mono ?_
    rintro e w9 ⟨x2, rfl, -, hx2, hr, hgr⟩
    replace HG : Hid (w.grownBy w9 (some a)) := grown_trans HG.out hgr
    replace HV : Hid (w9.ownsRow b 69 2 (.slice (some ⟨gc, 0, none⟩) cs.length vc) cs.length (flat cs)) := HR.out.row HV.out (by decide) hgr
    replace HRS : Hid (IRow.Rows w9 b is vs) := HR.out.rows HRS.out hgr
    replace HBX : Hid (w9.heap[w.heap.size]? = some (.cells #[.slice (some ⟨gc, 0, none⟩) cs.length vc, .slice (some ⟨gi, 0, none⟩) is.length uc] 42 (0, 0))) := HR.out.box HBX.out (by decide) hgr
    replace HZ : Hid (w9.heap[w.heap.size + 1]? = some (.cells #[.slice none 0 0, .slice none 0 0] 42 (0, 0))) := HR.out.box HZ.out (by decide) hgr
    replace HIR2 : Hid (w9.ownsRow w.heap.size 28 3 (.slice na' (is.length) nc') (is.length) (flatI is vs)) := HR.out.row HIR2.out (by decide) hgr
    replace HL : Hid (w9.heap[b8]? = some (.cells #[.string ⟨#[69]⟩, .string ⟨#[65]⟩, .string ⟨#[72]⟩] 9 (0, 0))) := HR.out.box HL.out (by decide) hgr
    have hzc := hgr.size
    replace HR : Hid (RD w9 a (q + 4)) := hr.mono (by omega)
    clear hr hgr hzc
    clear HL
    go_wp2_with fail
    have hzz := HG.out.size
    have hb : Below w9.heap.size w9 (w9.alloc (.cells #[.string ⟨#[121]⟩, .string ⟨#[105]⟩, .string ⟨#[113]⟩] 9)) := (Below.refl _ _).alloc (Nat.le_refl _) _
    replace HR : Hid (RD (w9.alloc (.cells #[.string ⟨#[121]⟩, .string ⟨#[105]⟩, .string ⟨#[113]⟩] 9)) a (q + 4)) := HR.out.below hb
    replace HG : Hid (w.grownBy (w9.alloc (.cells #[.string ⟨#[121]⟩, .string ⟨#[105]⟩, .string ⟨#[113]⟩] 9)) (some a)) := grown_trans HG.out (gb0 hb _)
    replace HV : Hid ((w9.alloc (.cells #[.string ⟨#[121]⟩, .string ⟨#[105]⟩, .string ⟨#[113]⟩] 9)).ownsRow b 69 2 (.slice (some ⟨gc, 0, none⟩) cs.length vc) cs.length (flat cs)) := row_below hb HV.out
    replace HRS : Hid (IRow.Rows (w9.alloc (.cells #[.string ⟨#[121]⟩, .string ⟨#[105]⟩, .string ⟨#[113]⟩] 9)) b is vs) := HRS.out.below hb
    replace HBX : Hid ((w9.alloc (.cells #[.string ⟨#[121]⟩, .string ⟨#[105]⟩, .string ⟨#[113]⟩] 9)).heap[w.heap.size]? = some (.cells #[.slice (some ⟨gc, 0, none⟩) cs.length vc, .slice (some ⟨gi, 0, none⟩) is.length uc] 42 (0, 0))) := below_heap hb (lt_of_heap HBX.out) HBX.out
    replace HZ : Hid ((w9.alloc (.cells #[.string ⟨#[121]⟩, .string ⟨#[105]⟩, .string ⟨#[113]⟩] 9)).heap[w.heap.size + 1]? = some (.cells #[.slice none 0 0, .slice none 0 0] 42 (0, 0))) := below_heap hb (lt_of_heap HZ.out) HZ.out
    replace HIR2 : Hid ((w9.alloc (.cells #[.string ⟨#[121]⟩, .string ⟨#[105]⟩, .string ⟨#[113]⟩] 9)).ownsRow w.heap.size 28 3 (.slice na' (is.length) nc') (is.length) (flatI is vs)) := row_below hb HIR2.out
    clear hb
    have HL : Hid ((w9.alloc (.cells #[.string ⟨#[121]⟩, .string ⟨#[105]⟩, .string ⟨#[113]⟩] 9)).heap[w9.heap.size]? = some (.cells #[.string ⟨#[121]⟩, .string ⟨#[105]⟩, .string ⟨#[113]⟩] 9 (0, 0))) := heap_alloc_new _ _
    generalize (w9.alloc (.cells #[.string ⟨#[121]⟩, .string ⟨#[105]⟩, .string ⟨#[113]⟩] 9)) = w10 at *
    obtain ⟨b10, hbb10⟩ : ∃ x, x = w9.heap.size := ⟨_, rfl⟩
    rw [← hbb10] at HL ⊢
    clear hzz
    clear hbb10
    refine (ofS_any a (q + 4) b10 3 0 4 _ w10 (by omega) (by decide) (by decide) rfl HL.out (by decide) HR.out).mono ?_
    rintro e w11 ⟨y2, rfl, -, hy2, hr, hgr⟩
    replace HG : Hid (w.grownBy w11 (some a)) := grown_trans HG.out hgr
    replace HV : Hid (w11.ownsRow b 69 2 (.slice (some ⟨gc, 0, none⟩) cs.length vc) cs.length (flat cs)) := HR.out.row HV.out (by decide) hgr
    replace HRS : Hid (IRow.Rows w11 b is vs) := HR.out.rows HRS.out hgr
    replace HBX : Hid (w11.heap[w.heap.size]? = some (.cells #[.slice (some ⟨gc, 0, none⟩) cs.length vc, .slice (some ⟨gi, 0, none⟩) is.length uc] 42 (0, 0))) := HR.out.box HBX.out (by decide) hgr
    replace HZ : Hid (w11.heap[w.heap.size + 1]? = some (.cells #[.slice none 0 0, .slice none 0 0] 42 (0, 0))) := HR.out.box HZ.out (by decide) hgr
    replace HIR2 : Hid (w11.ownsRow w.heap.size 28 3 (.slice na' (is.length) nc') (is.length) (flatI is vs)) := HR.out.row HIR2.out (by decide) hgr
    replace HL : Hid (w11.heap[b10]? = some (.cells #[.string ⟨#[121]⟩, .string ⟨#[105]⟩, .string ⟨#[113]⟩] 9 (0, 0))) := HR.out.box HL.out (by decide) hgr
    have hzc := hgr.size
    replace HR : Hid (RD w11 a (q + 5)) := hr.mono (by omega)
    clear hr hgr hzc
    clear HL
    have hzz := HG.out.size
    have HOW := hid (fun v hv g hg => (IRow.Rows.own HRS.out (u := v) hv g hg).2)
    obtain ⟨cHBX0, cHBX1, fHBX0, fHBX1⟩ := k2 HBX.out
    have lHBX := lt_of_heap HBX.out
    obtain ⟨cHZ0, cHZ1, fHZ0, fHZ1⟩ := k2 HZ.out
    have lHZ := lt_of_heap HZ.out
    have hb : Below w11.heap.size w11 ((w11.alloc (.cells #[.string x2, .string y2] 25)).alloc (.cells #[.string x, .string y, .slice (some ⟨w11.heap.size, 0, none⟩) 1 1] 28)) := ((Below.refl _ _).alloc (by simp; try omega) _).alloc (by simp; try omega) _
    have AHR : Hid (RD ((w11.alloc (.cells #[.string x2, .string y2] 25)).alloc (.cells #[.string x, .string y, .slice (some ⟨w11.heap.size, 0, none⟩) 1 1] 28)) a (q + 5)) := HR.out.below hb
    have AHG : Hid (w.grownBy ((w11.alloc (.cells #[.string x2, .string y2] 25)).alloc (.cells #[.string x, .string y, .slice (some ⟨w11.heap.size, 0, none⟩) 1 1] 28)) (some a)) := grown_trans HG.out (gb0 hb _)
    have AHV : Hid (((w11.alloc (.cells #[.string x2, .string y2] 25)).alloc (.cells #[.string x, .string y, .slice (some ⟨w11.heap.size, 0, none⟩) 1 1] 28)).ownsRow b 69 2 (.slice (some ⟨gc, 0, none⟩) cs.length vc) cs.length (flat cs)) := row_below hb HV.out
    have AHRS : Hid (IRow.Rows ((w11.alloc (.cells #[.string x2, .string y2] 25)).alloc (.cells #[.string x, .string y, .slice (some ⟨w11.heap.size, 0, none⟩) 1 1] 28)) b is vs) := HRS.out.below hb
    have AHBX : Hid (((w11.alloc (.cells #[.string x2, .string y2] 25)).alloc (.cells #[.string x, .string y, .slice (some ⟨w11.heap.size, 0, none⟩) 1 1] 28)).heap[w.heap.size]? = some (.cells #[.slice (some ⟨gc, 0, none⟩) cs.length vc, .slice (some ⟨gi, 0, none⟩) is.length uc] 42 (0, 0))) := below_heap hb (lt_of_heap HBX.out) HBX.out
    have AHZ : Hid (((w11.alloc (.cells #[.string x2, .string y2] 25)).alloc (.cells #[.string x, .string y, .slice (some ⟨w11.heap.size, 0, none⟩) 1 1] 28)).heap[w.heap.size + 1]? = some (.cells #[.slice none 0 0, .slice none 0 0] 42 (0, 0))) := below_heap hb (lt_of_heap HZ.out) HZ.out
    have AHIR2 : Hid (((w11.alloc (.cells #[.string x2, .string y2] 25)).alloc (.cells #[.string x, .string y, .slice (some ⟨w11.heap.size, 0, none⟩) 1 1] 28)).ownsRow w.heap.size 28 3 (.slice na' (is.length) nc') (is.length) (flatI is vs)) := row_below hb HIR2.out
    have AHNN : Hid (((w11.alloc (.cells #[.string x2, .string y2] 25)).alloc (.cells #[.string x, .string y, .slice (some ⟨w11.heap.size, 0, none⟩) 1 1] 28)).heap[w11.heap.size]? = some (.cells #[.string x2, .string y2] 25 (0, 0))) := hb_alloc (hb_newk (by simp; try omega)) _
    have AHNR : Hid (((w11.alloc (.cells #[.string x2, .string y2] 25)).alloc (.cells #[.string x, .string y, .slice (some ⟨w11.heap.size, 0, none⟩) 1 1] 28)).ownsRow w.heap.size 25 2 (.slice (some ⟨w11.heap.size, 0, none⟩) 1 1) 1 [.string x2, .string y2]) := by
      have h := ownsRow_built (base := w.heap.size) (e := 25) (size := 2) w11 #[.string x2, .string y2] 1 (by first | omega | (simp; omega)) (by simp [maxLen]) rfl
      have h := (World.ownsRow.alloc h (.cells #[.string x, .string y, .slice (some ⟨w11.heap.size, 0, none⟩) 1 1] 28))
      show World.ownsRow _ _ _ _ _ _ _
      simpa using h
    have AHNB : Hid (((w11.alloc (.cells #[.string x2, .string y2] 25)).alloc (.cells #[.string x, .string y, .slice (some ⟨w11.heap.size, 0, none⟩) 1 1] 28)).heap[w11.heap.size + 1]? = some (.cells #[.string x, .string y, .slice (some ⟨w11.heap.size, 0, none⟩) 1 1] 28 (0, 0))) := hb_newk (by simp; try omega)
    clear hb
    go_wp2_with (first
      | (at_builtin; refine app_push_at 40 28 (.agg #[.string ⟨#[]⟩, .string ⟨#[]⟩, .slice none 0 0]) 3 56 Tryd.underlying40 infoInst rfl (by decide) rfl _ _ rfl (w.heap.size) (.slice na' (is.length) nc') (is.length) (flatI is vs) rfl AHIR2.out (w11.heap.size + 1) 1 [.string x, .string y, .slice (some ⟨w11.heap.size, 0, none⟩) 1 1] (by simp [go_sem]) (by simp) (news_three (heap_cell AHNB.out 0) (heap_cell AHNB.out 1) (heap_cell AHNB.out 2)) (by simp [Value.oneCell']) (by unfold maxLen; omega) (by omega) (by first | omega | (simp; omega)) ?_))
    intro g1' cap1 w12 hown hgr hlie
    replace HR : Hid (RD w12 a (q + 5)) := AHR.out.grown hgr (fun g hg => by have := (row_own AHIR2.out g hg).1; omega)
    replace HG : Hid (w.grownBy w12 (some a)) := grown_rowR AHG.out AHIR2.out (by omega) hgr
    replace HV : Hid (w12.ownsRow b 69 2 (.slice (some ⟨gc, 0, none⟩) cs.length vc) cs.length (flat cs)) := row_grownG hgr AHV.out AHIR2.out (by decide)
    replace HRS : Hid (IRow.Rows w12 b is vs) := AHRS.out.grown hgr AHIR2.out (by decide)
    replace HBX : Hid (w12.heap[w.heap.size]? = some (.cells #[.slice (some ⟨gc, 0, none⟩) cs.length vc, .slice (some ⟨gi, 0, none⟩) is.length uc] 42 (0, 0))) := keep_rowG hgr AHIR2.out AHBX.out (by decide)
    replace HZ : Hid (w12.heap[w.heap.size + 1]? = some (.cells #[.slice none 0 0, .slice none 0 0] 42 (0, 0))) := keep_rowG hgr AHIR2.out AHZ.out (by decide)
    replace HNR : Hid (w12.ownsRow w.heap.size 25 2 (.slice (some ⟨w11.heap.size, 0, none⟩) 1 1) 1 [.string x2, .string y2]) := row_grownG hgr AHNR.out AHIR2.out (by decide)
    clear AHR AHG AHV AHRS AHBX AHZ AHIR2 AHNR AHNB AHNN
    replace HIR2 : Hid (w12.ownsRow w.heap.size 28 3 (.slice (some ⟨g1', 0, none⟩) (is.length + 1) cap1) (is.length + 1) (flatI is vs ++ [.string x, .string y, .slice (some ⟨w11.heap.size, 0, none⟩) 1 1])) := hown
    clear hown hgr hlie
    have HNW : Hid (∀ v ∈ vs, ∀ g, v.ownBlock = some g → (Value.slice (some ⟨w11.heap.size, 0, none⟩) 1 1).ownBlock ≠ some g) := by
      intro v hv g hg he
      have h8 := HOW.out v hv g hg
      have h9 : w11.heap.size = g := by simpa [Value.ownBlock] using he
      omega
    clear HOW
    clear cHBX0 cHBX1 fHBX0 fHBX1 lHBX
    clear cHZ0 cHZ1 fHZ0 fHZ1 lHZ
    clear hzz
    have HRE : Hid (IRow.Rows w12 b (is ++ [(x, y, [(x2, y2)])]) (vs ++ [.slice (some ⟨w11.heap.size, 0, none⟩) 1 1])) := HRS.out.snoc (p := (x, y, [(x2, y2)])) (row_mono HNR.out hbw) HNW.out
    have HIE : Hid (IR w12 b (.slice (some ⟨g1', 0, none⟩) (is.length + 1) cap1) (is ++ [(x, y, [(x2, y2)])])) := ⟨_, by rw [List.length_append, flatI_snoc _ vs _ _ HRS.out.1]; exact row_mono HIR2.out hbw, HRE.out⟩
    clear HRE HNW
    obtain ⟨i0, i1, f0, f1⟩ := k2 HBX.out
    obtain ⟨r0, r1, z0, z1⟩ := k2 HZ.out
    have hli := lt_of_heap HBX.out
    have hlr := lt_of_heap HZ.out
    go_wp2
    have hg1 := grown_set w12 w.heap.size 1 (.slice (some ⟨g1', 0, none⟩) (is.length + 1) cap1)
    have HZ2 := heap_boxR HZ.out hg1 (by omega)
    have HXX := heap_set HBX.out 1 (.slice (some ⟨g1', 0, none⟩) (is.length + 1) cap1)
    have hg2 := set2_boxR (w12.setCell ⟨w.heap.size, 1, none⟩ (.slice (some ⟨g1', 0, none⟩) (is.length + 1) cap1)) (w.heap.size + 1) (.slice (some ⟨gc, 0, none⟩) cs.length vc) (.slice (some ⟨g1', 0, none⟩) (is.length + 1) cap1)
    refine bodyPost_ret (results_cell_row rfl _ _ (w.heap.size + 1) 42 #[.slice (some ⟨gc, 0, none⟩) cs.length vc, .slice (some ⟨g1', 0, none⟩) (is.length + 1) cap1] (0, 0) _ rfl (heap_set (heap_set HZ2 0 _) 1 _) Tryd.underlying42 rfl (by kernel_rfl)) rfl ?_
    refine ⟨some ⟨gc, 0, none⟩, some ⟨g1', 0, none⟩, vc, cap1, cs, is ++ [(x, y, [(x2, y2)])], by rw [List.length_append]; rfl, row_boxR HZ2 (row_boxR HBX.out HV.out (by decide) hg1) (by decide) hg2, ?_, h1, by simp, by omega, ?_, ((HR.out.grown hg1 (fun g hg => by cases hg; omega)).grown hg2 (fun g hg => by cases hg; omega)).mono (by omega), grown_boxR (grown_boxR HG.out hg1 (by omega)) hg2 (by omega)⟩
    · rw [List.length_append]
      exact ir_boxR HZ2 (ir_boxR HBX.out (HIE.out) (by decide) (by decide) hg1) (by decide) (by decide) hg2
    · rw [itot_snoc, List.length_append]
      show itot is + (x.size + y.size + 1 + tot [(x2, y2)]) + (is.length + 1) ≤ 8000
      have : tot [(x2, y2)] = x2.size + y2.size := by simp [tot]
      omega
  have hj1i : ((j : Int) == 1) = false := by rw [beq_eq_false_iff_ne]; omega
  by_cases hj2 : j = 2
  · subst hj2
    go_wp2_with fail
    go_loopg [50] 10 (fun t i wr => ∃ (k L gk uk : Nat) (ix : List II) (vx D2 : List Value), k ≤ 10 ∧ 10 - k ≤ t ∧ i = .int .i64 k ∧ L = is.length + k ∧ Hid (ix.length = L) ∧ Hid (itot ix + L ≤ 6000 + 10 * k) ∧ Hid (D2 = flatI ix vx) ∧ Hid (wr.heap[w.heap.size]? = some (.cells #[.slice (some ⟨gc, 0, none⟩) cs.length vc, .slice (some ⟨gk, 0, none⟩) L uk] 42 (0, 0))) ∧ Hid (wr.ownsRow b 28 3 (.slice (some ⟨gk, 0, none⟩) L uk) L D2) ∧ Hid (IRow.Rows wr b ix vx) ∧ Hid (RD wr a (q + 1)) ∧ Hid (w.grownBy wr (some a)) ∧ Hid (wr.ownsRow b 69 2 (.slice (some ⟨gc, 0, none⟩) cs.length vc) cs.length (flat cs)) ∧ Hid (wr.heap[w.heap.size + 1]? = some (.cells #[.slice none 0 0, .slice none 0 0] 42 (0, 0))))
    case atStart => exact ⟨0, is.length, gi, uc, is, vs, flatI is vs, by decide, by decide, rfl, rfl, rfl, (by show _ ≤ _; omega), rfl, HBX.out, HIR.out, HRS.out, HR.out, HG.out, HV.out, HZ.out⟩
    case round =>
      clear HBX HIR HRS HR HG HV HZ
      obtain ⟨k, L, gk, uk, ix, vx, D2, hk, ht, rfl, hkL, hxl, hxt, hD, hHBX, hHIR, hHRS, hHR, hHG, hHV, hHZ⟩ := hrel
      have HXL := hid hxl.out
      have HXT := hid hxt.out
      have HD := hid hD.out
      have hL1 : 1 ≤ L := by omega
      have hL2 : L ≤ 6010 := by omega
      have HKL := hid hkL
      have HBX := hid hHBX.out
      have HIR := hid hHIR.out
      have HRS := hid hHRS.out
      have HR := hid hHR.out
      have HG := hid hHG.out
      have HV := hid hHV.out
      have HZ := hid hHZ.out
      clear hxl hxt hD hkL hHBX hHIR hHRS hHR hHG hHV hHZ
      by_cases hlt : k < 10
      · have hzz := HG.out.size
        have hlz := lt_of_heap HZ.out
        have HO1 : Hid (∀ u ∈ D2, u.oneCell' = true) := by show ∀ u ∈ D2, _; rw [HD.out]; exact flatI_one ix vx (rows_one HRS.out)
        obtain ⟨cHBX0, cHBX1, fHBX0, fHBX1⟩ := k2 HBX.out
        have lHBX := lt_of_heap HBX.out
        have hb : Below wr.heap.size wr (wr.alloc (.cells #[] 28)) := (Below.refl _ _).alloc (by simp; try omega) _
        have AHR : Hid (RD (wr.alloc (.cells #[] 28)) a (q + 1)) := HR.out.below hb
        have AHG : Hid (w.grownBy (wr.alloc (.cells #[] 28)) (some a)) := grown_trans HG.out (gb0 hb _)
        have AHV : Hid ((wr.alloc (.cells #[] 28)).ownsRow b 69 2 (.slice (some ⟨gc, 0, none⟩) cs.length vc) cs.length (flat cs)) := row_below hb HV.out
        have AHIR : Hid ((wr.alloc (.cells #[] 28)).ownsRow b 28 3 (.slice (some ⟨gk, 0, none⟩) L uk) L D2) := row_below hb HIR.out
        have AHRS : Hid (IRow.Rows (wr.alloc (.cells #[] 28)) b ix vx) := HRS.out.below hb
        have AHBX : Hid ((wr.alloc (.cells #[] 28)).heap[w.heap.size]? = some (.cells #[.slice (some ⟨gc, 0, none⟩) cs.length vc, .slice (some ⟨gk, 0, none⟩) L uk] 42 (0, 0))) := below_heap hb (lt_of_heap HBX.out) HBX.out
        have AHZ : Hid ((wr.alloc (.cells #[] 28)).heap[w.heap.size + 1]? = some (.cells #[.slice none 0 0, .slice none 0 0] 42 (0, 0))) := below_heap hb (lt_of_heap HZ.out) HZ.out
        have AHEM : Hid ((wr.alloc (.cells #[] 28)).heap[wr.heap.size]? = some (.cells #[] 28 (0, 0))) := hb_newk (by simp; try omega)
        have AHEMR : Hid ((wr.alloc (.cells #[] 28)).ownsRow w.heap.size 28 3 (.slice (some ⟨wr.heap.size, 0, none⟩) 0 0) 0 []) := by
          have h := World.ownsRow_made (base := w.heap.size) (e := 28) (size := 3) wr #[] 0 (by first | omega | (simp; omega)) (by simp [maxLen]) rfl
          have h := h
          show World.ownsRow _ _ _ _ _ _ _
          simpa using h
        clear hb
        go_wp2_with (first
          | (at_builtin; refine app_many_at 40 28 (.agg #[.string ⟨#[]⟩, .string ⟨#[]⟩, .slice none 0 0]) 3 56 Tryd.underlying40 infoInst rfl (by decide) rfl _ _ rfl (w.heap.size) (.slice (some ⟨wr.heap.size, 0, none⟩) 0 0) 0 [] rfl AHEMR.out gk uk (L) D2 (by simp [go_sem]) HIR.out.1 (fun j u hu => row_cell AHIR.out j hu) HO1.out (by unfold maxLen; omega) (by omega) (by simp; omega) ?_))
        intro v' w3 hown hgr
        replace hown : w3.ownsRow w.heap.size 28 3 v' (L) D2 := by simpa using hown
        obtain ⟨na', nc', rfl⟩ := row_slice hown
        replace HR : Hid (RD w3 a (q + 1)) := AHR.out.grown hgr (fun g hg => by have := (row_own AHEMR.out g hg).1; omega)
        replace HG : Hid (w.grownBy w3 (some a)) := grown_rowR AHG.out AHEMR.out (by omega) hgr
        replace HV : Hid (w3.ownsRow b 69 2 (.slice (some ⟨gc, 0, none⟩) cs.length vc) cs.length (flat cs)) := row_grownG hgr AHV.out AHEMR.out (by decide)
        replace HRS : Hid (IRow.Rows w3 b ix vx) := AHRS.out.grown hgr AHEMR.out (by decide)
        replace HBX : Hid (w3.heap[w.heap.size]? = some (.cells #[.slice (some ⟨gc, 0, none⟩) cs.length vc, .slice (some ⟨gk, 0, none⟩) L uk] 42 (0, 0))) := keep_rowG hgr AHEMR.out AHBX.out (by decide)
        replace HZ : Hid (w3.heap[w.heap.size + 1]? = some (.cells #[.slice none 0 0, .slice none 0 0] 42 (0, 0))) := keep_rowG hgr AHEMR.out AHZ.out (by decide)
        clear AHR AHG AHV AHIR AHRS AHBX AHZ AHEM AHEMR HIR
        have HIR2 := hid hown
        clear hown hgr
        clear cHBX0 cHBX1 fHBX0 fHBX1 lHBX
        clear hzz HO1
        have hzz := HG.out.size
        have HOW := hid (fun v hv g hg => (IRow.Rows.own HRS.out (u := v) hv g hg).2)
        obtain ⟨cHBX0, cHBX1, fHBX0, fHBX1⟩ := k2 HBX.out
        have lHBX := lt_of_heap HBX.out
        have hb : Below w3.heap.size w3 ((w3.alloc (.cells #[] 25)).alloc (.cells #[.string ⟨#[69]⟩, .string ⟨#[105]⟩, .slice (some ⟨w3.heap.size, 0, none⟩) 0 0] 28)) := ((Below.refl _ _).alloc (by simp; try omega) _).alloc (by simp; try omega) _
        have AHR : Hid (RD ((w3.alloc (.cells #[] 25)).alloc (.cells #[.string ⟨#[69]⟩, .string ⟨#[105]⟩, .slice (some ⟨w3.heap.size, 0, none⟩) 0 0] 28)) a (q + 1)) := HR.out.below hb
        have AHG : Hid (w.grownBy ((w3.alloc (.cells #[] 25)).alloc (.cells #[.string ⟨#[69]⟩, .string ⟨#[105]⟩, .slice (some ⟨w3.heap.size, 0, none⟩) 0 0] 28)) (some a)) := grown_trans HG.out (gb0 hb _)
        have AHV : Hid (((w3.alloc (.cells #[] 25)).alloc (.cells #[.string ⟨#[69]⟩, .string ⟨#[105]⟩, .slice (some ⟨w3.heap.size, 0, none⟩) 0 0] 28)).ownsRow b 69 2 (.slice (some ⟨gc, 0, none⟩) cs.length vc) cs.length (flat cs)) := row_below hb HV.out
        have AHRS : Hid (IRow.Rows ((w3.alloc (.cells #[] 25)).alloc (.cells #[.string ⟨#[69]⟩, .string ⟨#[105]⟩, .slice (some ⟨w3.heap.size, 0, none⟩) 0 0] 28)) b ix vx) := HRS.out.below hb
        have AHBX : Hid (((w3.alloc (.cells #[] 25)).alloc (.cells #[.string ⟨#[69]⟩, .string ⟨#[105]⟩, .slice (some ⟨w3.heap.size, 0, none⟩) 0 0] 28)).heap[w.heap.size]? = some (.cells #[.slice (some ⟨gc, 0, none⟩) cs.length vc, .slice (some ⟨gk, 0, none⟩) L uk] 42 (0, 0))) := below_heap hb (lt_of_heap HBX.out) HBX.out
        have AHZ : Hid (((w3.alloc (.cells #[] 25)).alloc (.cells #[.string ⟨#[69]⟩, .string ⟨#[105]⟩, .slice (some ⟨w3.heap.size, 0, none⟩) 0 0] 28)).heap[w.heap.size + 1]? = some (.cells #[.slice none 0 0, .slice none 0 0] 42 (0, 0))) := below_heap hb (lt_of_heap HZ.out) HZ.out
        have AHIR2 : Hid (((w3.alloc (.cells #[] 25)).alloc (.cells #[.string ⟨#[69]⟩, .string ⟨#[105]⟩, .slice (some ⟨w3.heap.size, 0, none⟩) 0 0] 28)).ownsRow w.heap.size 28 3 (.slice na' (L) nc') (L) D2) := row_below hb HIR2.out
        have AHNN : Hid (((w3.alloc (.cells #[] 25)).alloc (.cells #[.string ⟨#[69]⟩, .string ⟨#[105]⟩, .slice (some ⟨w3.heap.size, 0, none⟩) 0 0] 28)).heap[w3.heap.size]? = some (.cells #[] 25 (0, 0))) := hb_alloc (hb_newk (by simp; try omega)) _
        have AHNR : Hid (((w3.alloc (.cells #[] 25)).alloc (.cells #[.string ⟨#[69]⟩, .string ⟨#[105]⟩, .slice (some ⟨w3.heap.size, 0, none⟩) 0 0] 28)).ownsRow w.heap.size 25 2 (.slice (some ⟨w3.heap.size, 0, none⟩) 0 0) 0 []) := by
          have h := World.ownsRow_made (base := w.heap.size) (e := 25) (size := 2) w3 #[] 0 (by first | omega | (simp; omega)) (by simp [maxLen]) rfl
          have h := (World.ownsRow.alloc h (.cells #[.string ⟨#[69]⟩, .string ⟨#[105]⟩, .slice (some ⟨w3.heap.size, 0, none⟩) 0 0] 28))
          show World.ownsRow _ _ _ _ _ _ _
          simpa using h
        have AHNB : Hid (((w3.alloc (.cells #[] 25)).alloc (.cells #[.string ⟨#[69]⟩, .string ⟨#[105]⟩, .slice (some ⟨w3.heap.size, 0, none⟩) 0 0] 28)).heap[w3.heap.size + 1]? = some (.cells #[.string ⟨#[69]⟩, .string ⟨#[105]⟩, .slice (some ⟨w3.heap.size, 0, none⟩) 0 0] 28 (0, 0))) := hb_newk (by simp; try omega)
        clear hb
        go_wp2_with (first
          | (at_builtin; refine app_push_at 40 28 (.agg #[.string ⟨#[]⟩, .string ⟨#[]⟩, .slice none 0 0]) 3 56 Tryd.underlying40 infoInst rfl (by decide) rfl _ _ rfl (w.heap.size) (.slice na' (L) nc') (L) D2 rfl AHIR2.out (w3.heap.size + 1) 1 [.string ⟨#[69]⟩, .string ⟨#[105]⟩, .slice (some ⟨w3.heap.size, 0, none⟩) 0 0] (by simp [go_sem]) (by simp) (news_three (heap_cell AHNB.out 0) (heap_cell AHNB.out 1) (heap_cell AHNB.out 2)) (by simp [Value.oneCell']) (by unfold maxLen; omega) (by omega) (by first | omega | (simp; omega)) ?_))
        intro g1' cap1 w4 hown hgr hlie
        replace HR : Hid (RD w4 a (q + 1)) := AHR.out.grown hgr (fun g hg => by have := (row_own AHIR2.out g hg).1; omega)
        replace HG : Hid (w.grownBy w4 (some a)) := grown_rowR AHG.out AHIR2.out (by omega) hgr
        replace HV : Hid (w4.ownsRow b 69 2 (.slice (some ⟨gc, 0, none⟩) cs.length vc) cs.length (flat cs)) := row_grownG hgr AHV.out AHIR2.out (by decide)
        replace HRS : Hid (IRow.Rows w4 b ix vx) := AHRS.out.grown hgr AHIR2.out (by decide)
        replace HBX : Hid (w4.heap[w.heap.size]? = some (.cells #[.slice (some ⟨gc, 0, none⟩) cs.length vc, .slice (some ⟨gk, 0, none⟩) L uk] 42 (0, 0))) := keep_rowG hgr AHIR2.out AHBX.out (by decide)
        replace HZ : Hid (w4.heap[w.heap.size + 1]? = some (.cells #[.slice none 0 0, .slice none 0 0] 42 (0, 0))) := keep_rowG hgr AHIR2.out AHZ.out (by decide)
        replace HNR : Hid (w4.ownsRow w.heap.size 25 2 (.slice (some ⟨w3.heap.size, 0, none⟩) 0 0) 0 []) := row_grownG hgr AHNR.out AHIR2.out (by decide)
        clear AHR AHG AHV AHRS AHBX AHZ AHIR2 AHNR AHNB AHNN
        replace HIR2 : Hid (w4.ownsRow w.heap.size 28 3 (.slice (some ⟨g1', 0, none⟩) (L + 1) cap1) (L + 1) (D2 ++ [.string ⟨#[69]⟩, .string ⟨#[105]⟩, .slice (some ⟨w3.heap.size, 0, none⟩) 0 0])) := hown
        clear hown hgr hlie
        have HNW : Hid (∀ v ∈ vx, ∀ g, v.ownBlock = some g → (Value.slice (some ⟨w3.heap.size, 0, none⟩) 0 0).ownBlock ≠ some g) := by
          intro v hv g hg he
          have h8 := HOW.out v hv g hg
          have h9 : w3.heap.size = g := by simpa [Value.ownBlock] using he
          omega
        clear HOW
        clear cHBX0 cHBX1 fHBX0 fHBX1 lHBX
        clear hzz
        obtain ⟨cHBX0, cHBX1, fHBX0, fHBX1⟩ := k2 HBX.out
        have lHBX := lt_of_heap HBX.out
        go_wp2_with fail
        go_roundg (10 - (k + 1))
        case measure => omega
        case rel =>
          have hg := grown_set w4 w.heap.size 1 (.slice (some ⟨g1', 0, none⟩) (L + 1) cap1)
          refine ⟨k + 1, L + 1, g1', cap1, ix ++ [(⟨#[69]⟩, ⟨#[105]⟩, [])], vx ++ [.slice (some ⟨w3.heap.size, 0, none⟩) 0 0], _, by omega, by omega, by go_num, by have := HKL.out; omega, ?_, ?_, ?_, heap_set HBX.out 1 _, row_mono (row_boxR HBX.out HIR2.out (by decide) hg) hbw, ?_, HR.out.grown hg (fun g hg => by cases hg; omega), grown_boxR HG.out hg (by omega), row_boxR HBX.out HV.out (by decide) hg, heap_boxR HZ.out hg (by omega)⟩
          · show _ = _
            rw [List.length_append, HXL.out]; rfl
          · show _ ≤ _
            rw [itot_snoc]
            have := HXT.out
            have h7 : iw (⟨#[69]⟩, ⟨#[105]⟩, []) = 2 := rfl
            omega
          · show _ = _
            rw [flatI_snoc _ vx _ _ HRS.out.1, HD.out]
          · exact (rows_set1 (o := 0) HRS.out HBX.out (by decide) hg).snoc (p := (⟨#[69]⟩, ⟨#[105]⟩, [])) (row_mono (row_boxR HBX.out HNR.out (by decide) hg) hbw) HNW.out
      · have hke : k = 10 := by omega
        subst hke
        obtain ⟨i0, i1, f0, f1⟩ := k2 HBX.out
        obtain ⟨r0, r1, z0, z1⟩ := k2 HZ.out
        have hli := lt_of_heap HBX.out
        have hlr := lt_of_heap HZ.out
        go_wp2
        have HZ2 := HZ.out
        have hg2 := set2_boxR wr (w.heap.size + 1) (.slice (some ⟨gc, 0, none⟩) cs.length vc) (.slice (some ⟨gk, 0, none⟩) L uk)
        refine bodyPost_ret (results_cell_row rfl _ _ (w.heap.size + 1) 42 #[.slice (some ⟨gc, 0, none⟩) cs.length vc, .slice (some ⟨gk, 0, none⟩) L uk] (0, 0) _ rfl (heap_set (heap_set HZ2 0 _) 1 _) Tryd.underlying42 rfl (by kernel_rfl)) rfl ?_
        have HIE : IR wr b (.slice (some ⟨gk, 0, none⟩) L uk) ix := ⟨vx, by rw [HXL.out, ← HD.out]; exact HIR.out, HRS.out⟩
        exact ⟨some ⟨gc, 0, none⟩, some ⟨gk, 0, none⟩, vc, uk, cs, ix, by rw [HXL.out], row_boxR HZ2 HV.out (by decide) hg2, by rw [HXL.out]; exact ir_boxR HZ2 (HIE) (by decide) (by decide) hg2, h1, by rw [HXL.out]; omega, by omega, by rw [HXL.out]; have := HXT.out; omega, (HR.out.grown hg2 (fun g hg => by cases hg; omega)).mono (by omega), grown_boxR HG.out hg2 (by omega)⟩
  have hj2i : ((j : Int) == 2) = false := by rw [beq_eq_false_iff_ne]; omega
  obtain ⟨i0, i1, f0, f1⟩ := k2 HBX.out
  obtain ⟨r0, r1, z0, z1⟩ := k2 HZ.out
  have hli := lt_of_heap HBX.out
  have hlr := lt_of_heap HZ.out
  go_wp2
  have HZ2 := HZ.out
  have hg2 := set2_boxR w2 (w.heap.size + 1) (.slice (some ⟨gc, 0, none⟩) cs.length vc) (.slice (some ⟨gi, 0, none⟩) is.length uc)
  refine bodyPost_ret (results_cell_row rfl _ _ (w.heap.size + 1) 42 #[.slice (some ⟨gc, 0, none⟩) cs.length vc, .slice (some ⟨gi, 0, none⟩) is.length uc] (0, 0) _ rfl (heap_set (heap_set HZ2 0 _) 1 _) Tryd.underlying42 rfl (by kernel_rfl)) rfl ?_
  exact ⟨some ⟨gc, 0, none⟩, some ⟨gi, 0, none⟩, vc, uc, cs, is, rfl, row_boxR HZ2 HV.out (by decide) hg2, ir_boxR HZ2 (⟨vs, HIR.out, HRS.out⟩) (by decide) (by decide) hg2, h1, h2, by omega, by omega, (HR.out.grown hg2 (fun g hg => by cases hg; omega)).mono (by omega), grown_boxR HG.out hg2 (by omega)⟩
end Draw
end Go.Proofs.YtbdnhcfebgkpdaaDoor
set_option linter.unusedVariables false
set_option linter.unusedSimpArgs false
set_option maxRecDepth 100000
namespace Go.Proofs.YtbdnhcfebgkpdaaDoor
open Go.RowKit ListS IRow PWo
namespace Draw
theorem RD.set2B {w : World} {a k : Nat} {B : World} (h : Below B.heap.size B w) (hk : B.heap.size ≤ k) (x y : Value) : Below B.heap.size B ((w.setCell ⟨k, 0, none⟩ x).setCell ⟨k, 1, none⟩ y) := (h.setCell hk _).setCell hk _
/-- a drawn world that the call owns -/
def WRows (w : World) (b : Nat) (v u : Value) (cs : List BB) (is : List II) : Prop := w.ownsRow b 69 2 v cs.length (flat cs) ∧ IR w b u is ∧ 1 ≤ cs.length ∧ 1 ≤ is.length ∧ tot cs + cs.length ≤ 300 ∧ itot is + is.length ≤ 8000
theorem results_row_row {P : Program} {fn : Func} {p p2 : Tmp} {ty ty2 : TypeId} (h : fn.results = #[.cell p ty, .cell p2 ty2]) (tmps : Array Value) (w : World) (g g2 : Nat) (t t2 : TypeId) (cs cs2 : Array Value) (fr fr2 : Nat × Nat) (d d2 : TypeDesc)
    (hp : tmps.getD p undef = .pointer (some ⟨g, 0, none⟩)) (hg : w.heap[g]? = some (.cells cs t fr))
    (hu : P.underlying ty = some d) (hd : (match d with | .struct _ | .array _ _ => true | _ => false) = true) (hi : (P.info? ty).map (·.size) = some cs.size)
    (hp2 : tmps.getD p2 undef = .pointer (some ⟨g2, 0, none⟩)) (hg2 : w.heap[g2]? = some (.cells cs2 t2 fr2))
    (hu2 : P.underlying ty2 = some d2) (hd2 : (match d2 with | .struct _ | .array _ _ => true | _ => false) = true) (hi2 : (P.info? ty2).map (·.size) = some cs2.size) :
    (results fn tmps).run P w = .ok (.tuple #[.agg cs, .agg cs2]) w := by
  have hp' : tmps[p]?.getD undef = .pointer (some ⟨g, 0, none⟩) := by simpa using hp
  have hp2' : tmps[p2]?.getD undef = .pointer (some ⟨g2, 0, none⟩) := by simpa using hp2
  simp [results, h, hp', hp2', asAddr, Sem.run_bind, Result.andThen, run_loadVar_row w g t ty cs fr d hg hu hd hi, run_loadVar_row w g2 t2 ty2 cs2 fr2 d2 hg2 hu2 hd2 hi2]
set_option maxHeartbeats 4000000 in
theorem l3Some_any (a q : Nat) (w : World) (hq : q ≤ 30000) (h : RD w a q) : Calls Tryd.prog 43 #[.pointer (some ⟨a, 0, none⟩)] w (BPostW w a (q + 2100) w.heap.size) := by
  have HR := hid h
  have hal := h.lt
  have HG : Hid (w.grownBy w (some a)) := gb0 (Below.refl _ _) _
  clear h
  go_enter Tryd.func43, Tryd.ntmps43
  have hb : Below w.heap.size w (w.alloc (.cells #[.slice none 0 0, .slice none 0 0] 42)) := (Below.refl _ _).alloc (by simp; try omega) _
  replace HR : Hid (RD (w.alloc (.cells #[.slice none 0 0, .slice none 0 0] 42)) a (q)) := HR.out.below hb
  replace HG : Hid (w.grownBy (w.alloc (.cells #[.slice none 0 0, .slice none 0 0] 42)) (some a)) := grown_trans HG.out (gb0 hb _)
  clear hb
  have HZ : Hid ((w.alloc (.cells #[.slice none 0 0, .slice none 0 0] 42)).heap[w.heap.size]? = some (.cells #[.slice none 0 0, .slice none 0 0] 42 (0, 0))) := hb_newk (by simp; try omega)
  go_wp2_with fail
  generalize (w.alloc (.cells #[.slice none 0 0, .slice none 0 0] 42)) = w1 at *
  have hzz := HG.out.size
  refine (l3Draw_any a q w1 (by omega) HR.out).mono ?_
  rintro e w2 ⟨gc, vc, gi, uc, cs, is, rfl, hv, hu, h1, h2, h3, h4, hr, hgr⟩
  replace HG : Hid (w.grownBy w2 (some a)) := grown_trans HG.out hgr
  replace HZ : Hid (w2.heap[w.heap.size]? = some (.cells #[.slice none 0 0, .slice none 0 0] 42 (0, 0))) := HR.out.box HZ.out (by decide) hgr
  have hzc := hgr.size
  replace HR : Hid (RD w2 a (q + 2000)) := hr.mono (by omega)
  clear hr hgr hzc
  have hz2 := HG.out.size
  go_wp2_with fail
  have HV : Hid (w2.ownsRow w.heap.size 69 2 (.slice (some ⟨gc, 0, none⟩) cs.length vc) cs.length (flat cs)) := row_mono hv hzz
  have HU : Hid (IR w2 w.heap.size (.slice (some ⟨gi, 0, none⟩) is.length uc) is) := IR_mono hu hzz
  clear hv hu hzz
  refine (l3Bad_any a (q + 2000) w.heap.size gc vc gi uc cs is w2 (by omega) h1 h2 h3 h4 HR.out HV.out HU.out hz2).mono ?_
  rintro e w3 ⟨va, ua, vc2, uc2, cs2, is2, rfl, hv, hu, k1, k0, k2, k3, hr, hgr⟩
  replace HG : Hid (w.grownBy w3 (some a)) := grown_trans HG.out hgr
  replace HZ : Hid (w3.heap[w.heap.size]? = some (.cells #[.slice none 0 0, .slice none 0 0] 42 (0, 0))) := HR.out.box HZ.out (by decide) hgr
  have hzc := hgr.size
  replace HR : Hid (RD w3 a (q + 2100)) := hr.mono (by omega)
  clear hr hgr hzc
  have HV2 := hid hv
  have HU2 := hid hu
  clear hv hu HV HU hz2
  obtain ⟨r0, r1, z0, z1⟩ := PWo.k2 HZ.out
  have hlr := lt_of_heap HZ.out
  go_wp2
  have hg := set2_boxR w3 w.heap.size (.slice va cs2.length vc2) (.slice ua is2.length uc2)
  refine bodyPost_ret (results_cell_row rfl _ _ w.heap.size 42 #[.slice va cs2.length vc2, .slice ua is2.length uc2] (0, 0) _ rfl (heap_set (heap_set HZ.out 0 _) 1 _) Tryd.underlying42 rfl (by kernel_rfl)) rfl ?_
  exact ⟨va, ua, vc2, uc2, cs2, is2, rfl, row_boxR HZ.out HV2.out (by decide) hg, ir_boxR HZ.out HU2.out (by decide) (by decide) hg, k1, k0, k2, k3, HR.out.grown hg (fun g hg => by cases hg; omega), grown_boxR HG.out hg (by omega)⟩
set_option maxHeartbeats 4000000 in
theorem DrawFormatWorld_any (v0 : Value) (xs0 : List Int) (w : World) (h : SB w v0 xs0) : Calls Tryd.prog 18 #[v0] w fun e w' => ∃ (v u : Value) (cs : List BB) (is : List II), e = .returned (.agg #[v, u]) ∧ WRows w' w.heap.size v u cs is ∧ Below w.heap.size w w' := by
  go_enter Tryd.func18, Tryd.ntmps18
  go_wp2_with fail
  have HB : Hid (Below w.heap.size w (w.alloc (.cells #[.slice none 0 0, .slice none 0 0] 42))) := (Below.refl _ _).alloc (Nat.le_refl _) _
  have HZ : Hid ((w.alloc (.cells #[.slice none 0 0, .slice none 0 0] 42)).heap[w.heap.size]? = some (.cells #[.slice none 0 0, .slice none 0 0] 42 (0, 0))) := heap_alloc_new _ _
  have HS : Hid (SB (w.alloc (.cells #[.slice none 0 0, .slice none 0 0] 42)) v0 xs0) := h.below ((Below.refl _ _).alloc (Nat.le_refl _) _)
  have hz0 : w.heap.size < (w.alloc (.cells #[.slice none 0 0, .slice none 0 0] 42)).heap.size := by simp
  generalize w.alloc (.cells #[.slice none 0 0, .slice none 0 0] 42) = w0 at *
  refine (open_any v0 xs0 w0 HS.out).mono ?_
  rintro e w1 ⟨a, rfl, ha, hr, hb⟩
  replace HB : Hid (Below w.heap.size w w1) := HB.out.trans (hb.mono HB.out.size)
  replace HZ := hid (below_heap hb (lt_of_heap HZ.out) HZ.out)
  have HR := hid hr
  have ha2 : w.heap.size < a := by omega
  clear hr hb HS h hz0 ha
  go_wp2_with fail
  have hzz := HB.out.size
  refine (l3Some_any a 0 w1 (by decide) HR.out).mono ?_
  rintro e w2 ⟨va, ua, vc, uc, cs, is, rfl, hv, hu, h1, h0, h2, h3, hr, hgr⟩
  replace HB : Hid (Below w.heap.size w w2) := HB.out.grown hgr HB.out.size (fun g hg => by cases hg; omega)
  replace HZ := hid (HR.out.box HZ.out (by decide) hgr)
  have HV : Hid (w2.ownsRow w.heap.size 69 2 (.slice va cs.length vc) cs.length (flat cs)) := row_mono hv hzz
  have HU : Hid (IR w2 w.heap.size (.slice ua is.length uc) is) := IR_mono hu hzz
  clear hv hu hzz hr hgr HR
  obtain ⟨r0, r1, z0, z1⟩ := PWo.k2 HZ.out
  have hlr := lt_of_heap HZ.out
  go_wp2
  have hg := set2_boxR w2 w.heap.size (.slice va cs.length vc) (.slice ua is.length uc)
  refine bodyPost_ret (results_cell_row rfl _ _ w.heap.size 42 #[.slice va cs.length vc, .slice ua is.length uc] (0, 0) _ rfl (heap_set (heap_set HZ.out 0 _) 1 _) Tryd.underlying42 rfl (by kernel_rfl)) rfl ?_
  exact ⟨.slice va cs.length vc, .slice ua is.length uc, cs, is, rfl, ⟨row_boxR HZ.out HV.out (by decide) hg, ir_boxR HZ.out HU.out (by decide) (by decide) hg, h1, h0, h2, h3⟩, (HB.out.setCell (Nat.le_refl _) _).setCell (Nat.le_refl _) _⟩
end Draw
end Go.Proofs.YtbdnhcfebgkpdaaDoor
