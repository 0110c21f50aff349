/- What the law on instances draws. Conditions: those typed. -/
import Derived.Test.YtbdnhcfebgkpdaaDoorWDM
set_option linter.unusedVariables false
set_option linter.unusedSimpArgs false
set_option maxRecDepth 100000
namespace Go.Proofs.YtbdnhcfebgkpdaaDoor
open Go.RowKit ListS IRow PWo
namespace Draw
/-- a drawn instance that the call owns -/
def IRows (w : World) (b : Nat) (x y : ByteArray) (t : Value) (ns : List BB) : Prop := w.ownsRow b 25 2 t ns.length (flat ns) ∧ x.size ≤ 200 ∧ y.size ≤ 40 ∧ ns.length ≤ 2 ∧ ∀ p ∈ ns, p.1.size ≤ 200 ∧ p.2.size ≤ 40
theorem ir3 {w w' : World} {k b : Nat} {u : Value} {is : List II} {x y z : Value} (hk : w.heap[k]? = some (.cells #[x, y, z] 28 (0, 0))) (hi : IR w b u is) (hg : w.grownBy w' (some k)) (hne : k < b) : IR w' b u is := by
  obtain ⟨vs, a1, a2, a3, a4⟩ := hi
  exact ⟨vs, row_grown hg a1 (fun g h1 h2 => by
    have h3 := (row_own a1 g h1).1
    have h4 : k = g := by simpa using h2
    omega), a2, fun i p u hp hu => row_boxR hk (a3 i p u hp hu) (by decide) hg, a4⟩
set_option maxHeartbeats 16000000 in
theorem DrawInstanceValid_any (v0 : Value) (xs0 : List Int) (w : World) (h : SB w v0 xs0) : Calls Tryd.prog 39 #[v0] w fun e w' => ∃ (v u : Value) (cs : List BB) (is : List II) (x y : ByteArray) (t : Value) (ns : List BB), e = .returned (.tuple #[.agg #[v, u], .agg #[.string x, .string y, t]]) ∧ WRows w' w.heap.size v u cs is ∧ IRows w' w.heap.size x y t ns ∧ Below w.heap.size w w' := by
  go_enter Tryd.func39, Tryd.ntmps39
  go_wp2_with fail
  have hb0 : Below w.heap.size w ((w.alloc (.cells #[.slice none 0 0, .slice none 0 0] 42)).alloc (.cells #[.string ⟨#[]⟩, .string ⟨#[]⟩, .slice none 0 0] 28)) := ((Below.refl _ _).alloc (Nat.le_refl _) _).alloc (by simp) _
  have HB := hid hb0
  have HZ : Hid (((w.alloc (.cells #[.slice none 0 0, .slice none 0 0] 42)).alloc (.cells #[.string ⟨#[]⟩, .string ⟨#[]⟩, .slice none 0 0] 28)).heap[w.heap.size]? = some (.cells #[.slice none 0 0, .slice none 0 0] 42 (0, 0))) := hb_alloc (heap_alloc_new _ _) _
  have HY : Hid (((w.alloc (.cells #[.slice none 0 0, .slice none 0 0] 42)).alloc (.cells #[.string ⟨#[]⟩, .string ⟨#[]⟩, .slice none 0 0] 28)).heap[w.heap.size + 1]? = some (.cells #[.string ⟨#[]⟩, .string ⟨#[]⟩, .slice none 0 0] 28 (0, 0))) := heap_alloc2_new _ _ _
  have hz0 : w.heap.size + 1 < ((w.alloc (.cells #[.slice none 0 0, .slice none 0 0] 42)).alloc (.cells #[.string ⟨#[]⟩, .string ⟨#[]⟩, .slice none 0 0] 28)).heap.size := by simp
  have HS : Hid (SB ((w.alloc (.cells #[.slice none 0 0, .slice none 0 0] 42)).alloc (.cells #[.string ⟨#[]⟩, .string ⟨#[]⟩, .slice none 0 0] 28)) v0 xs0) := h.below hb0
  clear hb0
  generalize ((w.alloc (.cells #[.slice none 0 0, .slice none 0 0] 42)).alloc (.cells #[.string ⟨#[]⟩, .string ⟨#[]⟩, .slice none 0 0] 28)) = w0 at *
  refine (open_any v0 xs0 w0 HS.out).mono ?_
  rintro e w1 ⟨a, rfl, ha, hr, hb⟩
  replace HB : Hid (Below w.heap.size w w1) := HB.out.trans (hb.mono HB.out.size)
  replace HZ := hid (below_heap hb (lt_of_heap HZ.out) HZ.out)
  replace HY := hid (below_heap hb (lt_of_heap HY.out) HY.out)
  have HR := hid hr
  have ha2 : w.heap.size + 1 < a := by omega
  clear hr hb HS h hz0 ha
  have hal := HR.out.lt
  go_wp2_with fail
  have hzz := HB.out.size
  have hzy : w.heap.size + 2 ≤ w1.heap.size := lt_of_heap HY.out
  refine (l3Some_any a 0 w1 (by decide) HR.out).mono ?_
  rintro e w2 ⟨va, ua, vc, uc, cs, is, rfl, hv, hu, h1, h0, h2, h3, hr, hgr⟩
  replace HB : Hid (Below w.heap.size w w2) := HB.out.grown hgr HB.out.size (fun g hg => by cases hg; omega)
  replace HZ : Hid (w2.heap[w.heap.size]? = some (.cells #[.slice none 0 0, .slice none 0 0] 42 (0, 0))) := HR.out.box HZ.out (by decide) hgr
  replace HY : Hid (w2.heap[w.heap.size + 1]? = some (.cells #[.string ⟨#[]⟩, .string ⟨#[]⟩, .slice none 0 0] 28 (0, 0))) := HR.out.box HY.out (by decide) hgr
  have hzc := hgr.size
  replace HR : Hid (RD w2 a (2100)) := hr.mono (by omega)
  clear hr hgr hzc
  have HV : Hid (w2.ownsRow w.heap.size 69 2 (.slice va cs.length vc) cs.length (flat cs)) := row_mono hv hzz
  have HU : Hid (IR w2 (w.heap.size + 2) (.slice ua is.length uc) is) := IR_mono hu hzy
  clear hv hu hzz hzy
  go_wp2_with fail
  have hzz := HB.out.size
  have hzr := lt_of_heap HY.out
  have hb : Below w2.heap.size w2 (w2.alloc (.cells #[.slice va cs.length vc, .slice ua is.length uc] 42)) := (Below.refl _ _).alloc (Nat.le_refl _) _
  replace HR : Hid (RD (w2.alloc (.cells #[.slice va cs.length vc, .slice ua is.length uc] 42)) a (2100)) := HR.out.below hb
  replace HB : Hid (Below w.heap.size w (w2.alloc (.cells #[.slice va cs.length vc, .slice ua is.length uc] 42))) := HB.out.trans (hb.mono HB.out.size)
  replace HZ : Hid ((w2.alloc (.cells #[.slice va cs.length vc, .slice ua is.length uc] 42)).heap[w.heap.size]? = some (.cells #[.slice none 0 0, .slice none 0 0] 42 (0, 0))) := below_heap hb (lt_of_heap HZ.out) HZ.out
  replace HY : Hid ((w2.alloc (.cells #[.slice va cs.length vc, .slice ua is.length uc] 42)).heap[w.heap.size + 1]? = some (.cells #[.string ⟨#[]⟩, .string ⟨#[]⟩, .slice none 0 0] 28 (0, 0))) := below_heap hb (lt_of_heap HY.out) HY.out
  replace HV : Hid ((w2.alloc (.cells #[.slice va cs.length vc, .slice ua is.length uc] 42)).ownsRow w.heap.size 69 2 (.slice va cs.length vc) cs.length (flat cs)) := row_below hb HV.out
  replace HU : Hid (IR (w2.alloc (.cells #[.slice va cs.length vc, .slice ua is.length uc] 42)) (w.heap.size + 2) (.slice ua is.length uc) is) := HU.out.below hb
  clear hb
  have HX : Hid ((w2.alloc (.cells #[.slice va cs.length vc, .slice ua is.length uc] 42)).heap[w2.heap.size]? = some (.cells #[.slice va cs.length vc, .slice ua is.length uc] 42 (0, 0))) := heap_alloc_new _ _
  generalize (w2.alloc (.cells #[.slice va cs.length vc, .slice ua is.length uc] 42)) = w3 at *
  obtain ⟨bx, hbbx⟩ : ∃ x, x = w2.heap.size := ⟨_, rfl⟩
  rw [← hbbx] at HX ⊢
  have hbx : w.heap.size + 1 < bx := by omega
  clear hzz hzr
  clear hbbx
  refine (pick_any a 2100 4 w3 (by decide) (by decide) (by decide) HR.out).mono ?_
  rintro e w4 ⟨j, hj, rfl, hr, hgr⟩
  replace HB : Hid (Below w.heap.size w w4) := HB.out.grown hgr HB.out.size (fun g hg => by cases hg; omega)
  replace HZ : Hid (w4.heap[w.heap.size]? = some (.cells #[.slice none 0 0, .slice none 0 0] 42 (0, 0))) := HR.out.box HZ.out (by decide) hgr
  replace HY : Hid (w4.heap[w.heap.size + 1]? = some (.cells #[.string ⟨#[]⟩, .string ⟨#[]⟩, .slice none 0 0] 28 (0, 0))) := HR.out.box HY.out (by decide) hgr
  replace HV : Hid (w4.ownsRow w.heap.size 69 2 (.slice va cs.length vc) cs.length (flat cs)) := HR.out.row HV.out (by decide) hgr
  replace HU : Hid (IR w4 (w.heap.size + 2) (.slice ua is.length uc) is) := HR.out.ir HU.out hgr
  replace HX : Hid (w4.heap[bx]? = some (.cells #[.slice va cs.length vc, .slice ua is.length uc] 42 (0, 0))) := HR.out.box HX.out (by decide) hgr
  have hzc := hgr.size
  replace HR : Hid (RD w4 a (2101)) := hr.mono (by omega)
  clear hr hgr hzc
  by_cases hj0 : j = 0
  · subst hj0
    go_wp2_with fail
    refine wp_region_any (by kernel_rfl) ?_
    change wpAny _ _ _ _ _ _ _ (World.drew _)
    have hb : Below w4.heap.size w4 w4.drew := (Below.refl _ _).drew
    replace HR : Hid (RD w4.drew a (2101)) := HR.out.below hb
    replace HB : Hid (Below w.heap.size w w4.drew) := HB.out.trans (hb.mono HB.out.size)
    replace HZ : Hid (w4.drew.heap[w.heap.size]? = some (.cells #[.slice none 0 0, .slice none 0 0] 42 (0, 0))) := below_heap hb (lt_of_heap HZ.out) HZ.out
    replace HY : Hid (w4.drew.heap[w.heap.size + 1]? = some (.cells #[.string ⟨#[]⟩, .string ⟨#[]⟩, .slice none 0 0] 28 (0, 0))) := below_heap hb (lt_of_heap HY.out) HY.out
    replace HV : Hid (w4.drew.ownsRow w.heap.size 69 2 (.slice va cs.length vc) cs.length (flat cs)) := row_below hb HV.out
    replace HU : Hid (IR w4.drew (w.heap.size + 2) (.slice ua is.length uc) is) := HU.out.below hb
    replace HX : Hid (w4.drew.heap[bx]? = some (.cells #[.slice va cs.length vc, .slice ua is.length uc] 42 (0, 0))) := below_heap hb (lt_of_heap HX.out) HX.out
    clear hb
    generalize w4.drew = w5 at *
    refine wpAny_of_T (S := fun X => X.cell? ⟨bx, 0, none⟩ = some (.slice va cs.length vc) ∧ X.cell? ⟨bx, 1, none⟩ = some (.slice ua is.length uc)) (m := 16) _ _ _ _ ?_
    refine wpAnyT_take (i := 0) (v := .agg #[.slice va cs.length vc, .slice ua is.length uc]) rfl (by kernel_rfl) (by kernel_rfl) (by kernel_rfl) (by kernel_rfl) (fun _ _ _ h => h) (Or.inl ⟨by kernel_rfl, fun X hS => by obtain ⟨e0, e1⟩ := hS; go_simp⟩) ⟨heap_cell HX.out 0, heap_cell HX.out 1⟩ ?_
    try go_simp
    refine wpAnyT_take (i := 1) (v := .pointer (some ⟨a, 0, none⟩)) rfl (by kernel_rfl) (by kernel_rfl) (by kernel_rfl) (by kernel_rfl) (fun _ _ _ h => h) (Or.inl ⟨by kernel_rfl, fun X hS => by obtain ⟨e0, e1⟩ := hS; go_simp⟩) ⟨heap_cell HX.out 0, heap_cell HX.out 1⟩ ?_
    try go_simp
    refine wpAnyT_take (i := 4) (v := .pointer (some ⟨a, 0, none⟩)) rfl (by kernel_rfl) (by kernel_rfl) (by kernel_rfl) (by kernel_rfl) (fun _ _ _ h => h) (Or.inl ⟨by kernel_rfl, fun X hS => by obtain ⟨e0, e1⟩ := hS; go_simp⟩) ⟨heap_cell HX.out 0, heap_cell HX.out 1⟩ ?_
    try go_simp
    refine wpAnyT_take (i := 7) (v := .pointer (some ⟨a, 0, none⟩)) rfl (by kernel_rfl) (by kernel_rfl) (by kernel_rfl) (by kernel_rfl) (fun _ _ _ h => h) (Or.inl ⟨by kernel_rfl, fun X hS => by obtain ⟨e0, e1⟩ := hS; go_simp⟩) ⟨heap_cell HX.out 0, heap_cell HX.out 1⟩ ?_
    try go_simp
    refine wpAnyT_take (i := 10) (v := .pointer (some ⟨a, 0, none⟩)) rfl (by kernel_rfl) (by kernel_rfl) (by kernel_rfl) (by kernel_rfl) (fun _ _ _ h => h) (Or.inl ⟨by kernel_rfl, fun X hS => by obtain ⟨e0, e1⟩ := hS; go_simp⟩) ⟨heap_cell HX.out 0, heap_cell HX.out 1⟩ ?_
    try go_simp
    refine wpAnyT_two 2 8 rfl rfl (by kernel_rfl) (fun K hK => ?_) (fun K hK => ?_)
    · go_simp
      have hzz := HB.out.size
      have hb : Below w5.heap.size w5 (w5.alloc (.cells #[.string ⟨#[69]⟩, .string ⟨#[65]⟩, .string ⟨#[90]⟩] 9)) := (Below.refl _ _).alloc (Nat.le_refl _) _
      replace HR : Hid (RD (w5.alloc (.cells #[.string ⟨#[69]⟩, .string ⟨#[65]⟩, .string ⟨#[90]⟩] 9)) a (2101)) := HR.out.below hb
      replace HB : Hid (Below w.heap.size w (w5.alloc (.cells #[.string ⟨#[69]⟩, .string ⟨#[65]⟩, .string ⟨#[90]⟩] 9))) := HB.out.trans (hb.mono HB.out.size)
      replace HZ : Hid ((w5.alloc (.cells #[.string ⟨#[69]⟩, .string ⟨#[65]⟩, .string ⟨#[90]⟩] 9)).heap[w.heap.size]? = some (.cells #[.slice none 0 0, .slice none 0 0] 42 (0, 0))) := below_heap hb (lt_of_heap HZ.out) HZ.out
      replace HY : Hid ((w5.alloc (.cells #[.string ⟨#[69]⟩, .string ⟨#[65]⟩, .string ⟨#[90]⟩] 9)).heap[w.heap.size + 1]? = some (.cells #[.string ⟨#[]⟩, .string ⟨#[]⟩, .slice none 0 0] 28 (0, 0))) := below_heap hb (lt_of_heap HY.out) HY.out
      replace HV : Hid ((w5.alloc (.cells #[.string ⟨#[69]⟩, .string ⟨#[65]⟩, .string ⟨#[90]⟩] 9)).ownsRow w.heap.size 69 2 (.slice va cs.length vc) cs.length (flat cs)) := row_below hb HV.out
      replace HU : Hid (IR (w5.alloc (.cells #[.string ⟨#[69]⟩, .string ⟨#[65]⟩, .string ⟨#[90]⟩] 9)) (w.heap.size + 2) (.slice ua is.length uc) is) := HU.out.below hb
      replace HX : Hid ((w5.alloc (.cells #[.string ⟨#[69]⟩, .string ⟨#[65]⟩, .string ⟨#[90]⟩] 9)).heap[bx]? = some (.cells #[.slice va cs.length vc, .slice ua is.length uc] 42 (0, 0))) := below_heap hb (lt_of_heap HX.out) HX.out
      clear hb
      have HL2 : Hid ((w5.alloc (.cells #[.string ⟨#[69]⟩, .string ⟨#[65]⟩, .string ⟨#[90]⟩] 9)).heap[w5.heap.size]? = some (.cells #[.string ⟨#[69]⟩, .string ⟨#[65]⟩, .string ⟨#[90]⟩] 9 (0, 0))) := heap_alloc_new _ _
      generalize (w5.alloc (.cells #[.string ⟨#[69]⟩, .string ⟨#[65]⟩, .string ⟨#[90]⟩] 9)) = w6 at *
      obtain ⟨b6, hbb6⟩ : ∃ x, x = w5.heap.size := ⟨_, rfl⟩
      rw [← hbb6] at HL2 ⊢
      clear hzz
      clear hbb6
      refine hK _ _ (fun _ => ⟨heap_cell HX.out 0, heap_cell HX.out 1⟩) ?_
      clear hK K
      refine wpAnyT_two 3 8 rfl rfl (by kernel_rfl) (fun K hK => ?_) (fun K hK => ?_)
      · go_simp
        refine (ofS_any a 2101 b6 3 0 2 _ w6 (by decide) (by decide) (by decide) rfl HL2.out (by decide) HR.out).mono ?_
        rintro e w7 ⟨x, rfl, -, hx, hr, hgr⟩
        replace HB : Hid (Below w.heap.size w w7) := HB.out.grown hgr HB.out.size (fun g hg => by cases hg; omega)
        replace HZ : Hid (w7.heap[w.heap.size]? = some (.cells #[.slice none 0 0, .slice none 0 0] 42 (0, 0))) := HR.out.box HZ.out (by decide) hgr
        replace HY : Hid (w7.heap[w.heap.size + 1]? = some (.cells #[.string ⟨#[]⟩, .string ⟨#[]⟩, .slice none 0 0] 28 (0, 0))) := HR.out.box HY.out (by decide) hgr
        replace HV : Hid (w7.ownsRow w.heap.size 69 2 (.slice va cs.length vc) cs.length (flat cs)) := HR.out.row HV.out (by decide) hgr
        replace HU : Hid (IR w7 (w.heap.size + 2) (.slice ua is.length uc) is) := HR.out.ir HU.out hgr
        replace HX : Hid (w7.heap[bx]? = some (.cells #[.slice va cs.length vc, .slice ua is.length uc] 42 (0, 0))) := HR.out.box HX.out (by decide) hgr
        replace HL2 : Hid (w7.heap[b6]? = some (.cells #[.string ⟨#[69]⟩, .string ⟨#[65]⟩, .string ⟨#[90]⟩] 9 (0, 0))) := HR.out.box HL2.out (by decide) hgr
        have hzc := hgr.size
        replace HR : Hid (RD w7 a (2102)) := hr.mono (by omega)
        clear hr hgr hzc
        clear HL2
        refine hK _ _ (fun _ => ⟨heap_cell HX.out 0, heap_cell HX.out 1⟩) ?_
        clear hK K
        refine wpAnyT_two 5 8 rfl rfl (by kernel_rfl) (fun K hK => ?_) (fun K hK => ?_)
        · go_simp
          refine (l1Any_any a 2102 w7 (by decide) HR.out).mono ?_
          rintro e w8 ⟨y, rfl, -, hy, hr, hgr⟩
          replace HB : Hid (Below w.heap.size w w8) := HB.out.grown hgr HB.out.size (fun g hg => by cases hg; omega)
          replace HZ : Hid (w8.heap[w.heap.size]? = some (.cells #[.slice none 0 0, .slice none 0 0] 42 (0, 0))) := HR.out.box HZ.out (by decide) hgr
          replace HY : Hid (w8.heap[w.heap.size + 1]? = some (.cells #[.string ⟨#[]⟩, .string ⟨#[]⟩, .slice none 0 0] 28 (0, 0))) := HR.out.box HY.out (by decide) hgr
          replace HV : Hid (w8.ownsRow w.heap.size 69 2 (.slice va cs.length vc) cs.length (flat cs)) := HR.out.row HV.out (by decide) hgr
          replace HU : Hid (IR w8 (w.heap.size + 2) (.slice ua is.length uc) is) := HR.out.ir HU.out hgr
          replace HX : Hid (w8.heap[bx]? = some (.cells #[.slice va cs.length vc, .slice ua is.length uc] 42 (0, 0))) := HR.out.box HX.out (by decide) hgr
          have hzc := hgr.size
          replace HR : Hid (RD w8 a (2162)) := hr.mono (by omega)
          clear hr hgr hzc
          refine hK _ _ (fun _ => ⟨heap_cell HX.out 0, heap_cell HX.out 1⟩) ?_
          clear hK K
          refine wpAnyT_take (i := 6) (v := .agg #[.string x, .string y]) rfl (by kernel_rfl) (by kernel_rfl) (by kernel_rfl) (by kernel_rfl) (fun _ _ _ h => h) (Or.inl ⟨by kernel_rfl, fun X hS => by obtain ⟨e0, e1⟩ := hS; go_simp⟩) ⟨heap_cell HX.out 0, heap_cell HX.out 1⟩ ?_
          try go_simp
          refine wpAnyT_one 8 rfl (by kernel_rfl) (fun K hK => ?_)
          go_simp
          have hzz := HB.out.size
          have hb : Below w8.heap.size w8 (w8.alloc (.cells #[.string ⟨#[69]⟩, .string ⟨#[65]⟩] 9)) := (Below.refl _ _).alloc (Nat.le_refl _) _
          replace HR : Hid (RD (w8.alloc (.cells #[.string ⟨#[69]⟩, .string ⟨#[65]⟩] 9)) a (2162)) := HR.out.below hb
          replace HB : Hid (Below w.heap.size w (w8.alloc (.cells #[.string ⟨#[69]⟩, .string ⟨#[65]⟩] 9))) := HB.out.trans (hb.mono HB.out.size)
          replace HZ : Hid ((w8.alloc (.cells #[.string ⟨#[69]⟩, .string ⟨#[65]⟩] 9)).heap[w.heap.size]? = some (.cells #[.slice none 0 0, .slice none 0 0] 42 (0, 0))) := below_heap hb (lt_of_heap HZ.out) HZ.out
          replace HY : Hid ((w8.alloc (.cells #[.string ⟨#[69]⟩, .string ⟨#[65]⟩] 9)).heap[w.heap.size + 1]? = some (.cells #[.string ⟨#[]⟩, .string ⟨#[]⟩, .slice none 0 0] 28 (0, 0))) := below_heap hb (lt_of_heap HY.out) HY.out
          replace HV : Hid ((w8.alloc (.cells #[.string ⟨#[69]⟩, .string ⟨#[65]⟩] 9)).ownsRow w.heap.size 69 2 (.slice va cs.length vc) cs.length (flat cs)) := row_below hb HV.out
          replace HU : Hid (IR (w8.alloc (.cells #[.string ⟨#[69]⟩, .string ⟨#[65]⟩] 9)) (w.heap.size + 2) (.slice ua is.length uc) is) := HU.out.below hb
          replace HX : Hid ((w8.alloc (.cells #[.string ⟨#[69]⟩, .string ⟨#[65]⟩] 9)).heap[bx]? = some (.cells #[.slice va cs.length vc, .slice ua is.length uc] 42 (0, 0))) := below_heap hb (lt_of_heap HX.out) HX.out
          clear hb
          have HL8 : Hid ((w8.alloc (.cells #[.string ⟨#[69]⟩, .string ⟨#[65]⟩] 9)).heap[w8.heap.size]? = some (.cells #[.string ⟨#[69]⟩, .string ⟨#[65]⟩] 9 (0, 0))) := heap_alloc_new _ _
          generalize (w8.alloc (.cells #[.string ⟨#[69]⟩, .string ⟨#[65]⟩] 9)) = w9 at *
          obtain ⟨b9, hbb9⟩ : ∃ x, x = w8.heap.size := ⟨_, rfl⟩
          rw [← hbb9] at HL8 ⊢
          clear hzz
          clear hbb9
          refine hK _ _ (fun _ => ⟨heap_cell HX.out 0, heap_cell HX.out 1⟩) ?_
          clear hK K
          refine wpAnyT_one 9 rfl (by kernel_rfl) (fun K hK => ?_)
          go_simp
          refine (ofS_any a 2162 b9 2 0 2 _ w9 (by decide) (by decide) (by decide) rfl HL8.out (by decide) HR.out).mono ?_
          rintro e w10 ⟨x2, rfl, -, hx2, hr, hgr⟩
          replace HB : Hid (Below w.heap.size w w10) := HB.out.grown hgr HB.out.size (fun g hg => by cases hg; omega)
          replace HZ : Hid (w10.heap[w.heap.size]? = some (.cells #[.slice none 0 0, .slice none 0 0] 42 (0, 0))) := HR.out.box HZ.out (by decide) hgr
          replace HY : Hid (w10.heap[w.heap.size + 1]? = some (.cells #[.string ⟨#[]⟩, .string ⟨#[]⟩, .slice none 0 0] 28 (0, 0))) := HR.out.box HY.out (by decide) hgr
          replace HV : Hid (w10.ownsRow w.heap.size 69 2 (.slice va cs.length vc) cs.length (flat cs)) := HR.out.row HV.out (by decide) hgr
          replace HU : Hid (IR w10 (w.heap.size + 2) (.slice ua is.length uc) is) := HR.out.ir HU.out hgr
          replace HX : Hid (w10.heap[bx]? = some (.cells #[.slice va cs.length vc, .slice ua is.length uc] 42 (0, 0))) := HR.out.box HX.out (by decide) hgr
          replace HL8 : Hid (w10.heap[b9]? = some (.cells #[.string ⟨#[69]⟩, .string ⟨#[65]⟩] 9 (0, 0))) := HR.out.box HL8.out (by decide) hgr
          have hzc := hgr.size
          replace HR : Hid (RD w10 a (2163)) := hr.mono (by omega)
          clear hr hgr hzc
          clear HL8
          refine hK _ _ (fun _ => ⟨heap_cell HX.out 0, heap_cell HX.out 1⟩) ?_
          clear hK K
          refine wpAnyT_one 11 rfl (by kernel_rfl) (fun K hK => ?_)
          go_simp
          refine (l1Any_any a 2163 w10 (by decide) HR.out).mono ?_
          rintro e w11 ⟨y2, rfl, -, hy2, hr, hgr⟩
          replace HB : Hid (Below w.heap.size w w11) := HB.out.grown hgr HB.out.size (fun g hg => by cases hg; omega)
          replace HZ : Hid (w11.heap[w.heap.size]? = some (.cells #[.slice none 0 0, .slice none 0 0] 42 (0, 0))) := HR.out.box HZ.out (by decide) hgr
          replace HY : Hid (w11.heap[w.heap.size + 1]? = some (.cells #[.string ⟨#[]⟩, .string ⟨#[]⟩, .slice none 0 0] 28 (0, 0))) := HR.out.box HY.out (by decide) hgr
          replace HV : Hid (w11.ownsRow w.heap.size 69 2 (.slice va cs.length vc) cs.length (flat cs)) := HR.out.row HV.out (by decide) hgr
          replace HU : Hid (IR w11 (w.heap.size + 2) (.slice ua is.length uc) is) := HR.out.ir HU.out hgr
          replace HX : Hid (w11.heap[bx]? = some (.cells #[.slice va cs.length vc, .slice ua is.length uc] 42 (0, 0))) := HR.out.box HX.out (by decide) hgr
          have hzc := hgr.size
          replace HR : Hid (RD w11 a (2223)) := hr.mono (by omega)
          clear hr hgr hzc
          refine hK _ _ (fun _ => ⟨heap_cell HX.out 0, heap_cell HX.out 1⟩) ?_
          clear hK K
          refine wpAnyT_take (i := 12) (v := .agg #[.string x2, .string y2]) rfl (by kernel_rfl) (by kernel_rfl) (by kernel_rfl) (by kernel_rfl) (fun _ _ _ h => h) (Or.inl ⟨by kernel_rfl, fun X hS => by obtain ⟨e0, e1⟩ := hS; go_simp⟩) ⟨heap_cell HX.out 0, heap_cell HX.out 1⟩ ?_
          try go_simp
          refine wpAnyT_two 13 15 rfl rfl (by kernel_rfl) (fun K hK => ?_) (fun K hK => ?_)
          · go_simp
            have hzz := HB.out.size
            have hzr := lt_of_heap HY.out
            have hb : Below w11.heap.size w11 (w11.alloc (.cells #[.string x2, .string y2] 25)) := (Below.refl _ _).alloc (Nat.le_refl _) _
            have HT : Hid ((w11.alloc (.cells #[.string x2, .string y2] 25)).ownsRow w.heap.size 25 2 (.slice (some ⟨w11.heap.size, 0, none⟩) 1 1) 1 [.string x2, .string y2]) := by
              have h := ownsRow_built (base := w.heap.size) (e := 25) (size := 2) w11 #[.string x2, .string y2] 1 (by omega) (by simp [maxLen]) rfl
              show World.ownsRow _ _ _ _ _ _ _
              simpa using h
            replace HR : Hid (RD (w11.alloc (.cells #[.string x2, .string y2] 25)) a (2223)) := HR.out.below hb
            replace HB : Hid (Below w.heap.size w (w11.alloc (.cells #[.string x2, .string y2] 25))) := HB.out.trans (hb.mono HB.out.size)
            replace HZ : Hid ((w11.alloc (.cells #[.string x2, .string y2] 25)).heap[w.heap.size]? = some (.cells #[.slice none 0 0, .slice none 0 0] 42 (0, 0))) := below_heap hb (lt_of_heap HZ.out) HZ.out
            replace HY : Hid ((w11.alloc (.cells #[.string x2, .string y2] 25)).heap[w.heap.size + 1]? = some (.cells #[.string ⟨#[]⟩, .string ⟨#[]⟩, .slice none 0 0] 28 (0, 0))) := below_heap hb (lt_of_heap HY.out) HY.out
            replace HV : Hid ((w11.alloc (.cells #[.string x2, .string y2] 25)).ownsRow w.heap.size 69 2 (.slice va cs.length vc) cs.length (flat cs)) := row_below hb HV.out
            replace HU : Hid (IR (w11.alloc (.cells #[.string x2, .string y2] 25)) (w.heap.size + 2) (.slice ua is.length uc) is) := HU.out.below hb
            replace HX : Hid ((w11.alloc (.cells #[.string x2, .string y2] 25)).heap[bx]? = some (.cells #[.slice va cs.length vc, .slice ua is.length uc] 42 (0, 0))) := below_heap hb (lt_of_heap HX.out) HX.out
            clear hb
            have HNN : Hid ((w11.alloc (.cells #[.string x2, .string y2] 25)).heap[w11.heap.size]? = some (.cells #[.string x2, .string y2] 25 (0, 0))) := heap_alloc_new _ _
            generalize (w11.alloc (.cells #[.string x2, .string y2] 25)) = w12 at *
            obtain ⟨b12, hbb12⟩ : ∃ x, x = w11.heap.size := ⟨_, rfl⟩
            rw [← hbb12] at HNN HT ⊢
            have hb13 : w.heap.size + 1 < b12 := by omega
            clear hzz hzr
            clear hbb12
            refine hK _ _ (fun _ => ⟨heap_cell HX.out 0, heap_cell HX.out 1⟩) ?_
            clear hK K
            refine wpAnyT_take (i := 14) (v := .agg #[.string x, .string y, .slice (some ⟨b12, 0, none⟩) 1 1]) rfl (by kernel_rfl) (by kernel_rfl) (by kernel_rfl) (by kernel_rfl) (fun _ _ _ h => h) (Or.inl ⟨by kernel_rfl, fun X hS => by obtain ⟨e0, e1⟩ := hS; go_simp⟩) ⟨heap_cell HX.out 0, heap_cell HX.out 1⟩ ?_
            try go_simp
            refine wpAnyT_one 15 rfl (by kernel_rfl) (fun K hK => ?_)
            go_simp
            clear HR
            obtain ⟨r0, r1, z0, z1⟩ := PWo.k2 HZ.out
            have hlr := lt_of_heap HZ.out
            have hgr1 := set2_boxR w12 w.heap.size (.slice va cs.length vc) (.slice ua is.length uc)
            have NHB : Hid (Below w.heap.size w ((w12.setCell ⟨w.heap.size, 0, none⟩ (.slice va cs.length vc)).setCell ⟨w.heap.size, 1, none⟩ (.slice ua is.length uc))) := (HB.out.setCell (Nat.le_refl _) _).setCell (Nat.le_refl _) _
            have NHY : Hid (((w12.setCell ⟨w.heap.size, 0, none⟩ (.slice va cs.length vc)).setCell ⟨w.heap.size, 1, none⟩ (.slice ua is.length uc)).heap[w.heap.size + 1]? = some (.cells #[.string ⟨#[]⟩, .string ⟨#[]⟩, .slice none 0 0] 28 (0, 0))) := heap_boxR HY.out hgr1 (by omega)
            have NHV : Hid (((w12.setCell ⟨w.heap.size, 0, none⟩ (.slice va cs.length vc)).setCell ⟨w.heap.size, 1, none⟩ (.slice ua is.length uc)).ownsRow w.heap.size 69 2 (.slice va cs.length vc) cs.length (flat cs)) := row_boxR HZ.out HV.out (by decide) hgr1
            have NHU : Hid (IR ((w12.setCell ⟨w.heap.size, 0, none⟩ (.slice va cs.length vc)).setCell ⟨w.heap.size, 1, none⟩ (.slice ua is.length uc)) (w.heap.size + 2) (.slice ua is.length uc) is) := ir_boxR HZ.out HU.out (by decide) (by decide) hgr1
            have NHX : Hid (((w12.setCell ⟨w.heap.size, 0, none⟩ (.slice va cs.length vc)).setCell ⟨w.heap.size, 1, none⟩ (.slice ua is.length uc)).heap[bx]? = some (.cells #[.slice va cs.length vc, .slice ua is.length uc] 42 (0, 0))) := heap_boxR HX.out hgr1 (by omega)
            have NHNN : Hid (((w12.setCell ⟨w.heap.size, 0, none⟩ (.slice va cs.length vc)).setCell ⟨w.heap.size, 1, none⟩ (.slice ua is.length uc)).heap[b12]? = some (.cells #[.string x2, .string y2] 25 (0, 0))) := heap_boxR HNN.out hgr1 (by omega)
            have NHT : Hid (((w12.setCell ⟨w.heap.size, 0, none⟩ (.slice va cs.length vc)).setCell ⟨w.heap.size, 1, none⟩ (.slice ua is.length uc)).ownsRow w.heap.size 25 2 (.slice (some ⟨b12, 0, none⟩) 1 1) 1 [.string x2, .string y2]) := row_boxR HZ.out HT.out (by decide) hgr1
            have NHZ : Hid (((w12.setCell ⟨w.heap.size, 0, none⟩ (.slice va cs.length vc)).setCell ⟨w.heap.size, 1, none⟩ (.slice ua is.length uc)).heap[w.heap.size]? = some (.cells #[.slice va cs.length vc, .slice ua is.length uc] 42 (0, 0))) := heap_set (heap_set HZ.out 0 _) 1 _
            go_simp
            clear r0 r1 z0 z1 hlr hgr1
            clear HB HZ HY HV HU HX HNN HT
            generalize ((w12.setCell ⟨w.heap.size, 0, none⟩ (.slice va cs.length vc)).setCell ⟨w.heap.size, 1, none⟩ (.slice ua is.length uc)) = w13 at *
            have HB := hid NHB.out
            have HZ := hid NHZ.out
            have HY := hid NHY.out
            have HV := hid NHV.out
            have HU := hid NHU.out
            have HX := hid NHX.out
            have HNN := hid NHNN.out
            have HT := hid NHT.out
            clear NHB NHZ NHY NHV NHU NHX NHNN NHT
            refine hK _ _ (fun _ => ⟨heap_cell HX.out 0, heap_cell HX.out 1⟩) ?_
            clear hK K
            refine wpAnyT_drop _ 16 _ _ _ (by decide) (by kernel_rfl) ?_
            change wpList _ _ _ [_] _ _
            obtain ⟨y0, y1, yy2, u0, u1, uu2⟩ := PIn.k3 HY.out
            have hly := lt_of_heap HY.out
            go_wp2
            have hg2 := set3_boxR w13 (w.heap.size + 1) (.string x) (.string y) (.slice (some ⟨b12, 0, none⟩) 1 1)
            refine bodyPost_ret (results_row_row rfl _ _ w.heap.size (w.heap.size + 1) 42 28 #[.slice va cs.length vc, .slice ua is.length uc] #[.string x, .string y, .slice (some ⟨b12, 0, none⟩) 1 1] (0, 0) (0, 0) _ _ rfl (heap_boxR HZ.out hg2 (by omega)) Tryd.underlying42 rfl (by kernel_rfl) rfl (heap_set (heap_set (heap_set HY.out 0 _) 1 _) 2 _) Tryd.underlying28 rfl (by kernel_rfl)) rfl ?_
            exact ⟨.slice va cs.length vc, .slice ua is.length uc, cs, is, x, y, .slice (some ⟨b12, 0, none⟩) 1 1, [(x2, y2)], rfl, ⟨row_boxR HY.out HV.out (by decide) hg2, IR_mono (ir3 HY.out HU.out hg2 (by omega)) (by omega), h1, h0, h2, h3⟩, ⟨row_boxR HY.out HT.out (by decide) hg2, by omega, hy, by simp, fun p hp => by simp at hp; subst hp; exact ⟨by show x2.size ≤ 200; omega, hy2⟩⟩, ((HB.out.setCell (Nat.le_succ _) _).setCell (Nat.le_succ _) _).setCell (Nat.le_succ _) _⟩
          · go_simp
            clear HR
            obtain ⟨r0, r1, z0, z1⟩ := PWo.k2 HZ.out
            have hlr := lt_of_heap HZ.out
            have hgr1 := set2_boxR w11 w.heap.size (.slice va cs.length vc) (.slice ua is.length uc)
            have NHB : Hid (Below w.heap.size w ((w11.setCell ⟨w.heap.size, 0, none⟩ (.slice va cs.length vc)).setCell ⟨w.heap.size, 1, none⟩ (.slice ua is.length uc))) := (HB.out.setCell (Nat.le_refl _) _).setCell (Nat.le_refl _) _
            have NHY : Hid (((w11.setCell ⟨w.heap.size, 0, none⟩ (.slice va cs.length vc)).setCell ⟨w.heap.size, 1, none⟩ (.slice ua is.length uc)).heap[w.heap.size + 1]? = some (.cells #[.string ⟨#[]⟩, .string ⟨#[]⟩, .slice none 0 0] 28 (0, 0))) := heap_boxR HY.out hgr1 (by omega)
            have NHV : Hid (((w11.setCell ⟨w.heap.size, 0, none⟩ (.slice va cs.length vc)).setCell ⟨w.heap.size, 1, none⟩ (.slice ua is.length uc)).ownsRow w.heap.size 69 2 (.slice va cs.length vc) cs.length (flat cs)) := row_boxR HZ.out HV.out (by decide) hgr1
            have NHU : Hid (IR ((w11.setCell ⟨w.heap.size, 0, none⟩ (.slice va cs.length vc)).setCell ⟨w.heap.size, 1, none⟩ (.slice ua is.length uc)) (w.heap.size + 2) (.slice ua is.length uc) is) := ir_boxR HZ.out HU.out (by decide) (by decide) hgr1
            have NHX : Hid (((w11.setCell ⟨w.heap.size, 0, none⟩ (.slice va cs.length vc)).setCell ⟨w.heap.size, 1, none⟩ (.slice ua is.length uc)).heap[bx]? = some (.cells #[.slice va cs.length vc, .slice ua is.length uc] 42 (0, 0))) := heap_boxR HX.out hgr1 (by omega)
            have NHZ : Hid (((w11.setCell ⟨w.heap.size, 0, none⟩ (.slice va cs.length vc)).setCell ⟨w.heap.size, 1, none⟩ (.slice ua is.length uc)).heap[w.heap.size]? = some (.cells #[.slice va cs.length vc, .slice ua is.length uc] 42 (0, 0))) := heap_set (heap_set HZ.out 0 _) 1 _
            go_simp
            clear r0 r1 z0 z1 hlr hgr1
            clear HB HZ HY HV HU HX
            generalize ((w11.setCell ⟨w.heap.size, 0, none⟩ (.slice va cs.length vc)).setCell ⟨w.heap.size, 1, none⟩ (.slice ua is.length uc)) = w12 at *
            have HB := hid NHB.out
            have HZ := hid NHZ.out
            have HY := hid NHY.out
            have HV := hid NHV.out
            have HU := hid NHU.out
            have HX := hid NHX.out
            clear NHB NHZ NHY NHV NHU NHX
            refine hK _ _ (fun _ => ⟨heap_cell HX.out 0, heap_cell HX.out 1⟩) ?_
            clear hK K
            refine wpAnyT_one 13 rfl (by kernel_rfl) (fun K hK => ?_)
            go_simp
            have hzz := HB.out.size
            have hzr := lt_of_heap HY.out
            have hb : Below w12.heap.size w12 (w12.alloc (.cells #[.string x2, .string y2] 25)) := (Below.refl _ _).alloc (Nat.le_refl _) _
            have HT : Hid ((w12.alloc (.cells #[.string x2, .string y2] 25)).ownsRow w.heap.size 25 2 (.slice (some ⟨w12.heap.size, 0, none⟩) 1 1) 1 [.string x2, .string y2]) := by
              have h := ownsRow_built (base := w.heap.size) (e := 25) (size := 2) w12 #[.string x2, .string y2] 1 (by omega) (by simp [maxLen]) rfl
              show World.ownsRow _ _ _ _ _ _ _
              simpa using h
            replace HB : Hid (Below w.heap.size w (w12.alloc (.cells #[.string x2, .string y2] 25))) := HB.out.trans (hb.mono HB.out.size)
            replace HZ : Hid ((w12.alloc (.cells #[.string x2, .string y2] 25)).heap[w.heap.size]? = some (.cells #[.slice va cs.length vc, .slice ua is.length uc] 42 (0, 0))) := below_heap hb (lt_of_heap HZ.out) HZ.out
            replace HY : Hid ((w12.alloc (.cells #[.string x2, .string y2] 25)).heap[w.heap.size + 1]? = some (.cells #[.string ⟨#[]⟩, .string ⟨#[]⟩, .slice none 0 0] 28 (0, 0))) := below_heap hb (lt_of_heap HY.out) HY.out
            replace HV : Hid ((w12.alloc (.cells #[.string x2, .string y2] 25)).ownsRow w.heap.size 69 2 (.slice va cs.length vc) cs.length (flat cs)) := row_below hb HV.out
            replace HU : Hid (IR (w12.alloc (.cells #[.string x2, .string y2] 25)) (w.heap.size + 2) (.slice ua is.length uc) is) := HU.out.below hb
            replace HX : Hid ((w12.alloc (.cells #[.string x2, .string y2] 25)).heap[bx]? = some (.cells #[.slice va cs.length vc, .slice ua is.length uc] 42 (0, 0))) := below_heap hb (lt_of_heap HX.out) HX.out
            clear hb
            have HNN : Hid ((w12.alloc (.cells #[.string x2, .string y2] 25)).heap[w12.heap.size]? = some (.cells #[.string x2, .string y2] 25 (0, 0))) := heap_alloc_new _ _
            generalize (w12.alloc (.cells #[.string x2, .string y2] 25)) = w13 at *
            obtain ⟨b13, hbb13⟩ : ∃ x, x = w12.heap.size := ⟨_, rfl⟩
            rw [← hbb13] at HNN HT ⊢
            have hb13 : w.heap.size + 1 < b13 := by omega
            clear hzz hzr
            clear hbb13
            refine hK _ _ (fun _ => ⟨heap_cell HX.out 0, heap_cell HX.out 1⟩) ?_
            clear hK K
            refine wpAnyT_take (i := 14) (v := .agg #[.string x, .string y, .slice (some ⟨b13, 0, none⟩) 1 1]) rfl (by kernel_rfl) (by kernel_rfl) (by kernel_rfl) (by kernel_rfl) (fun _ _ _ h => h) (Or.inl ⟨by kernel_rfl, fun X hS => by obtain ⟨e0, e1⟩ := hS; go_simp⟩) ⟨heap_cell HX.out 0, heap_cell HX.out 1⟩ ?_
            try go_simp
            refine wpAnyT_drop _ 16 _ _ _ (by decide) (by kernel_rfl) ?_
            change wpList _ _ _ [_] _ _
            obtain ⟨y0, y1, yy2, u0, u1, uu2⟩ := PIn.k3 HY.out
            have hly := lt_of_heap HY.out
            go_wp2
            have hg2 := set3_boxR w13 (w.heap.size + 1) (.string x) (.string y) (.slice (some ⟨b13, 0, none⟩) 1 1)
            refine bodyPost_ret (results_row_row rfl _ _ w.heap.size (w.heap.size + 1) 42 28 #[.slice va cs.length vc, .slice ua is.length uc] #[.string x, .string y, .slice (some ⟨b13, 0, none⟩) 1 1] (0, 0) (0, 0) _ _ rfl (heap_boxR HZ.out hg2 (by omega)) Tryd.underlying42 rfl (by kernel_rfl) rfl (heap_set (heap_set (heap_set HY.out 0 _) 1 _) 2 _) Tryd.underlying28 rfl (by kernel_rfl)) rfl ?_
            exact ⟨.slice va cs.length vc, .slice ua is.length uc, cs, is, x, y, .slice (some ⟨b13, 0, none⟩) 1 1, [(x2, y2)], rfl, ⟨row_boxR HY.out HV.out (by decide) hg2, IR_mono (ir3 HY.out HU.out hg2 (by omega)) (by omega), h1, h0, h2, h3⟩, ⟨row_boxR HY.out HT.out (by decide) hg2, by omega, hy, by simp, fun p hp => by simp at hp; subst hp; exact ⟨by show x2.size ≤ 200; omega, hy2⟩⟩, ((HB.out.setCell (Nat.le_succ _) _).setCell (Nat.le_succ _) _).setCell (Nat.le_succ _) _⟩
        · go_simp
          have hzz := HB.out.size
          have hb : Below w7.heap.size w7 (w7.alloc (.cells #[.string ⟨#[69]⟩, .string ⟨#[65]⟩] 9)) := (Below.refl _ _).alloc (Nat.le_refl _) _
          replace HR : Hid (RD (w7.alloc (.cells #[.string ⟨#[69]⟩, .string ⟨#[65]⟩] 9)) a (2102)) := HR.out.below hb
          replace HB : Hid (Below w.heap.size w (w7.alloc (.cells #[.string ⟨#[69]⟩, .string ⟨#[65]⟩] 9))) := HB.out.trans (hb.mono HB.out.size)
          replace HZ : Hid ((w7.alloc (.cells #[.string ⟨#[69]⟩, .string ⟨#[65]⟩] 9)).heap[w.heap.size]? = some (.cells #[.slice none 0 0, .slice none 0 0] 42 (0, 0))) := below_heap hb (lt_of_heap HZ.out) HZ.out
          replace HY : Hid ((w7.alloc (.cells #[.string ⟨#[69]⟩, .string ⟨#[65]⟩] 9)).heap[w.heap.size + 1]? = some (.cells #[.string ⟨#[]⟩, .string ⟨#[]⟩, .slice none 0 0] 28 (0, 0))) := below_heap hb (lt_of_heap HY.out) HY.out
          replace HV : Hid ((w7.alloc (.cells #[.string ⟨#[69]⟩, .string ⟨#[65]⟩] 9)).ownsRow w.heap.size 69 2 (.slice va cs.length vc) cs.length (flat cs)) := row_below hb HV.out
          replace HU : Hid (IR (w7.alloc (.cells #[.string ⟨#[69]⟩, .string ⟨#[65]⟩] 9)) (w.heap.size + 2) (.slice ua is.length uc) is) := HU.out.below hb
          replace HX : Hid ((w7.alloc (.cells #[.string ⟨#[69]⟩, .string ⟨#[65]⟩] 9)).heap[bx]? = some (.cells #[.slice va cs.length vc, .slice ua is.length uc] 42 (0, 0))) := below_heap hb (lt_of_heap HX.out) HX.out
          clear hb
          have HL8 : Hid ((w7.alloc (.cells #[.string ⟨#[69]⟩, .string ⟨#[65]⟩] 9)).heap[w7.heap.size]? = some (.cells #[.string ⟨#[69]⟩, .string ⟨#[65]⟩] 9 (0, 0))) := heap_alloc_new _ _
          generalize (w7.alloc (.cells #[.string ⟨#[69]⟩, .string ⟨#[65]⟩] 9)) = w8 at *
          obtain ⟨b8, hbb8⟩ : ∃ x, x = w7.heap.size := ⟨_, rfl⟩
          rw [← hbb8] at HL8 ⊢
          clear hzz
          clear hbb8
          refine hK _ _ (fun _ => ⟨heap_cell HX.out 0, heap_cell HX.out 1⟩) ?_
          clear hK K
          refine wpAnyT_one 5 rfl (by kernel_rfl) (fun K hK => ?_)
          go_simp
          refine (l1Any_any a 2102 w8 (by decide) HR.out).mono ?_
          rintro e w9 ⟨y, rfl, -, hy, hr, hgr⟩
          replace HB : Hid (Below w.heap.size w w9) := HB.out.grown hgr HB.out.size (fun g hg => by cases hg; omega)
          replace HZ : Hid (w9.heap[w.heap.size]? = some (.cells #[.slice none 0 0, .slice none 0 0] 42 (0, 0))) := HR.out.box HZ.out (by decide) hgr
          replace HY : Hid (w9.heap[w.heap.size + 1]? = some (.cells #[.string ⟨#[]⟩, .string ⟨#[]⟩, .slice none 0 0] 28 (0, 0))) := HR.out.box HY.out (by decide) hgr
          replace HV : Hid (w9.ownsRow w.heap.size 69 2 (.slice va cs.length vc) cs.length (flat cs)) := HR.out.row HV.out (by decide) hgr
          replace HU : Hid (IR w9 (w.heap.size + 2) (.slice ua is.length uc) is) := HR.out.ir HU.out hgr
          replace HX : Hid (w9.heap[bx]? = some (.cells #[.slice va cs.length vc, .slice ua is.length uc] 42 (0, 0))) := HR.out.box HX.out (by decide) hgr
          replace HL8 : Hid (w9.heap[b8]? = some (.cells #[.string ⟨#[69]⟩, .string ⟨#[65]⟩] 9 (0, 0))) := HR.out.box HL8.out (by decide) hgr
          have hzc := hgr.size
          replace HR : Hid (RD w9 a (2162)) := hr.mono (by omega)
          clear hr hgr hzc
          refine hK _ _ (fun _ => ⟨heap_cell HX.out 0, heap_cell HX.out 1⟩) ?_
          clear hK K
          refine wpAnyT_take (i := 6) (v := .agg #[.string x, .string y]) rfl (by kernel_rfl) (by kernel_rfl) (by kernel_rfl) (by kernel_rfl) (fun _ _ _ h => h) (Or.inl ⟨by kernel_rfl, fun X hS => by obtain ⟨e0, e1⟩ := hS; go_simp⟩) ⟨heap_cell HX.out 0, heap_cell HX.out 1⟩ ?_
          try go_simp
          refine wpAnyT_one 9 rfl (by kernel_rfl) (fun K hK => ?_)
          go_simp
          refine (ofS_any a 2162 b8 2 0 2 _ w9 (by decide) (by decide) (by decide) rfl HL8.out (by decide) HR.out).mono ?_
          rintro e w10 ⟨x2, rfl, -, hx2, hr, hgr⟩
          replace HB : Hid (Below w.heap.size w w10) := HB.out.grown hgr HB.out.size (fun g hg => by cases hg; omega)
          replace HZ : Hid (w10.heap[w.heap.size]? = some (.cells #[.slice none 0 0, .slice none 0 0] 42 (0, 0))) := HR.out.box HZ.out (by decide) hgr
          replace HY : Hid (w10.heap[w.heap.size + 1]? = some (.cells #[.string ⟨#[]⟩, .string ⟨#[]⟩, .slice none 0 0] 28 (0, 0))) := HR.out.box HY.out (by decide) hgr
          replace HV : Hid (w10.ownsRow w.heap.size 69 2 (.slice va cs.length vc) cs.length (flat cs)) := HR.out.row HV.out (by decide) hgr
          replace HU : Hid (IR w10 (w.heap.size + 2) (.slice ua is.length uc) is) := HR.out.ir HU.out hgr
          replace HX : Hid (w10.heap[bx]? = some (.cells #[.slice va cs.length vc, .slice ua is.length uc] 42 (0, 0))) := HR.out.box HX.out (by decide) hgr
          replace HL8 : Hid (w10.heap[b8]? = some (.cells #[.string ⟨#[69]⟩, .string ⟨#[65]⟩] 9 (0, 0))) := HR.out.box HL8.out (by decide) hgr
          have hzc := hgr.size
          replace HR : Hid (RD w10 a (2163)) := hr.mono (by omega)
          clear hr hgr hzc
          clear HL8
          refine hK _ _ (fun _ => ⟨heap_cell HX.out 0, heap_cell HX.out 1⟩) ?_
          clear hK K
          refine wpAnyT_one 11 rfl (by kernel_rfl) (fun K hK => ?_)
          go_simp
          refine (l1Any_any a 2163 w10 (by decide) HR.out).mono ?_
          rintro e w11 ⟨y2, rfl, -, hy2, hr, hgr⟩
          replace HB : Hid (Below w.heap.size w w11) := HB.out.grown hgr HB.out.size (fun g hg => by cases hg; omega)
          replace HZ : Hid (w11.heap[w.heap.size]? = some (.cells #[.slice none 0 0, .slice none 0 0] 42 (0, 0))) := HR.out.box HZ.out (by decide) hgr
          replace HY : Hid (w11.heap[w.heap.size + 1]? = some (.cells #[.string ⟨#[]⟩, .string ⟨#[]⟩, .slice none 0 0] 28 (0, 0))) := HR.out.box HY.out (by decide) hgr
          replace HV : Hid (w11.ownsRow w.heap.size 69 2 (.slice va cs.length vc) cs.length (flat cs)) := HR.out.row HV.out (by decide) hgr
          replace HU : Hid (IR w11 (w.heap.size + 2) (.slice ua is.length uc) is) := HR.out.ir HU.out hgr
          replace HX : Hid (w11.heap[bx]? = some (.cells #[.slice va cs.length vc, .slice ua is.length uc] 42 (0, 0))) := HR.out.box HX.out (by decide) hgr
          have hzc := hgr.size
          replace HR : Hid (RD w11 a (2223)) := hr.mono (by omega)
          clear hr hgr hzc
          refine hK _ _ (fun _ => ⟨heap_cell HX.out 0, heap_cell HX.out 1⟩) ?_
          clear hK K
          refine wpAnyT_take (i := 12) (v := .agg #[.string x2, .string y2]) rfl (by kernel_rfl) (by kernel_rfl) (by kernel_rfl) (by kernel_rfl) (fun _ _ _ h => h) (Or.inl ⟨by kernel_rfl, fun X hS => by obtain ⟨e0, e1⟩ := hS; go_simp⟩) ⟨heap_cell HX.out 0, heap_cell HX.out 1⟩ ?_
          try go_simp
          refine wpAnyT_two 13 15 rfl rfl (by kernel_rfl) (fun K hK => ?_) (fun K hK => ?_)
          · go_simp
            have hzz := HB.out.size
            have hzr := lt_of_heap HY.out
            have hb : Below w11.heap.size w11 (w11.alloc (.cells #[.string x2, .string y2] 25)) := (Below.refl _ _).alloc (Nat.le_refl _) _
            have HT : Hid ((w11.alloc (.cells #[.string x2, .string y2] 25)).ownsRow w.heap.size 25 2 (.slice (some ⟨w11.heap.size, 0, none⟩) 1 1) 1 [.string x2, .string y2]) := by
              have h := ownsRow_built (base := w.heap.size) (e := 25) (size := 2) w11 #[.string x2, .string y2] 1 (by omega) (by simp [maxLen]) rfl
              show World.ownsRow _ _ _ _ _ _ _
              simpa using h
            replace HR : Hid (RD (w11.alloc (.cells #[.string x2, .string y2] 25)) a (2223)) := HR.out.below hb
            replace HB : Hid (Below w.heap.size w (w11.alloc (.cells #[.string x2, .string y2] 25))) := HB.out.trans (hb.mono HB.out.size)
            replace HZ : Hid ((w11.alloc (.cells #[.string x2, .string y2] 25)).heap[w.heap.size]? = some (.cells #[.slice none 0 0, .slice none 0 0] 42 (0, 0))) := below_heap hb (lt_of_heap HZ.out) HZ.out
            replace HY : Hid ((w11.alloc (.cells #[.string x2, .string y2] 25)).heap[w.heap.size + 1]? = some (.cells #[.string ⟨#[]⟩, .string ⟨#[]⟩, .slice none 0 0] 28 (0, 0))) := below_heap hb (lt_of_heap HY.out) HY.out
            replace HV : Hid ((w11.alloc (.cells #[.string x2, .string y2] 25)).ownsRow w.heap.size 69 2 (.slice va cs.length vc) cs.length (flat cs)) := row_below hb HV.out
            replace HU : Hid (IR (w11.alloc (.cells #[.string x2, .string y2] 25)) (w.heap.size + 2) (.slice ua is.length uc) is) := HU.out.below hb
            replace HX : Hid ((w11.alloc (.cells #[.string x2, .string y2] 25)).heap[bx]? = some (.cells #[.slice va cs.length vc, .slice ua is.length uc] 42 (0, 0))) := below_heap hb (lt_of_heap HX.out) HX.out
            clear hb
            have HNN : Hid ((w11.alloc (.cells #[.string x2, .string y2] 25)).heap[w11.heap.size]? = some (.cells #[.string x2, .string y2] 25 (0, 0))) := heap_alloc_new _ _
            generalize (w11.alloc (.cells #[.string x2, .string y2] 25)) = w12 at *
            obtain ⟨b12, hbb12⟩ : ∃ x, x = w11.heap.size := ⟨_, rfl⟩
            rw [← hbb12] at HNN HT ⊢
            have hb13 : w.heap.size + 1 < b12 := by omega
            clear hzz hzr
            clear hbb12
            refine hK _ _ (fun _ => ⟨heap_cell HX.out 0, heap_cell HX.out 1⟩) ?_
            clear hK K
            refine wpAnyT_take (i := 14) (v := .agg #[.string x, .string y, .slice (some ⟨b12, 0, none⟩) 1 1]) rfl (by kernel_rfl) (by kernel_rfl) (by kernel_rfl) (by kernel_rfl) (fun _ _ _ h => h) (Or.inl ⟨by kernel_rfl, fun X hS => by obtain ⟨e0, e1⟩ := hS; go_simp⟩) ⟨heap_cell HX.out 0, heap_cell HX.out 1⟩ ?_
            try go_simp
            refine wpAnyT_one 15 rfl (by kernel_rfl) (fun K hK => ?_)
            go_simp
            clear HR
            obtain ⟨r0, r1, z0, z1⟩ := PWo.k2 HZ.out
            have hlr := lt_of_heap HZ.out
            have hgr1 := set2_boxR w12 w.heap.size (.slice va cs.length vc) (.slice ua is.length uc)
            have NHB : Hid (Below w.heap.size w ((w12.setCell ⟨w.heap.size, 0, none⟩ (.slice va cs.length vc)).setCell ⟨w.heap.size, 1, none⟩ (.slice ua is.length uc))) := (HB.out.setCell (Nat.le_refl _) _).setCell (Nat.le_refl _) _
            have NHY : Hid (((w12.setCell ⟨w.heap.size, 0, none⟩ (.slice va cs.length vc)).setCell ⟨w.heap.size, 1, none⟩ (.slice ua is.length uc)).heap[w.heap.size + 1]? = some (.cells #[.string ⟨#[]⟩, .string ⟨#[]⟩, .slice none 0 0] 28 (0, 0))) := heap_boxR HY.out hgr1 (by omega)
            have NHV : Hid (((w12.setCell ⟨w.heap.size, 0, none⟩ (.slice va cs.length vc)).setCell ⟨w.heap.size, 1, none⟩ (.slice ua is.length uc)).ownsRow w.heap.size 69 2 (.slice va cs.length vc) cs.length (flat cs)) := row_boxR HZ.out HV.out (by decide) hgr1
            have NHU : Hid (IR ((w12.setCell ⟨w.heap.size, 0, none⟩ (.slice va cs.length vc)).setCell ⟨w.heap.size, 1, none⟩ (.slice ua is.length uc)) (w.heap.size + 2) (.slice ua is.length uc) is) := ir_boxR HZ.out HU.out (by decide) (by decide) hgr1
            have NHX : Hid (((w12.setCell ⟨w.heap.size, 0, none⟩ (.slice va cs.length vc)).setCell ⟨w.heap.size, 1, none⟩ (.slice ua is.length uc)).heap[bx]? = some (.cells #[.slice va cs.length vc, .slice ua is.length uc] 42 (0, 0))) := heap_boxR HX.out hgr1 (by omega)
            have NHNN : Hid (((w12.setCell ⟨w.heap.size, 0, none⟩ (.slice va cs.length vc)).setCell ⟨w.heap.size, 1, none⟩ (.slice ua is.length uc)).heap[b12]? = some (.cells #[.string x2, .string y2] 25 (0, 0))) := heap_boxR HNN.out hgr1 (by omega)
            have NHT : Hid (((w12.setCell ⟨w.heap.size, 0, none⟩ (.slice va cs.length vc)).setCell ⟨w.heap.size, 1, none⟩ (.slice ua is.length uc)).ownsRow w.heap.size 25 2 (.slice (some ⟨b12, 0, none⟩) 1 1) 1 [.string x2, .string y2]) := row_boxR HZ.out HT.out (by decide) hgr1
            have NHZ : Hid (((w12.setCell ⟨w.heap.size, 0, none⟩ (.slice va cs.length vc)).setCell ⟨w.heap.size, 1, none⟩ (.slice ua is.length uc)).heap[w.heap.size]? = some (.cells #[.slice va cs.length vc, .slice ua is.length uc] 42 (0, 0))) := heap_set (heap_set HZ.out 0 _) 1 _
            go_simp
            clear r0 r1 z0 z1 hlr hgr1
            clear HB HZ HY HV HU HX HNN HT
            generalize ((w12.setCell ⟨w.heap.size, 0, none⟩ (.slice va cs.length vc)).setCell ⟨w.heap.size, 1, none⟩ (.slice ua is.length uc)) = w13 at *
            have HB := hid NHB.out
            have HZ := hid NHZ.out
            have HY := hid NHY.out
            have HV := hid NHV.out
            have HU := hid NHU.out
            have HX := hid NHX.out
            have HNN := hid NHNN.out
            have HT := hid NHT.out
            clear NHB NHZ NHY NHV NHU NHX NHNN NHT
            refine hK _ _ (fun _ => ⟨heap_cell HX.out 0, heap_cell HX.out 1⟩) ?_
            clear hK K
            refine wpAnyT_drop _ 16 _ _ _ (by decide) (by kernel_rfl) ?_
            change wpList _ _ _ [_] _ _
            obtain ⟨y0, y1, yy2, u0, u1, uu2⟩ := PIn.k3 HY.out
            have hly := lt_of_heap HY.out
            go_wp2
            have hg2 := set3_boxR w13 (w.heap.size + 1) (.string x) (.string y) (.slice (some ⟨b12, 0, none⟩) 1 1)
            refine bodyPost_ret (results_row_row rfl _ _ w.heap.size (w.heap.size + 1) 42 28 #[.slice va cs.length vc, .slice ua is.length uc] #[.string x, .string y, .slice (some ⟨b12, 0, none⟩) 1 1] (0, 0) (0, 0) _ _ rfl (heap_boxR HZ.out hg2 (by omega)) Tryd.underlying42 rfl (by kernel_rfl) rfl (heap_set (heap_set (heap_set HY.out 0 _) 1 _) 2 _) Tryd.underlying28 rfl (by kernel_rfl)) rfl ?_
            exact ⟨.slice va cs.length vc, .slice ua is.length uc, cs, is, x, y, .slice (some ⟨b12, 0, none⟩) 1 1, [(x2, y2)], rfl, ⟨row_boxR HY.out HV.out (by decide) hg2, IR_mono (ir3 HY.out HU.out hg2 (by omega)) (by omega), h1, h0, h2, h3⟩, ⟨row_boxR HY.out HT.out (by decide) hg2, by omega, hy, by simp, fun p hp => by simp at hp; subst hp; exact ⟨by show x2.size ≤ 200; omega, hy2⟩⟩, ((HB.out.setCell (Nat.le_succ _) _).setCell (Nat.le_succ _) _).setCell (Nat.le_succ _) _⟩
          · go_simp
            clear HR
            obtain ⟨r0, r1, z0, z1⟩ := PWo.k2 HZ.out
            have hlr := lt_of_heap HZ.out
            have hgr1 := set2_boxR w11 w.heap.size (.slice va cs.length vc) (.slice ua is.length uc)
            have NHB : Hid (Below w.heap.size w ((w11.setCell ⟨w.heap.size, 0, none⟩ (.slice va cs.length vc)).setCell ⟨w.heap.size, 1, none⟩ (.slice ua is.length uc))) := (HB.out.setCell (Nat.le_refl _) _).setCell (Nat.le_refl _) _
            have NHY : Hid (((w11.setCell ⟨w.heap.size, 0, none⟩ (.slice va cs.length vc)).setCell ⟨w.heap.size, 1, none⟩ (.slice ua is.length uc)).heap[w.heap.size + 1]? = some (.cells #[.string ⟨#[]⟩, .string ⟨#[]⟩, .slice none 0 0] 28 (0, 0))) := heap_boxR HY.out hgr1 (by omega)
            have NHV : Hid (((w11.setCell ⟨w.heap.size, 0, none⟩ (.slice va cs.length vc)).setCell ⟨w.heap.size, 1, none⟩ (.slice ua is.length uc)).ownsRow w.heap.size 69 2 (.slice va cs.length vc) cs.length (flat cs)) := row_boxR HZ.out HV.out (by decide) hgr1
            have NHU : Hid (IR ((w11.setCell ⟨w.heap.size, 0, none⟩ (.slice va cs.length vc)).setCell ⟨w.heap.size, 1, none⟩ (.slice ua is.length uc)) (w.heap.size + 2) (.slice ua is.length uc) is) := ir_boxR HZ.out HU.out (by decide) (by decide) hgr1
            have NHX : Hid (((w11.setCell ⟨w.heap.size, 0, none⟩ (.slice va cs.length vc)).setCell ⟨w.heap.size, 1, none⟩ (.slice ua is.length uc)).heap[bx]? = some (.cells #[.slice va cs.length vc, .slice ua is.length uc] 42 (0, 0))) := heap_boxR HX.out hgr1 (by omega)
            have NHZ : Hid (((w11.setCell ⟨w.heap.size, 0, none⟩ (.slice va cs.length vc)).setCell ⟨w.heap.size, 1, none⟩ (.slice ua is.length uc)).heap[w.heap.size]? = some (.cells #[.slice va cs.length vc, .slice ua is.length uc] 42 (0, 0))) := heap_set (heap_set HZ.out 0 _) 1 _
            go_simp
            clear r0 r1 z0 z1 hlr hgr1
            clear HB HZ HY HV HU HX
            generalize ((w11.setCell ⟨w.heap.size, 0, none⟩ (.slice va cs.length vc)).setCell ⟨w.heap.size, 1, none⟩ (.slice ua is.length uc)) = w12 at *
            have HB := hid NHB.out
            have HZ := hid NHZ.out
            have HY := hid NHY.out
            have HV := hid NHV.out
            have HU := hid NHU.out
            have HX := hid NHX.out
            clear NHB NHZ NHY NHV NHU NHX
            refine hK _ _ (fun _ => ⟨heap_cell HX.out 0, heap_cell HX.out 1⟩) ?_
            clear hK K
            refine wpAnyT_one 13 rfl (by kernel_rfl) (fun K hK => ?_)
            go_simp
            have hzz := HB.out.size
            have hzr := lt_of_heap HY.out
            have hb : Below w12.heap.size w12 (w12.alloc (.cells #[.string x2, .string y2] 25)) := (Below.refl _ _).alloc (Nat.le_refl _) _
            have HT : Hid ((w12.alloc (.cells #[.string x2, .string y2] 25)).ownsRow w.heap.size 25 2 (.slice (some ⟨w12.heap.size, 0, none⟩) 1 1) 1 [.string x2, .string y2]) := by
              have h := ownsRow_built (base := w.heap.size) (e := 25) (size := 2) w12 #[.string x2, .string y2] 1 (by omega) (by simp [maxLen]) rfl
              show World.ownsRow _ _ _ _ _ _ _
              simpa using h
            replace HB : Hid (Below w.heap.size w (w12.alloc (.cells #[.string x2, .string y2] 25))) := HB.out.trans (hb.mono HB.out.size)
            replace HZ : Hid ((w12.alloc (.cells #[.string x2, .string y2] 25)).heap[w.heap.size]? = some (.cells #[.slice va cs.length vc, .slice ua is.length uc] 42 (0, 0))) := below_heap hb (lt_of_heap HZ.out) HZ.out
            replace HY : Hid ((w12.alloc (.cells #[.string x2, .string y2] 25)).heap[w.heap.size + 1]? = some (.cells #[.string ⟨#[]⟩, .string ⟨#[]⟩, .slice none 0 0] 28 (0, 0))) := below_heap hb (lt_of_heap HY.out) HY.out
            replace HV : Hid ((w12.alloc (.cells #[.string x2, .string y2] 25)).ownsRow w.heap.size 69 2 (.slice va cs.length vc) cs.length (flat cs)) := row_below hb HV.out
            replace HU : Hid (IR (w12.alloc (.cells #[.string x2, .string y2] 25)) (w.heap.size + 2) (.slice ua is.length uc) is) := HU.out.below hb
            replace HX : Hid ((w12.alloc (.cells #[.string x2, .string y2] 25)).heap[bx]? = some (.cells #[.slice va cs.length vc, .slice ua is.length uc] 42 (0, 0))) := below_heap hb (lt_of_heap HX.out) HX.out
            clear hb
            have HNN : Hid ((w12.alloc (.cells #[.string x2, .string y2] 25)).heap[w12.heap.size]? = some (.cells #[.string x2, .string y2] 25 (0, 0))) := heap_alloc_new _ _
            generalize (w12.alloc (.cells #[.string x2, .string y2] 25)) = w13 at *
            obtain ⟨b13, hbb13⟩ : ∃ x, x = w12.heap.size := ⟨_, rfl⟩
            rw [← hbb13] at HNN HT ⊢
            have hb13 : w.heap.size + 1 < b13 := by omega
            clear hzz hzr
            clear hbb13
            refine hK _ _ (fun _ => ⟨heap_cell HX.out 0, heap_cell HX.out 1⟩) ?_
            clear hK K
            refine wpAnyT_take (i := 14) (v := .agg #[.string x, .string y, .slice (some ⟨b13, 0, none⟩) 1 1]) rfl (by kernel_rfl) (by kernel_rfl) (by kernel_rfl) (by kernel_rfl) (fun _ _ _ h => h) (Or.inl ⟨by kernel_rfl, fun X hS => by obtain ⟨e0, e1⟩ := hS; go_simp⟩) ⟨heap_cell HX.out 0, heap_cell HX.out 1⟩ ?_
            try go_simp
            refine wpAnyT_drop _ 16 _ _ _ (by decide) (by kernel_rfl) ?_
            change wpList _ _ _ [_] _ _
            obtain ⟨y0, y1, yy2, u0, u1, uu2⟩ := PIn.k3 HY.out
            have hly := lt_of_heap HY.out
            go_wp2
            have hg2 := set3_boxR w13 (w.heap.size + 1) (.string x) (.string y) (.slice (some ⟨b13, 0, none⟩) 1 1)
            refine bodyPost_ret (results_row_row rfl _ _ w.heap.size (w.heap.size + 1) 42 28 #[.slice va cs.length vc, .slice ua is.length uc] #[.string x, .string y, .slice (some ⟨b13, 0, none⟩) 1 1] (0, 0) (0, 0) _ _ rfl (heap_boxR HZ.out hg2 (by omega)) Tryd.underlying42 rfl (by kernel_rfl) rfl (heap_set (heap_set (heap_set HY.out 0 _) 1 _) 2 _) Tryd.underlying28 rfl (by kernel_rfl)) rfl ?_
            exact ⟨.slice va cs.length vc, .slice ua is.length uc, cs, is, x, y, .slice (some ⟨b13, 0, none⟩) 1 1, [(x2, y2)], rfl, ⟨row_boxR HY.out HV.out (by decide) hg2, IR_mono (ir3 HY.out HU.out hg2 (by omega)) (by omega), h1, h0, h2, h3⟩, ⟨row_boxR HY.out HT.out (by decide) hg2, by omega, hy, by simp, fun p hp => by simp at hp; subst hp; exact ⟨by show x2.size ≤ 200; omega, hy2⟩⟩, ((HB.out.setCell (Nat.le_succ _) _).setCell (Nat.le_succ _) _).setCell (Nat.le_succ _) _⟩
      · go_simp
        have hzz := HB.out.size
        have hb : Below w6.heap.size w6 (w6.alloc (.cells #[.string ⟨#[69]⟩, .string ⟨#[65]⟩] 9)) := (Below.refl _ _).alloc (Nat.le_refl _) _
        replace HR : Hid (RD (w6.alloc (.cells #[.string ⟨#[69]⟩, .string ⟨#[65]⟩] 9)) a (2101)) := HR.out.below hb
        replace HB : Hid (Below w.heap.size w (w6.alloc (.cells #[.string ⟨#[69]⟩, .string ⟨#[65]⟩] 9))) := HB.out.trans (hb.mono HB.out.size)
        replace HZ : Hid ((w6.alloc (.cells #[.string ⟨#[69]⟩, .string ⟨#[65]⟩] 9)).heap[w.heap.size]? = some (.cells #[.slice none 0 0, .slice none 0 0] 42 (0, 0))) := below_heap hb (lt_of_heap HZ.out) HZ.out
        replace HY : Hid ((w6.alloc (.cells #[.string ⟨#[69]⟩, .string ⟨#[65]⟩] 9)).heap[w.heap.size + 1]? = some (.cells #[.string ⟨#[]⟩, .string ⟨#[]⟩, .slice none 0 0] 28 (0, 0))) := below_heap hb (lt_of_heap HY.out) HY.out
        replace HV : Hid ((w6.alloc (.cells #[.string ⟨#[69]⟩, .string ⟨#[65]⟩] 9)).ownsRow w.heap.size 69 2 (.slice va cs.length vc) cs.length (flat cs)) := row_below hb HV.out
        replace HU : Hid (IR (w6.alloc (.cells #[.string ⟨#[69]⟩, .string ⟨#[65]⟩] 9)) (w.heap.size + 2) (.slice ua is.length uc) is) := HU.out.below hb
        replace HX : Hid ((w6.alloc (.cells #[.string ⟨#[69]⟩, .string ⟨#[65]⟩] 9)).heap[bx]? = some (.cells #[.slice va cs.length vc, .slice ua is.length uc] 42 (0, 0))) := below_heap hb (lt_of_heap HX.out) HX.out
        replace HL2 : Hid ((w6.alloc (.cells #[.string ⟨#[69]⟩, .string ⟨#[65]⟩] 9)).heap[b6]? = some (.cells #[.string ⟨#[69]⟩, .string ⟨#[65]⟩, .string ⟨#[90]⟩] 9 (0, 0))) := below_heap hb (lt_of_heap HL2.out) HL2.out
        clear hb
        have HL8 : Hid ((w6.alloc (.cells #[.string ⟨#[69]⟩, .string ⟨#[65]⟩] 9)).heap[w6.heap.size]? = some (.cells #[.string ⟨#[69]⟩, .string ⟨#[65]⟩] 9 (0, 0))) := heap_alloc_new _ _
        generalize (w6.alloc (.cells #[.string ⟨#[69]⟩, .string ⟨#[65]⟩] 9)) = w7 at *
        obtain ⟨b7, hbb7⟩ : ∃ x, x = w6.heap.size := ⟨_, rfl⟩
        rw [← hbb7] at HL8 ⊢
        clear hzz
        clear hbb7
        refine hK _ _ (fun _ => ⟨heap_cell HX.out 0, heap_cell HX.out 1⟩) ?_
        clear hK K
        refine wpAnyT_one 3 rfl (by kernel_rfl) (fun K hK => ?_)
        go_simp
        refine (ofS_any a 2101 b6 3 0 2 _ w7 (by decide) (by decide) (by decide) rfl HL2.out (by decide) HR.out).mono ?_
        rintro e w8 ⟨x, rfl, -, hx, hr, hgr⟩
        replace HB : Hid (Below w.heap.size w w8) := HB.out.grown hgr HB.out.size (fun g hg => by cases hg; omega)
        replace HZ : Hid (w8.heap[w.heap.size]? = some (.cells #[.slice none 0 0, .slice none 0 0] 42 (0, 0))) := HR.out.box HZ.out (by decide) hgr
        replace HY : Hid (w8.heap[w.heap.size + 1]? = some (.cells #[.string ⟨#[]⟩, .string ⟨#[]⟩, .slice none 0 0] 28 (0, 0))) := HR.out.box HY.out (by decide) hgr
        replace HV : Hid (w8.ownsRow w.heap.size 69 2 (.slice va cs.length vc) cs.length (flat cs)) := HR.out.row HV.out (by decide) hgr
        replace HU : Hid (IR w8 (w.heap.size + 2) (.slice ua is.length uc) is) := HR.out.ir HU.out hgr
        replace HX : Hid (w8.heap[bx]? = some (.cells #[.slice va cs.length vc, .slice ua is.length uc] 42 (0, 0))) := HR.out.box HX.out (by decide) hgr
        replace HL2 : Hid (w8.heap[b6]? = some (.cells #[.string ⟨#[69]⟩, .string ⟨#[65]⟩, .string ⟨#[90]⟩] 9 (0, 0))) := HR.out.box HL2.out (by decide) hgr
        replace HL8 : Hid (w8.heap[b7]? = some (.cells #[.string ⟨#[69]⟩, .string ⟨#[65]⟩] 9 (0, 0))) := HR.out.box HL8.out (by decide) hgr
        have hzc := hgr.size
        replace HR : Hid (RD w8 a (2102)) := hr.mono (by omega)
        clear hr hgr hzc
        clear HL2
        refine hK _ _ (fun _ => ⟨heap_cell HX.out 0, heap_cell HX.out 1⟩) ?_
        clear hK K
        refine wpAnyT_one 5 rfl (by kernel_rfl) (fun K hK => ?_)
        go_simp
        refine (l1Any_any a 2102 w8 (by decide) HR.out).mono ?_
        rintro e w9 ⟨y, rfl, -, hy, hr, hgr⟩
        replace HB : Hid (Below w.heap.size w w9) := HB.out.grown hgr HB.out.size (fun g hg => by cases hg; omega)
        replace HZ : Hid (w9.heap[w.heap.size]? = some (.cells #[.slice none 0 0, .slice none 0 0] 42 (0, 0))) := HR.out.box HZ.out (by decide) hgr
        replace HY : Hid (w9.heap[w.heap.size + 1]? = some (.cells #[.string ⟨#[]⟩, .string ⟨#[]⟩, .slice none 0 0] 28 (0, 0))) := HR.out.box HY.out (by decide) hgr
        replace HV : Hid (w9.ownsRow w.heap.size 69 2 (.slice va cs.length vc) cs.length (flat cs)) := HR.out.row HV.out (by decide) hgr
        replace HU : Hid (IR w9 (w.heap.size + 2) (.slice ua is.length uc) is) := HR.out.ir HU.out hgr
        replace HX : Hid (w9.heap[bx]? = some (.cells #[.slice va cs.length vc, .slice ua is.length uc] 42 (0, 0))) := HR.out.box HX.out (by decide) hgr
        replace HL8 : Hid (w9.heap[b7]? = some (.cells #[.string ⟨#[69]⟩, .string ⟨#[65]⟩] 9 (0, 0))) := HR.out.box HL8.out (by decide) hgr
        have hzc := hgr.size
        replace HR : Hid (RD w9 a (2162)) := hr.mono (by omega)
        clear hr hgr hzc
        refine hK _ _ (fun _ => ⟨heap_cell HX.out 0, heap_cell HX.out 1⟩) ?_
        clear hK K
        refine wpAnyT_take (i := 6) (v := .agg #[.string x, .string y]) rfl (by kernel_rfl) (by kernel_rfl) (by kernel_rfl) (by kernel_rfl) (fun _ _ _ h => h) (Or.inl ⟨by kernel_rfl, fun X hS => by obtain ⟨e0, e1⟩ := hS; go_simp⟩) ⟨heap_cell HX.out 0, heap_cell HX.out 1⟩ ?_
        try go_simp
        refine wpAnyT_one 9 rfl (by kernel_rfl) (fun K hK => ?_)
        go_simp
        refine (ofS_any a 2162 b7 2 0 2 _ w9 (by decide) (by decide) (by decide) rfl HL8.out (by decide) HR.out).mono ?_
        rintro e w10 ⟨x2, rfl, -, hx2, hr, hgr⟩
        replace HB : Hid (Below w.heap.size w w10) := HB.out.grown hgr HB.out.size (fun g hg => by cases hg; omega)
        replace HZ : Hid (w10.heap[w.heap.size]? = some (.cells #[.slice none 0 0, .slice none 0 0] 42 (0, 0))) := HR.out.box HZ.out (by decide) hgr
        replace HY : Hid (w10.heap[w.heap.size + 1]? = some (.cells #[.string ⟨#[]⟩, .string ⟨#[]⟩, .slice none 0 0] 28 (0, 0))) := HR.out.box HY.out (by decide) hgr
        replace HV : Hid (w10.ownsRow w.heap.size 69 2 (.slice va cs.length vc) cs.length (flat cs)) := HR.out.row HV.out (by decide) hgr
        replace HU : Hid (IR w10 (w.heap.size + 2) (.slice ua is.length uc) is) := HR.out.ir HU.out hgr
        replace HX : Hid (w10.heap[bx]? = some (.cells #[.slice va cs.length vc, .slice ua is.length uc] 42 (0, 0))) := HR.out.box HX.out (by decide) hgr
        replace HL8 : Hid (w10.heap[b7]? = some (.cells #[.string ⟨#[69]⟩, .string ⟨#[65]⟩] 9 (0, 0))) := HR.out.box HL8.out (by decide) hgr
        have hzc := hgr.size
        replace HR : Hid (RD w10 a (2163)) := hr.mono (by omega)
        clear hr hgr hzc
        clear HL8
        refine hK _ _ (fun _ => ⟨heap_cell HX.out 0, heap_cell HX.out 1⟩) ?_
        clear hK K
        refine wpAnyT_one 11 rfl (by kernel_rfl) (fun K hK => ?_)
        go_simp
        refine (l1Any_any a 2163 w10 (by decide) HR.out).mono ?_
        rintro e w11 ⟨y2, rfl, -, hy2, hr, hgr⟩
        replace HB : Hid (Below w.heap.size w w11) := HB.out.grown hgr HB.out.size (fun g hg => by cases hg; omega)
        replace HZ : Hid (w11.heap[w.heap.size]? = some (.cells #[.slice none 0 0, .slice none 0 0] 42 (0, 0))) := HR.out.box HZ.out (by decide) hgr
        replace HY : Hid (w11.heap[w.heap.size + 1]? = some (.cells #[.string ⟨#[]⟩, .string ⟨#[]⟩, .slice none 0 0] 28 (0, 0))) := HR.out.box HY.out (by decide) hgr
        replace HV : Hid (w11.ownsRow w.heap.size 69 2 (.slice va cs.length vc) cs.length (flat cs)) := HR.out.row HV.out (by decide) hgr
        replace HU : Hid (IR w11 (w.heap.size + 2) (.slice ua is.length uc) is) := HR.out.ir HU.out hgr
        replace HX : Hid (w11.heap[bx]? = some (.cells #[.slice va cs.length vc, .slice ua is.length uc] 42 (0, 0))) := HR.out.box HX.out (by decide) hgr
        have hzc := hgr.size
        replace HR : Hid (RD w11 a (2223)) := hr.mono (by omega)
        clear hr hgr hzc
        refine hK _ _ (fun _ => ⟨heap_cell HX.out 0, heap_cell HX.out 1⟩) ?_
        clear hK K
        refine wpAnyT_take (i := 12) (v := .agg #[.string x2, .string y2]) rfl (by kernel_rfl) (by kernel_rfl) (by kernel_rfl) (by kernel_rfl) (fun _ _ _ h => h) (Or.inl ⟨by kernel_rfl, fun X hS => by obtain ⟨e0, e1⟩ := hS; go_simp⟩) ⟨heap_cell HX.out 0, heap_cell HX.out 1⟩ ?_
        try go_simp
        refine wpAnyT_two 13 15 rfl rfl (by kernel_rfl) (fun K hK => ?_) (fun K hK => ?_)
        · go_simp
          have hzz := HB.out.size
          have hzr := lt_of_heap HY.out
          have hb : Below w11.heap.size w11 (w11.alloc (.cells #[.string x2, .string y2] 25)) := (Below.refl _ _).alloc (Nat.le_refl _) _
          have HT : Hid ((w11.alloc (.cells #[.string x2, .string y2] 25)).ownsRow w.heap.size 25 2 (.slice (some ⟨w11.heap.size, 0, none⟩) 1 1) 1 [.string x2, .string y2]) := by
            have h := ownsRow_built (base := w.heap.size) (e := 25) (size := 2) w11 #[.string x2, .string y2] 1 (by omega) (by simp [maxLen]) rfl
            show World.ownsRow _ _ _ _ _ _ _
            simpa using h
          replace HR : Hid (RD (w11.alloc (.cells #[.string x2, .string y2] 25)) a (2223)) := HR.out.below hb
          replace HB : Hid (Below w.heap.size w (w11.alloc (.cells #[.string x2, .string y2] 25))) := HB.out.trans (hb.mono HB.out.size)
          replace HZ : Hid ((w11.alloc (.cells #[.string x2, .string y2] 25)).heap[w.heap.size]? = some (.cells #[.slice none 0 0, .slice none 0 0] 42 (0, 0))) := below_heap hb (lt_of_heap HZ.out) HZ.out
          replace HY : Hid ((w11.alloc (.cells #[.string x2, .string y2] 25)).heap[w.heap.size + 1]? = some (.cells #[.string ⟨#[]⟩, .string ⟨#[]⟩, .slice none 0 0] 28 (0, 0))) := below_heap hb (lt_of_heap HY.out) HY.out
          replace HV : Hid ((w11.alloc (.cells #[.string x2, .string y2] 25)).ownsRow w.heap.size 69 2 (.slice va cs.length vc) cs.length (flat cs)) := row_below hb HV.out
          replace HU : Hid (IR (w11.alloc (.cells #[.string x2, .string y2] 25)) (w.heap.size + 2) (.slice ua is.length uc) is) := HU.out.below hb
          replace HX : Hid ((w11.alloc (.cells #[.string x2, .string y2] 25)).heap[bx]? = some (.cells #[.slice va cs.length vc, .slice ua is.length uc] 42 (0, 0))) := below_heap hb (lt_of_heap HX.out) HX.out
          clear hb
          have HNN : Hid ((w11.alloc (.cells #[.string x2, .string y2] 25)).heap[w11.heap.size]? = some (.cells #[.string x2, .string y2] 25 (0, 0))) := heap_alloc_new _ _
          generalize (w11.alloc (.cells #[.string x2, .string y2] 25)) = w12 at *
          obtain ⟨b12, hbb12⟩ : ∃ x, x = w11.heap.size := ⟨_, rfl⟩
          rw [← hbb12] at HNN HT ⊢
          have hb13 : w.heap.size + 1 < b12 := by omega
          clear hzz hzr
          clear hbb12
          refine hK _ _ (fun _ => ⟨heap_cell HX.out 0, heap_cell HX.out 1⟩) ?_
          clear hK K
          refine wpAnyT_take (i := 14) (v := .agg #[.string x, .string y, .slice (some ⟨b12, 0, none⟩) 1 1]) rfl (by kernel_rfl) (by kernel_rfl) (by kernel_rfl) (by kernel_rfl) (fun _ _ _ h => h) (Or.inl ⟨by kernel_rfl, fun X hS => by obtain ⟨e0, e1⟩ := hS; go_simp⟩) ⟨heap_cell HX.out 0, heap_cell HX.out 1⟩ ?_
          try go_simp
          refine wpAnyT_one 15 rfl (by kernel_rfl) (fun K hK => ?_)
          go_simp
          clear HR
          obtain ⟨r0, r1, z0, z1⟩ := PWo.k2 HZ.out
          have hlr := lt_of_heap HZ.out
          have hgr1 := set2_boxR w12 w.heap.size (.slice va cs.length vc) (.slice ua is.length uc)
          have NHB : Hid (Below w.heap.size w ((w12.setCell ⟨w.heap.size, 0, none⟩ (.slice va cs.length vc)).setCell ⟨w.heap.size, 1, none⟩ (.slice ua is.length uc))) := (HB.out.setCell (Nat.le_refl _) _).setCell (Nat.le_refl _) _
          have NHY : Hid (((w12.setCell ⟨w.heap.size, 0, none⟩ (.slice va cs.length vc)).setCell ⟨w.heap.size, 1, none⟩ (.slice ua is.length uc)).heap[w.heap.size + 1]? = some (.cells #[.string ⟨#[]⟩, .string ⟨#[]⟩, .slice none 0 0] 28 (0, 0))) := heap_boxR HY.out hgr1 (by omega)
          have NHV : Hid (((w12.setCell ⟨w.heap.size, 0, none⟩ (.slice va cs.length vc)).setCell ⟨w.heap.size, 1, none⟩ (.slice ua is.length uc)).ownsRow w.heap.size 69 2 (.slice va cs.length vc) cs.length (flat cs)) := row_boxR HZ.out HV.out (by decide) hgr1
          have NHU : Hid (IR ((w12.setCell ⟨w.heap.size, 0, none⟩ (.slice va cs.length vc)).setCell ⟨w.heap.size, 1, none⟩ (.slice ua is.length uc)) (w.heap.size + 2) (.slice ua is.length uc) is) := ir_boxR HZ.out HU.out (by decide) (by decide) hgr1
          have NHX : Hid (((w12.setCell ⟨w.heap.size, 0, none⟩ (.slice va cs.length vc)).setCell ⟨w.heap.size, 1, none⟩ (.slice ua is.length uc)).heap[bx]? = some (.cells #[.slice va cs.length vc, .slice ua is.length uc] 42 (0, 0))) := heap_boxR HX.out hgr1 (by omega)
          have NHNN : Hid (((w12.setCell ⟨w.heap.size, 0, none⟩ (.slice va cs.length vc)).setCell ⟨w.heap.size, 1, none⟩ (.slice ua is.length uc)).heap[b12]? = some (.cells #[.string x2, .string y2] 25 (0, 0))) := heap_boxR HNN.out hgr1 (by omega)
          have NHT : Hid (((w12.setCell ⟨w.heap.size, 0, none⟩ (.slice va cs.length vc)).setCell ⟨w.heap.size, 1, none⟩ (.slice ua is.length uc)).ownsRow w.heap.size 25 2 (.slice (some ⟨b12, 0, none⟩) 1 1) 1 [.string x2, .string y2]) := row_boxR HZ.out HT.out (by decide) hgr1
          have NHZ : Hid (((w12.setCell ⟨w.heap.size, 0, none⟩ (.slice va cs.length vc)).setCell ⟨w.heap.size, 1, none⟩ (.slice ua is.length uc)).heap[w.heap.size]? = some (.cells #[.slice va cs.length vc, .slice ua is.length uc] 42 (0, 0))) := heap_set (heap_set HZ.out 0 _) 1 _
          go_simp
          clear r0 r1 z0 z1 hlr hgr1
          clear HB HZ HY HV HU HX HNN HT
          generalize ((w12.setCell ⟨w.heap.size, 0, none⟩ (.slice va cs.length vc)).setCell ⟨w.heap.size, 1, none⟩ (.slice ua is.length uc)) = w13 at *
          have HB := hid NHB.out
          have HZ := hid NHZ.out
          have HY := hid NHY.out
          have HV := hid NHV.out
          have HU := hid NHU.out
          have HX := hid NHX.out
          have HNN := hid NHNN.out
          have HT := hid NHT.out
          clear NHB NHZ NHY NHV NHU NHX NHNN NHT
          refine hK _ _ (fun _ => ⟨heap_cell HX.out 0, heap_cell HX.out 1⟩) ?_
          clear hK K
          refine wpAnyT_drop _ 16 _ _ _ (by decide) (by kernel_rfl) ?_
          change wpList _ _ _ [_] _ _
          obtain ⟨y0, y1, yy2, u0, u1, uu2⟩ := PIn.k3 HY.out
          have hly := lt_of_heap HY.out
          go_wp2
          have hg2 := set3_boxR w13 (w.heap.size + 1) (.string x) (.string y) (.slice (some ⟨b12, 0, none⟩) 1 1)
          refine bodyPost_ret (results_row_row rfl _ _ w.heap.size (w.heap.size + 1) 42 28 #[.slice va cs.length vc, .slice ua is.length uc] #[.string x, .string y, .slice (some ⟨b12, 0, none⟩) 1 1] (0, 0) (0, 0) _ _ rfl (heap_boxR HZ.out hg2 (by omega)) Tryd.underlying42 rfl (by kernel_rfl) rfl (heap_set (heap_set (heap_set HY.out 0 _) 1 _) 2 _) Tryd.underlying28 rfl (by kernel_rfl)) rfl ?_
          exact ⟨.slice va cs.length vc, .slice ua is.length uc, cs, is, x, y, .slice (some ⟨b12, 0, none⟩) 1 1, [(x2, y2)], rfl, ⟨row_boxR HY.out HV.out (by decide) hg2, IR_mono (ir3 HY.out HU.out hg2 (by omega)) (by omega), h1, h0, h2, h3⟩, ⟨row_boxR HY.out HT.out (by decide) hg2, by omega, hy, by simp, fun p hp => by simp at hp; subst hp; exact ⟨by show x2.size ≤ 200; omega, hy2⟩⟩, ((HB.out.setCell (Nat.le_succ _) _).setCell (Nat.le_succ _) _).setCell (Nat.le_succ _) _⟩
        · go_simp
          clear HR
          obtain ⟨r0, r1, z0, z1⟩ := PWo.k2 HZ.out
          have hlr := lt_of_heap HZ.out
          have hgr1 := set2_boxR w11 w.heap.size (.slice va cs.length vc) (.slice ua is.length uc)
          have NHB : Hid (Below w.heap.size w ((w11.setCell ⟨w.heap.size, 0, none⟩ (.slice va cs.length vc)).setCell ⟨w.heap.size, 1, none⟩ (.slice ua is.length uc))) := (HB.out.setCell (Nat.le_refl _) _).setCell (Nat.le_refl _) _
          have NHY : Hid (((w11.setCell ⟨w.heap.size, 0, none⟩ (.slice va cs.length vc)).setCell ⟨w.heap.size, 1, none⟩ (.slice ua is.length uc)).heap[w.heap.size + 1]? = some (.cells #[.string ⟨#[]⟩, .string ⟨#[]⟩, .slice none 0 0] 28 (0, 0))) := heap_boxR HY.out hgr1 (by omega)
          have NHV : Hid (((w11.setCell ⟨w.heap.size, 0, none⟩ (.slice va cs.length vc)).setCell ⟨w.heap.size, 1, none⟩ (.slice ua is.length uc)).ownsRow w.heap.size 69 2 (.slice va cs.length vc) cs.length (flat cs)) := row_boxR HZ.out HV.out (by decide) hgr1
          have NHU : Hid (IR ((w11.setCell ⟨w.heap.size, 0, none⟩ (.slice va cs.length vc)).setCell ⟨w.heap.size, 1, none⟩ (.slice ua is.length uc)) (w.heap.size + 2) (.slice ua is.length uc) is) := ir_boxR HZ.out HU.out (by decide) (by decide) hgr1
          have NHX : Hid (((w11.setCell ⟨w.heap.size, 0, none⟩ (.slice va cs.length vc)).setCell ⟨w.heap.size, 1, none⟩ (.slice ua is.length uc)).heap[bx]? = some (.cells #[.slice va cs.length vc, .slice ua is.length uc] 42 (0, 0))) := heap_boxR HX.out hgr1 (by omega)
          have NHZ : Hid (((w11.setCell ⟨w.heap.size, 0, none⟩ (.slice va cs.length vc)).setCell ⟨w.heap.size, 1, none⟩ (.slice ua is.length uc)).heap[w.heap.size]? = some (.cells #[.slice va cs.length vc, .slice ua is.length uc] 42 (0, 0))) := heap_set (heap_set HZ.out 0 _) 1 _
          go_simp
          clear r0 r1 z0 z1 hlr hgr1
          clear HB HZ HY HV HU HX
          generalize ((w11.setCell ⟨w.heap.size, 0, none⟩ (.slice va cs.length vc)).setCell ⟨w.heap.size, 1, none⟩ (.slice ua is.length uc)) = w12 at *
          have HB := hid NHB.out
          have HZ := hid NHZ.out
          have HY := hid NHY.out
          have HV := hid NHV.out
          have HU := hid NHU.out
          have HX := hid NHX.out
          clear NHB NHZ NHY NHV NHU NHX
          refine hK _ _ (fun _ => ⟨heap_cell HX.out 0, heap_cell HX.out 1⟩) ?_
          clear hK K
          refine wpAnyT_one 13 rfl (by kernel_rfl) (fun K hK => ?_)
          go_simp
          have hzz := HB.out.size
          have hzr := lt_of_heap HY.out
          have hb : Below w12.heap.size w12 (w12.alloc (.cells #[.string x2, .string y2] 25)) := (Below.refl _ _).alloc (Nat.le_refl _) _
          have HT : Hid ((w12.alloc (.cells #[.string x2, .string y2] 25)).ownsRow w.heap.size 25 2 (.slice (some ⟨w12.heap.size, 0, none⟩) 1 1) 1 [.string x2, .string y2]) := by
            have h := ownsRow_built (base := w.heap.size) (e := 25) (size := 2) w12 #[.string x2, .string y2] 1 (by omega) (by simp [maxLen]) rfl
            show World.ownsRow _ _ _ _ _ _ _
            simpa using h
          replace HB : Hid (Below w.heap.size w (w12.alloc (.cells #[.string x2, .string y2] 25))) := HB.out.trans (hb.mono HB.out.size)
          replace HZ : Hid ((w12.alloc (.cells #[.string x2, .string y2] 25)).heap[w.heap.size]? = some (.cells #[.slice va cs.length vc, .slice ua is.length uc] 42 (0, 0))) := below_heap hb (lt_of_heap HZ.out) HZ.out
          replace HY : Hid ((w12.alloc (.cells #[.string x2, .string y2] 25)).heap[w.heap.size + 1]? = some (.cells #[.string ⟨#[]⟩, .string ⟨#[]⟩, .slice none 0 0] 28 (0, 0))) := below_heap hb (lt_of_heap HY.out) HY.out
          replace HV : Hid ((w12.alloc (.cells #[.string x2, .string y2] 25)).ownsRow w.heap.size 69 2 (.slice va cs.length vc) cs.length (flat cs)) := row_below hb HV.out
          replace HU : Hid (IR (w12.alloc (.cells #[.string x2, .string y2] 25)) (w.heap.size + 2) (.slice ua is.length uc) is) := HU.out.below hb
          replace HX : Hid ((w12.alloc (.cells #[.string x2, .string y2] 25)).heap[bx]? = some (.cells #[.slice va cs.length vc, .slice ua is.length uc] 42 (0, 0))) := below_heap hb (lt_of_heap HX.out) HX.out
          clear hb
          have HNN : Hid ((w12.alloc (.cells #[.string x2, .string y2] 25)).heap[w12.heap.size]? = some (.cells #[.string x2, .string y2] 25 (0, 0))) := heap_alloc_new _ _
          generalize (w12.alloc (.cells #[.string x2, .string y2] 25)) = w13 at *
          obtain ⟨b13, hbb13⟩ : ∃ x, x = w12.heap.size := ⟨_, rfl⟩
          rw [← hbb13] at HNN HT ⊢
          have hb13 : w.heap.size + 1 < b13 := by omega
          clear hzz hzr
          clear hbb13
          refine hK _ _ (fun _ => ⟨heap_cell HX.out 0, heap_cell HX.out 1⟩) ?_
          clear hK K
          refine wpAnyT_take (i := 14) (v := .agg #[.string x, .string y, .slice (some ⟨b13, 0, none⟩) 1 1]) rfl (by kernel_rfl) (by kernel_rfl) (by kernel_rfl) (by kernel_rfl) (fun _ _ _ h => h) (Or.inl ⟨by kernel_rfl, fun X hS => by obtain ⟨e0, e1⟩ := hS; go_simp⟩) ⟨heap_cell HX.out 0, heap_cell HX.out 1⟩ ?_
          try go_simp
          refine wpAnyT_drop _ 16 _ _ _ (by decide) (by kernel_rfl) ?_
          change wpList _ _ _ [_] _ _
          obtain ⟨y0, y1, yy2, u0, u1, uu2⟩ := PIn.k3 HY.out
          have hly := lt_of_heap HY.out
          go_wp2
          have hg2 := set3_boxR w13 (w.heap.size + 1) (.string x) (.string y) (.slice (some ⟨b13, 0, none⟩) 1 1)
          refine bodyPost_ret (results_row_row rfl _ _ w.heap.size (w.heap.size + 1) 42 28 #[.slice va cs.length vc, .slice ua is.length uc] #[.string x, .string y, .slice (some ⟨b13, 0, none⟩) 1 1] (0, 0) (0, 0) _ _ rfl (heap_boxR HZ.out hg2 (by omega)) Tryd.underlying42 rfl (by kernel_rfl) rfl (heap_set (heap_set (heap_set HY.out 0 _) 1 _) 2 _) Tryd.underlying28 rfl (by kernel_rfl)) rfl ?_
          exact ⟨.slice va cs.length vc, .slice ua is.length uc, cs, is, x, y, .slice (some ⟨b13, 0, none⟩) 1 1, [(x2, y2)], rfl, ⟨row_boxR HY.out HV.out (by decide) hg2, IR_mono (ir3 HY.out HU.out hg2 (by omega)) (by omega), h1, h0, h2, h3⟩, ⟨row_boxR HY.out HT.out (by decide) hg2, by omega, hy, by simp, fun p hp => by simp at hp; subst hp; exact ⟨by show x2.size ≤ 200; omega, hy2⟩⟩, ((HB.out.setCell (Nat.le_succ _) _).setCell (Nat.le_succ _) _).setCell (Nat.le_succ _) _⟩
    · go_simp
      have hzz := HB.out.size
      have hb : Below w5.heap.size w5 (w5.alloc (.cells #[.string ⟨#[69]⟩, .string ⟨#[65]⟩] 9)) := (Below.refl _ _).alloc (Nat.le_refl _) _
      replace HR : Hid (RD (w5.alloc (.cells #[.string ⟨#[69]⟩, .string ⟨#[65]⟩] 9)) a (2101)) := HR.out.below hb
      replace HB : Hid (Below w.heap.size w (w5.alloc (.cells #[.string ⟨#[69]⟩, .string ⟨#[65]⟩] 9))) := HB.out.trans (hb.mono HB.out.size)
      replace HZ : Hid ((w5.alloc (.cells #[.string ⟨#[69]⟩, .string ⟨#[65]⟩] 9)).heap[w.heap.size]? = some (.cells #[.slice none 0 0, .slice none 0 0] 42 (0, 0))) := below_heap hb (lt_of_heap HZ.out) HZ.out
      replace HY : Hid ((w5.alloc (.cells #[.string ⟨#[69]⟩, .string ⟨#[65]⟩] 9)).heap[w.heap.size + 1]? = some (.cells #[.string ⟨#[]⟩, .string ⟨#[]⟩, .slice none 0 0] 28 (0, 0))) := below_heap hb (lt_of_heap HY.out) HY.out
      replace HV : Hid ((w5.alloc (.cells #[.string ⟨#[69]⟩, .string ⟨#[65]⟩] 9)).ownsRow w.heap.size 69 2 (.slice va cs.length vc) cs.length (flat cs)) := row_below hb HV.out
      replace HU : Hid (IR (w5.alloc (.cells #[.string ⟨#[69]⟩, .string ⟨#[65]⟩] 9)) (w.heap.size + 2) (.slice ua is.length uc) is) := HU.out.below hb
      replace HX : Hid ((w5.alloc (.cells #[.string ⟨#[69]⟩, .string ⟨#[65]⟩] 9)).heap[bx]? = some (.cells #[.slice va cs.length vc, .slice ua is.length uc] 42 (0, 0))) := below_heap hb (lt_of_heap HX.out) HX.out
      clear hb
      have HL8 : Hid ((w5.alloc (.cells #[.string ⟨#[69]⟩, .string ⟨#[65]⟩] 9)).heap[w5.heap.size]? = some (.cells #[.string ⟨#[69]⟩, .string ⟨#[65]⟩] 9 (0, 0))) := heap_alloc_new _ _
      generalize (w5.alloc (.cells #[.string ⟨#[69]⟩, .string ⟨#[65]⟩] 9)) = w6 at *
      obtain ⟨b6, hbb6⟩ : ∃ x, x = w5.heap.size := ⟨_, rfl⟩
      rw [← hbb6] at HL8 ⊢
      clear hzz
      clear hbb6
      refine hK _ _ (fun _ => ⟨heap_cell HX.out 0, heap_cell HX.out 1⟩) ?_
      clear hK K
      refine wpAnyT_one 2 rfl (by kernel_rfl) (fun K hK => ?_)
      go_simp
      have hzz := HB.out.size
      have hb : Below w6.heap.size w6 (w6.alloc (.cells #[.string ⟨#[69]⟩, .string ⟨#[65]⟩, .string ⟨#[90]⟩] 9)) := (Below.refl _ _).alloc (Nat.le_refl _) _
      replace HR : Hid (RD (w6.alloc (.cells #[.string ⟨#[69]⟩, .string ⟨#[65]⟩, .string ⟨#[90]⟩] 9)) a (2101)) := HR.out.below hb
      replace HB : Hid (Below w.heap.size w (w6.alloc (.cells #[.string ⟨#[69]⟩, .string ⟨#[65]⟩, .string ⟨#[90]⟩] 9))) := HB.out.trans (hb.mono HB.out.size)
      replace HZ : Hid ((w6.alloc (.cells #[.string ⟨#[69]⟩, .string ⟨#[65]⟩, .string ⟨#[90]⟩] 9)).heap[w.heap.size]? = some (.cells #[.slice none 0 0, .slice none 0 0] 42 (0, 0))) := below_heap hb (lt_of_heap HZ.out) HZ.out
      replace HY : Hid ((w6.alloc (.cells #[.string ⟨#[69]⟩, .string ⟨#[65]⟩, .string ⟨#[90]⟩] 9)).heap[w.heap.size + 1]? = some (.cells #[.string ⟨#[]⟩, .string ⟨#[]⟩, .slice none 0 0] 28 (0, 0))) := below_heap hb (lt_of_heap HY.out) HY.out
      replace HV : Hid ((w6.alloc (.cells #[.string ⟨#[69]⟩, .string ⟨#[65]⟩, .string ⟨#[90]⟩] 9)).ownsRow w.heap.size 69 2 (.slice va cs.length vc) cs.length (flat cs)) := row_below hb HV.out
      replace HU : Hid (IR (w6.alloc (.cells #[.string ⟨#[69]⟩, .string ⟨#[65]⟩, .string ⟨#[90]⟩] 9)) (w.heap.size + 2) (.slice ua is.length uc) is) := HU.out.below hb
      replace HX : Hid ((w6.alloc (.cells #[.string ⟨#[69]⟩, .string ⟨#[65]⟩, .string ⟨#[90]⟩] 9)).heap[bx]? = some (.cells #[.slice va cs.length vc, .slice ua is.length uc] 42 (0, 0))) := below_heap hb (lt_of_heap HX.out) HX.out
      replace HL8 : Hid ((w6.alloc (.cells #[.string ⟨#[69]⟩, .string ⟨#[65]⟩, .string ⟨#[90]⟩] 9)).heap[b6]? = some (.cells #[.string ⟨#[69]⟩, .string ⟨#[65]⟩] 9 (0, 0))) := below_heap hb (lt_of_heap HL8.out) HL8.out
      clear hb
      have HL2 : Hid ((w6.alloc (.cells #[.string ⟨#[69]⟩, .string ⟨#[65]⟩, .string ⟨#[90]⟩] 9)).heap[w6.heap.size]? = some (.cells #[.string ⟨#[69]⟩, .string ⟨#[65]⟩, .string ⟨#[90]⟩] 9 (0, 0))) := heap_alloc_new _ _
      generalize (w6.alloc (.cells #[.string ⟨#[69]⟩, .string ⟨#[65]⟩, .string ⟨#[90]⟩] 9)) = w7 at *
      obtain ⟨b7, hbb7⟩ : ∃ x, x = w6.heap.size := ⟨_, rfl⟩
      rw [← hbb7] at HL2 ⊢
      clear hzz
      clear hbb7
      refine hK _ _ (fun _ => ⟨heap_cell HX.out 0, heap_cell HX.out 1⟩) ?_
      clear hK K
      refine wpAnyT_one 3 rfl (by kernel_rfl) (fun K hK => ?_)
      go_simp
      refine (ofS_any a 2101 b7 3 0 2 _ w7 (by decide) (by decide) (by decide) rfl HL2.out (by decide) HR.out).mono ?_
      rintro e w8 ⟨x, rfl, -, hx, hr, hgr⟩
      replace HB : Hid (Below w.heap.size w w8) := HB.out.grown hgr HB.out.size (fun g hg => by cases hg; omega)
      replace HZ : Hid (w8.heap[w.heap.size]? = some (.cells #[.slice none 0 0, .slice none 0 0] 42 (0, 0))) := HR.out.box HZ.out (by decide) hgr
      replace HY : Hid (w8.heap[w.heap.size + 1]? = some (.cells #[.string ⟨#[]⟩, .string ⟨#[]⟩, .slice none 0 0] 28 (0, 0))) := HR.out.box HY.out (by decide) hgr
      replace HV : Hid (w8.ownsRow w.heap.size 69 2 (.slice va cs.length vc) cs.length (flat cs)) := HR.out.row HV.out (by decide) hgr
      replace HU : Hid (IR w8 (w.heap.size + 2) (.slice ua is.length uc) is) := HR.out.ir HU.out hgr
      replace HX : Hid (w8.heap[bx]? = some (.cells #[.slice va cs.length vc, .slice ua is.length uc] 42 (0, 0))) := HR.out.box HX.out (by decide) hgr
      replace HL8 : Hid (w8.heap[b6]? = some (.cells #[.string ⟨#[69]⟩, .string ⟨#[65]⟩] 9 (0, 0))) := HR.out.box HL8.out (by decide) hgr
      replace HL2 : Hid (w8.heap[b7]? = some (.cells #[.string ⟨#[69]⟩, .string ⟨#[65]⟩, .string ⟨#[90]⟩] 9 (0, 0))) := HR.out.box HL2.out (by decide) hgr
      have hzc := hgr.size
      replace HR : Hid (RD w8 a (2102)) := hr.mono (by omega)
      clear hr hgr hzc
      clear HL2
      refine hK _ _ (fun _ => ⟨heap_cell HX.out 0, heap_cell HX.out 1⟩) ?_
      clear hK K
      refine wpAnyT_one 5 rfl (by kernel_rfl) (fun K hK => ?_)
      go_simp
      refine (l1Any_any a 2102 w8 (by decide) HR.out).mono ?_
      rintro e w9 ⟨y, rfl, -, hy, hr, hgr⟩
      replace HB : Hid (Below w.heap.size w w9) := HB.out.grown hgr HB.out.size (fun g hg => by cases hg; omega)
      replace HZ : Hid (w9.heap[w.heap.size]? = some (.cells #[.slice none 0 0, .slice none 0 0] 42 (0, 0))) := HR.out.box HZ.out (by decide) hgr
      replace HY : Hid (w9.heap[w.heap.size + 1]? = some (.cells #[.string ⟨#[]⟩, .string ⟨#[]⟩, .slice none 0 0] 28 (0, 0))) := HR.out.box HY.out (by decide) hgr
      replace HV : Hid (w9.ownsRow w.heap.size 69 2 (.slice va cs.length vc) cs.length (flat cs)) := HR.out.row HV.out (by decide) hgr
      replace HU : Hid (IR w9 (w.heap.size + 2) (.slice ua is.length uc) is) := HR.out.ir HU.out hgr
      replace HX : Hid (w9.heap[bx]? = some (.cells #[.slice va cs.length vc, .slice ua is.length uc] 42 (0, 0))) := HR.out.box HX.out (by decide) hgr
      replace HL8 : Hid (w9.heap[b6]? = some (.cells #[.string ⟨#[69]⟩, .string ⟨#[65]⟩] 9 (0, 0))) := HR.out.box HL8.out (by decide) hgr
      have hzc := hgr.size
      replace HR : Hid (RD w9 a (2162)) := hr.mono (by omega)
      clear hr hgr hzc
      refine hK _ _ (fun _ => ⟨heap_cell HX.out 0, heap_cell HX.out 1⟩) ?_
      clear hK K
      refine wpAnyT_take (i := 6) (v := .agg #[.string x, .string y]) rfl (by kernel_rfl) (by kernel_rfl) (by kernel_rfl) (by kernel_rfl) (fun _ _ _ h => h) (Or.inl ⟨by kernel_rfl, fun X hS => by obtain ⟨e0, e1⟩ := hS; go_simp⟩) ⟨heap_cell HX.out 0, heap_cell HX.out 1⟩ ?_
      try go_simp
      refine wpAnyT_one 9 rfl (by kernel_rfl) (fun K hK => ?_)
      go_simp
      refine (ofS_any a 2162 b6 2 0 2 _ w9 (by decide) (by decide) (by decide) rfl HL8.out (by decide) HR.out).mono ?_
      rintro e w10 ⟨x2, rfl, -, hx2, hr, hgr⟩
      replace HB : Hid (Below w.heap.size w w10) := HB.out.grown hgr HB.out.size (fun g hg => by cases hg; omega)
      replace HZ : Hid (w10.heap[w.heap.size]? = some (.cells #[.slice none 0 0, .slice none 0 0] 42 (0, 0))) := HR.out.box HZ.out (by decide) hgr
      replace HY : Hid (w10.heap[w.heap.size + 1]? = some (.cells #[.string ⟨#[]⟩, .string ⟨#[]⟩, .slice none 0 0] 28 (0, 0))) := HR.out.box HY.out (by decide) hgr
      replace HV : Hid (w10.ownsRow w.heap.size 69 2 (.slice va cs.length vc) cs.length (flat cs)) := HR.out.row HV.out (by decide) hgr
      replace HU : Hid (IR w10 (w.heap.size + 2) (.slice ua is.length uc) is) := HR.out.ir HU.out hgr
      replace HX : Hid (w10.heap[bx]? = some (.cells #[.slice va cs.length vc, .slice ua is.length uc] 42 (0, 0))) := HR.out.box HX.out (by decide) hgr
      replace HL8 : Hid (w10.heap[b6]? = some (.cells #[.string ⟨#[69]⟩, .string ⟨#[65]⟩] 9 (0, 0))) := HR.out.box HL8.out (by decide) hgr
      have hzc := hgr.size
      replace HR : Hid (RD w10 a (2163)) := hr.mono (by omega)
      clear hr hgr hzc
      clear HL8
      refine hK _ _ (fun _ => ⟨heap_cell HX.out 0, heap_cell HX.out 1⟩) ?_
      clear hK K
      refine wpAnyT_one 11 rfl (by kernel_rfl) (fun K hK => ?_)
      go_simp
      refine (l1Any_any a 2163 w10 (by decide) HR.out).mono ?_
      rintro e w11 ⟨y2, rfl, -, hy2, hr, hgr⟩
      replace HB : Hid (Below w.heap.size w w11) := HB.out.grown hgr HB.out.size (fun g hg => by cases hg; omega)
      replace HZ : Hid (w11.heap[w.heap.size]? = some (.cells #[.slice none 0 0, .slice none 0 0] 42 (0, 0))) := HR.out.box HZ.out (by decide) hgr
      replace HY : Hid (w11.heap[w.heap.size + 1]? = some (.cells #[.string ⟨#[]⟩, .string ⟨#[]⟩, .slice none 0 0] 28 (0, 0))) := HR.out.box HY.out (by decide) hgr
      replace HV : Hid (w11.ownsRow w.heap.size 69 2 (.slice va cs.length vc) cs.length (flat cs)) := HR.out.row HV.out (by decide) hgr
      replace HU : Hid (IR w11 (w.heap.size + 2) (.slice ua is.length uc) is) := HR.out.ir HU.out hgr
      replace HX : Hid (w11.heap[bx]? = some (.cells #[.slice va cs.length vc, .slice ua is.length uc] 42 (0, 0))) := HR.out.box HX.out (by decide) hgr
      have hzc := hgr.size
      replace HR : Hid (RD w11 a (2223)) := hr.mono (by omega)
      clear hr hgr hzc
      refine hK _ _ (fun _ => ⟨heap_cell HX.out 0, heap_cell HX.out 1⟩) ?_
      clear hK K
      refine wpAnyT_take (i := 12) (v := .agg #[.string x2, .string y2]) rfl (by kernel_rfl) (by kernel_rfl) (by kernel_rfl) (by kernel_rfl) (fun _ _ _ h => h) (Or.inl ⟨by kernel_rfl, fun X hS => by obtain ⟨e0, e1⟩ := hS; go_simp⟩) ⟨heap_cell HX.out 0, heap_cell HX.out 1⟩ ?_
      try go_simp
      refine wpAnyT_two 13 15 rfl rfl (by kernel_rfl) (fun K hK => ?_) (fun K hK => ?_)
      · go_simp
        have hzz := HB.out.size
        have hzr := lt_of_heap HY.out
        have hb : Below w11.heap.size w11 (w11.alloc (.cells #[.string x2, .string y2] 25)) := (Below.refl _ _).alloc (Nat.le_refl _) _
        have HT : Hid ((w11.alloc (.cells #[.string x2, .string y2] 25)).ownsRow w.heap.size 25 2 (.slice (some ⟨w11.heap.size, 0, none⟩) 1 1) 1 [.string x2, .string y2]) := by
          have h := ownsRow_built (base := w.heap.size) (e := 25) (size := 2) w11 #[.string x2, .string y2] 1 (by omega) (by simp [maxLen]) rfl
          show World.ownsRow _ _ _ _ _ _ _
          simpa using h
        replace HR : Hid (RD (w11.alloc (.cells #[.string x2, .string y2] 25)) a (2223)) := HR.out.below hb
        replace HB : Hid (Below w.heap.size w (w11.alloc (.cells #[.string x2, .string y2] 25))) := HB.out.trans (hb.mono HB.out.size)
        replace HZ : Hid ((w11.alloc (.cells #[.string x2, .string y2] 25)).heap[w.heap.size]? = some (.cells #[.slice none 0 0, .slice none 0 0] 42 (0, 0))) := below_heap hb (lt_of_heap HZ.out) HZ.out
        replace HY : Hid ((w11.alloc (.cells #[.string x2, .string y2] 25)).heap[w.heap.size + 1]? = some (.cells #[.string ⟨#[]⟩, .string ⟨#[]⟩, .slice none 0 0] 28 (0, 0))) := below_heap hb (lt_of_heap HY.out) HY.out
        replace HV : Hid ((w11.alloc (.cells #[.string x2, .string y2] 25)).ownsRow w.heap.size 69 2 (.slice va cs.length vc) cs.length (flat cs)) := row_below hb HV.out
        replace HU : Hid (IR (w11.alloc (.cells #[.string x2, .string y2] 25)) (w.heap.size + 2) (.slice ua is.length uc) is) := HU.out.below hb
        replace HX : Hid ((w11.alloc (.cells #[.string x2, .string y2] 25)).heap[bx]? = some (.cells #[.slice va cs.length vc, .slice ua is.length uc] 42 (0, 0))) := below_heap hb (lt_of_heap HX.out) HX.out
        clear hb
        have HNN : Hid ((w11.alloc (.cells #[.string x2, .string y2] 25)).heap[w11.heap.size]? = some (.cells #[.string x2, .string y2] 25 (0, 0))) := heap_alloc_new _ _
        generalize (w11.alloc (.cells #[.string x2, .string y2] 25)) = w12 at *
        obtain ⟨b12, hbb12⟩ : ∃ x, x = w11.heap.size := ⟨_, rfl⟩
        rw [← hbb12] at HNN HT ⊢
        have hb13 : w.heap.size + 1 < b12 := by omega
        clear hzz hzr
        clear hbb12
        refine hK _ _ (fun _ => ⟨heap_cell HX.out 0, heap_cell HX.out 1⟩) ?_
        clear hK K
        refine wpAnyT_take (i := 14) (v := .agg #[.string x, .string y, .slice (some ⟨b12, 0, none⟩) 1 1]) rfl (by kernel_rfl) (by kernel_rfl) (by kernel_rfl) (by kernel_rfl) (fun _ _ _ h => h) (Or.inl ⟨by kernel_rfl, fun X hS => by obtain ⟨e0, e1⟩ := hS; go_simp⟩) ⟨heap_cell HX.out 0, heap_cell HX.out 1⟩ ?_
        try go_simp
        refine wpAnyT_one 15 rfl (by kernel_rfl) (fun K hK => ?_)
        go_simp
        clear HR
        obtain ⟨r0, r1, z0, z1⟩ := PWo.k2 HZ.out
        have hlr := lt_of_heap HZ.out
        have hgr1 := set2_boxR w12 w.heap.size (.slice va cs.length vc) (.slice ua is.length uc)
        have NHB : Hid (Below w.heap.size w ((w12.setCell ⟨w.heap.size, 0, none⟩ (.slice va cs.length vc)).setCell ⟨w.heap.size, 1, none⟩ (.slice ua is.length uc))) := (HB.out.setCell (Nat.le_refl _) _).setCell (Nat.le_refl _) _
        have NHY : Hid (((w12.setCell ⟨w.heap.size, 0, none⟩ (.slice va cs.length vc)).setCell ⟨w.heap.size, 1, none⟩ (.slice ua is.length uc)).heap[w.heap.size + 1]? = some (.cells #[.string ⟨#[]⟩, .string ⟨#[]⟩, .slice none 0 0] 28 (0, 0))) := heap_boxR HY.out hgr1 (by omega)
        have NHV : Hid (((w12.setCell ⟨w.heap.size, 0, none⟩ (.slice va cs.length vc)).setCell ⟨w.heap.size, 1, none⟩ (.slice ua is.length uc)).ownsRow w.heap.size 69 2 (.slice va cs.length vc) cs.length (flat cs)) := row_boxR HZ.out HV.out (by decide) hgr1
        have NHU : Hid (IR ((w12.setCell ⟨w.heap.size, 0, none⟩ (.slice va cs.length vc)).setCell ⟨w.heap.size, 1, none⟩ (.slice ua is.length uc)) (w.heap.size + 2) (.slice ua is.length uc) is) := ir_boxR HZ.out HU.out (by decide) (by decide) hgr1
        have NHX : Hid (((w12.setCell ⟨w.heap.size, 0, none⟩ (.slice va cs.length vc)).setCell ⟨w.heap.size, 1, none⟩ (.slice ua is.length uc)).heap[bx]? = some (.cells #[.slice va cs.length vc, .slice ua is.length uc] 42 (0, 0))) := heap_boxR HX.out hgr1 (by omega)
        have NHNN : Hid (((w12.setCell ⟨w.heap.size, 0, none⟩ (.slice va cs.length vc)).setCell ⟨w.heap.size, 1, none⟩ (.slice ua is.length uc)).heap[b12]? = some (.cells #[.string x2, .string y2] 25 (0, 0))) := heap_boxR HNN.out hgr1 (by omega)
        have NHT : Hid (((w12.setCell ⟨w.heap.size, 0, none⟩ (.slice va cs.length vc)).setCell ⟨w.heap.size, 1, none⟩ (.slice ua is.length uc)).ownsRow w.heap.size 25 2 (.slice (some ⟨b12, 0, none⟩) 1 1) 1 [.string x2, .string y2]) := row_boxR HZ.out HT.out (by decide) hgr1
        have NHZ : Hid (((w12.setCell ⟨w.heap.size, 0, none⟩ (.slice va cs.length vc)).setCell ⟨w.heap.size, 1, none⟩ (.slice ua is.length uc)).heap[w.heap.size]? = some (.cells #[.slice va cs.length vc, .slice ua is.length uc] 42 (0, 0))) := heap_set (heap_set HZ.out 0 _) 1 _
        go_simp
        clear r0 r1 z0 z1 hlr hgr1
        clear HB HZ HY HV HU HX HNN HT
        generalize ((w12.setCell ⟨w.heap.size, 0, none⟩ (.slice va cs.length vc)).setCell ⟨w.heap.size, 1, none⟩ (.slice ua is.length uc)) = w13 at *
        have HB := hid NHB.out
        have HZ := hid NHZ.out
        have HY := hid NHY.out
        have HV := hid NHV.out
        have HU := hid NHU.out
        have HX := hid NHX.out
        have HNN := hid NHNN.out
        have HT := hid NHT.out
        clear NHB NHZ NHY NHV NHU NHX NHNN NHT
        refine hK _ _ (fun _ => ⟨heap_cell HX.out 0, heap_cell HX.out 1⟩) ?_
        clear hK K
        refine wpAnyT_drop _ 16 _ _ _ (by decide) (by kernel_rfl) ?_
        change wpList _ _ _ [_] _ _
        obtain ⟨y0, y1, yy2, u0, u1, uu2⟩ := PIn.k3 HY.out
        have hly := lt_of_heap HY.out
        go_wp2
        have hg2 := set3_boxR w13 (w.heap.size + 1) (.string x) (.string y) (.slice (some ⟨b12, 0, none⟩) 1 1)
        refine bodyPost_ret (results_row_row rfl _ _ w.heap.size (w.heap.size + 1) 42 28 #[.slice va cs.length vc, .slice ua is.length uc] #[.string x, .string y, .slice (some ⟨b12, 0, none⟩) 1 1] (0, 0) (0, 0) _ _ rfl (heap_boxR HZ.out hg2 (by omega)) Tryd.underlying42 rfl (by kernel_rfl) rfl (heap_set (heap_set (heap_set HY.out 0 _) 1 _) 2 _) Tryd.underlying28 rfl (by kernel_rfl)) rfl ?_
        exact ⟨.slice va cs.length vc, .slice ua is.length uc, cs, is, x, y, .slice (some ⟨b12, 0, none⟩) 1 1, [(x2, y2)], rfl, ⟨row_boxR HY.out HV.out (by decide) hg2, IR_mono (ir3 HY.out HU.out hg2 (by omega)) (by omega), h1, h0, h2, h3⟩, ⟨row_boxR HY.out HT.out (by decide) hg2, by omega, hy, by simp, fun p hp => by simp at hp; subst hp; exact ⟨by show x2.size ≤ 200; omega, hy2⟩⟩, ((HB.out.setCell (Nat.le_succ _) _).setCell (Nat.le_succ _) _).setCell (Nat.le_succ _) _⟩
      · go_simp
        clear HR
        obtain ⟨r0, r1, z0, z1⟩ := PWo.k2 HZ.out
        have hlr := lt_of_heap HZ.out
        have hgr1 := set2_boxR w11 w.heap.size (.slice va cs.length vc) (.slice ua is.length uc)
        have NHB : Hid (Below w.heap.size w ((w11.setCell ⟨w.heap.size, 0, none⟩ (.slice va cs.length vc)).setCell ⟨w.heap.size, 1, none⟩ (.slice ua is.length uc))) := (HB.out.setCell (Nat.le_refl _) _).setCell (Nat.le_refl _) _
        have NHY : Hid (((w11.setCell ⟨w.heap.size, 0, none⟩ (.slice va cs.length vc)).setCell ⟨w.heap.size, 1, none⟩ (.slice ua is.length uc)).heap[w.heap.size + 1]? = some (.cells #[.string ⟨#[]⟩, .string ⟨#[]⟩, .slice none 0 0] 28 (0, 0))) := heap_boxR HY.out hgr1 (by omega)
        have NHV : Hid (((w11.setCell ⟨w.heap.size, 0, none⟩ (.slice va cs.length vc)).setCell ⟨w.heap.size, 1, none⟩ (.slice ua is.length uc)).ownsRow w.heap.size 69 2 (.slice va cs.length vc) cs.length (flat cs)) := row_boxR HZ.out HV.out (by decide) hgr1
        have NHU : Hid (IR ((w11.setCell ⟨w.heap.size, 0, none⟩ (.slice va cs.length vc)).setCell ⟨w.heap.size, 1, none⟩ (.slice ua is.length uc)) (w.heap.size + 2) (.slice ua is.length uc) is) := ir_boxR HZ.out HU.out (by decide) (by decide) hgr1
        have NHX : Hid (((w11.setCell ⟨w.heap.size, 0, none⟩ (.slice va cs.length vc)).setCell ⟨w.heap.size, 1, none⟩ (.slice ua is.length uc)).heap[bx]? = some (.cells #[.slice va cs.length vc, .slice ua is.length uc] 42 (0, 0))) := heap_boxR HX.out hgr1 (by omega)
        have NHZ : Hid (((w11.setCell ⟨w.heap.size, 0, none⟩ (.slice va cs.length vc)).setCell ⟨w.heap.size, 1, none⟩ (.slice ua is.length uc)).heap[w.heap.size]? = some (.cells #[.slice va cs.length vc, .slice ua is.length uc] 42 (0, 0))) := heap_set (heap_set HZ.out 0 _) 1 _
        go_simp
        clear r0 r1 z0 z1 hlr hgr1
        clear HB HZ HY HV HU HX
        generalize ((w11.setCell ⟨w.heap.size, 0, none⟩ (.slice va cs.length vc)).setCell ⟨w.heap.size, 1, none⟩ (.slice ua is.length uc)) = w12 at *
        have HB := hid NHB.out
        have HZ := hid NHZ.out
        have HY := hid NHY.out
        have HV := hid NHV.out
        have HU := hid NHU.out
        have HX := hid NHX.out
        clear NHB NHZ NHY NHV NHU NHX
        refine hK _ _ (fun _ => ⟨heap_cell HX.out 0, heap_cell HX.out 1⟩) ?_
        clear hK K
        refine wpAnyT_one 13 rfl (by kernel_rfl) (fun K hK => ?_)
        go_simp
        have hzz := HB.out.size
        have hzr := lt_of_heap HY.out
        have hb : Below w12.heap.size w12 (w12.alloc (.cells #[.string x2, .string y2] 25)) := (Below.refl _ _).alloc (Nat.le_refl _) _
        have HT : Hid ((w12.alloc (.cells #[.string x2, .string y2] 25)).ownsRow w.heap.size 25 2 (.slice (some ⟨w12.heap.size, 0, none⟩) 1 1) 1 [.string x2, .string y2]) := by
          have h := ownsRow_built (base := w.heap.size) (e := 25) (size := 2) w12 #[.string x2, .string y2] 1 (by omega) (by simp [maxLen]) rfl
          show World.ownsRow _ _ _ _ _ _ _
          simpa using h
        replace HB : Hid (Below w.heap.size w (w12.alloc (.cells #[.string x2, .string y2] 25))) := HB.out.trans (hb.mono HB.out.size)
        replace HZ : Hid ((w12.alloc (.cells #[.string x2, .string y2] 25)).heap[w.heap.size]? = some (.cells #[.slice va cs.length vc, .slice ua is.length uc] 42 (0, 0))) := below_heap hb (lt_of_heap HZ.out) HZ.out
        replace HY : Hid ((w12.alloc (.cells #[.string x2, .string y2] 25)).heap[w.heap.size + 1]? = some (.cells #[.string ⟨#[]⟩, .string ⟨#[]⟩, .slice none 0 0] 28 (0, 0))) := below_heap hb (lt_of_heap HY.out) HY.out
        replace HV : Hid ((w12.alloc (.cells #[.string x2, .string y2] 25)).ownsRow w.heap.size 69 2 (.slice va cs.length vc) cs.length (flat cs)) := row_below hb HV.out
        replace HU : Hid (IR (w12.alloc (.cells #[.string x2, .string y2] 25)) (w.heap.size + 2) (.slice ua is.length uc) is) := HU.out.below hb
        replace HX : Hid ((w12.alloc (.cells #[.string x2, .string y2] 25)).heap[bx]? = some (.cells #[.slice va cs.length vc, .slice ua is.length uc] 42 (0, 0))) := below_heap hb (lt_of_heap HX.out) HX.out
        clear hb
        have HNN : Hid ((w12.alloc (.cells #[.string x2, .string y2] 25)).heap[w12.heap.size]? = some (.cells #[.string x2, .string y2] 25 (0, 0))) := heap_alloc_new _ _
        generalize (w12.alloc (.cells #[.string x2, .string y2] 25)) = w13 at *
        obtain ⟨b13, hbb13⟩ : ∃ x, x = w12.heap.size := ⟨_, rfl⟩
        rw [← hbb13] at HNN HT ⊢
        have hb13 : w.heap.size + 1 < b13 := by omega
        clear hzz hzr
        clear hbb13
        refine hK _ _ (fun _ => ⟨heap_cell HX.out 0, heap_cell HX.out 1⟩) ?_
        clear hK K
        refine wpAnyT_take (i := 14) (v := .agg #[.string x, .string y, .slice (some ⟨b13, 0, none⟩) 1 1]) rfl (by kernel_rfl) (by kernel_rfl) (by kernel_rfl) (by kernel_rfl) (fun _ _ _ h => h) (Or.inl ⟨by kernel_rfl, fun X hS => by obtain ⟨e0, e1⟩ := hS; go_simp⟩) ⟨heap_cell HX.out 0, heap_cell HX.out 1⟩ ?_
        try go_simp
        refine wpAnyT_drop _ 16 _ _ _ (by decide) (by kernel_rfl) ?_
        change wpList _ _ _ [_] _ _
        obtain ⟨y0, y1, yy2, u0, u1, uu2⟩ := PIn.k3 HY.out
        have hly := lt_of_heap HY.out
        go_wp2
        have hg2 := set3_boxR w13 (w.heap.size + 1) (.string x) (.string y) (.slice (some ⟨b13, 0, none⟩) 1 1)
        refine bodyPost_ret (results_row_row rfl _ _ w.heap.size (w.heap.size + 1) 42 28 #[.slice va cs.length vc, .slice ua is.length uc] #[.string x, .string y, .slice (some ⟨b13, 0, none⟩) 1 1] (0, 0) (0, 0) _ _ rfl (heap_boxR HZ.out hg2 (by omega)) Tryd.underlying42 rfl (by kernel_rfl) rfl (heap_set (heap_set (heap_set HY.out 0 _) 1 _) 2 _) Tryd.underlying28 rfl (by kernel_rfl)) rfl ?_
        exact ⟨.slice va cs.length vc, .slice ua is.length uc, cs, is, x, y, .slice (some ⟨b13, 0, none⟩) 1 1, [(x2, y2)], rfl, ⟨row_boxR HY.out HV.out (by decide) hg2, IR_mono (ir3 HY.out HU.out hg2 (by omega)) (by omega), h1, h0, h2, h3⟩, ⟨row_boxR HY.out HT.out (by decide) hg2, by omega, hy, by simp, fun p hp => by simp at hp; subst hp; exact ⟨by show x2.size ≤ 200; omega, hy2⟩⟩, ((HB.out.setCell (Nat.le_succ _) _).setCell (Nat.le_succ _) _).setCell (Nat.le_succ _) _⟩
  have hj1 : ((j : Int) == 0) = false := by rw [beq_eq_false_iff_ne]; omega
  go_wp2_with fail
  refine wp_region_any (by kernel_rfl) ?_
  change wpAny _ _ _ _ _ _ _ (World.drew _)
  have hb : Below w4.heap.size w4 w4.drew := (Below.refl _ _).drew
  replace HR : Hid (RD w4.drew a (2101)) := HR.out.below hb
  replace HB : Hid (Below w.heap.size w w4.drew) := HB.out.trans (hb.mono HB.out.size)
  replace HZ : Hid (w4.drew.heap[w.heap.size]? = some (.cells #[.slice none 0 0, .slice none 0 0] 42 (0, 0))) := below_heap hb (lt_of_heap HZ.out) HZ.out
  replace HY : Hid (w4.drew.heap[w.heap.size + 1]? = some (.cells #[.string ⟨#[]⟩, .string ⟨#[]⟩, .slice none 0 0] 28 (0, 0))) := below_heap hb (lt_of_heap HY.out) HY.out
  replace HV : Hid (w4.drew.ownsRow w.heap.size 69 2 (.slice va cs.length vc) cs.length (flat cs)) := row_below hb HV.out
  replace HU : Hid (IR w4.drew (w.heap.size + 2) (.slice ua is.length uc) is) := HU.out.below hb
  replace HX : Hid (w4.drew.heap[bx]? = some (.cells #[.slice va cs.length vc, .slice ua is.length uc] 42 (0, 0))) := below_heap hb (lt_of_heap HX.out) HX.out
  clear hb
  generalize w4.drew = w5 at *
  refine wpAny_of_T (S := fun X => X.cell? ⟨bx, 0, none⟩ = some (.slice va cs.length vc) ∧ X.cell? ⟨bx, 1, none⟩ = some (.slice ua is.length uc)) (m := 7) _ _ _ _ ?_
  refine wpAnyT_take (i := 0) (v := .agg #[.slice va cs.length vc, .slice ua is.length uc]) rfl (by kernel_rfl) (by kernel_rfl) (by kernel_rfl) (by kernel_rfl) (fun _ _ _ h => h) (Or.inl ⟨by kernel_rfl, fun X hS => by obtain ⟨e0, e1⟩ := hS; go_simp⟩) ⟨heap_cell HX.out 0, heap_cell HX.out 1⟩ ?_
  try go_simp
  refine wpAnyT_take (i := 1) (v := .pointer (some ⟨a, 0, none⟩)) rfl (by kernel_rfl) (by kernel_rfl) (by kernel_rfl) (by kernel_rfl) (fun _ _ _ h => h) (Or.inl ⟨by kernel_rfl, fun X hS => by obtain ⟨e0, e1⟩ := hS; go_simp⟩) ⟨heap_cell HX.out 0, heap_cell HX.out 1⟩ ?_
  try go_simp
  refine wpAnyT_take (i := 2) (v := .pointer (some ⟨a, 0, none⟩)) rfl (by kernel_rfl) (by kernel_rfl) (by kernel_rfl) (by kernel_rfl) (fun _ _ _ h => h) (Or.inl ⟨by kernel_rfl, fun X hS => by obtain ⟨e0, e1⟩ := hS; go_simp⟩) ⟨heap_cell HX.out 0, heap_cell HX.out 1⟩ ?_
  try go_simp
  refine wpAnyT_one 3 rfl (by kernel_rfl) (fun K hK => ?_)
  go_simp
  refine (pick_any a 2101 9 w5 (by decide) (by decide) (by decide) HR.out).mono ?_
  rintro e w6 ⟨k, hk, rfl, hr, hgr⟩
  replace HB : Hid (Below w.heap.size w w6) := HB.out.grown hgr HB.out.size (fun g hg => by cases hg; omega)
  replace HZ : Hid (w6.heap[w.heap.size]? = some (.cells #[.slice none 0 0, .slice none 0 0] 42 (0, 0))) := HR.out.box HZ.out (by decide) hgr
  replace HY : Hid (w6.heap[w.heap.size + 1]? = some (.cells #[.string ⟨#[]⟩, .string ⟨#[]⟩, .slice none 0 0] 28 (0, 0))) := HR.out.box HY.out (by decide) hgr
  replace HV : Hid (w6.ownsRow w.heap.size 69 2 (.slice va cs.length vc) cs.length (flat cs)) := HR.out.row HV.out (by decide) hgr
  replace HU : Hid (IR w6 (w.heap.size + 2) (.slice ua is.length uc) is) := HR.out.ir HU.out hgr
  replace HX : Hid (w6.heap[bx]? = some (.cells #[.slice va cs.length vc, .slice ua is.length uc] 42 (0, 0))) := HR.out.box HX.out (by decide) hgr
  have hzc := hgr.size
  replace HR : Hid (RD w6 a (2102)) := hr.mono (by omega)
  clear hr hgr hzc
  refine hK _ _ (fun _ => ⟨heap_cell HX.out 0, heap_cell HX.out 1⟩) ?_
  clear hK K
  refine wpAnyT_one 4 rfl (by kernel_rfl) (fun K hK => ?_)
  go_simp
  have hzz := HB.out.size
  refine (l3Known_any k w6 hk).mono ?_
  rintro e w7 ⟨v2, u2, cs2, is2, rfl, hv, hu, k1, -, k2, -, hb⟩
  obtain ⟨va2, vc2, rfl⟩ := row_slice hv
  obtain ⟨ua2, uc2, rfl⟩ := ir_slice hu
  have HV2 : Hid (w7.ownsRow w.heap.size 69 2 (.slice va2 cs2.length vc2) cs2.length (flat cs2)) := row_mono hv hzz
  clear hv hu hzz
  replace HR : Hid (RD w7 a (2102)) := HR.out.below hb
  replace HB : Hid (Below w.heap.size w w7) := HB.out.trans (hb.mono HB.out.size)
  replace HZ : Hid (w7.heap[w.heap.size]? = some (.cells #[.slice none 0 0, .slice none 0 0] 42 (0, 0))) := below_heap hb (lt_of_heap HZ.out) HZ.out
  replace HY : Hid (w7.heap[w.heap.size + 1]? = some (.cells #[.string ⟨#[]⟩, .string ⟨#[]⟩, .slice none 0 0] 28 (0, 0))) := below_heap hb (lt_of_heap HY.out) HY.out
  replace HV : Hid (w7.ownsRow w.heap.size 69 2 (.slice va cs.length vc) cs.length (flat cs)) := row_below hb HV.out
  replace HU : Hid (IR w7 (w.heap.size + 2) (.slice ua is.length uc) is) := HU.out.below hb
  replace HX : Hid (w7.heap[bx]? = some (.cells #[.slice va cs.length vc, .slice ua is.length uc] 42 (0, 0))) := below_heap hb (lt_of_heap HX.out) HX.out
  clear hb
  refine hK _ _ (fun _ => ⟨heap_cell HX.out 0, heap_cell HX.out 1⟩) ?_
  clear hK K
  refine wpAnyT_one 5 rfl (by kernel_rfl) (fun K hK => ?_)
  go_simp
  have hzz := HB.out.size
  refine (l3DrawInstance_any a 2102 w.heap.size vc2 is2.length uc2 va2 ua2 cs2 w7 (by decide) k1 k2 HR.out HV2.out).mono ?_
  rintro e w8 ⟨x, y, ns, g2, c2, rfl, hnr, hx, hy, hn1, hn2, hr, hgr⟩
  replace HB : Hid (Below w.heap.size w w8) := HB.out.grown hgr HB.out.size (fun g hg => by cases hg; omega)
  replace HZ : Hid (w8.heap[w.heap.size]? = some (.cells #[.slice none 0 0, .slice none 0 0] 42 (0, 0))) := HR.out.box HZ.out (by decide) hgr
  replace HY : Hid (w8.heap[w.heap.size + 1]? = some (.cells #[.string ⟨#[]⟩, .string ⟨#[]⟩, .slice none 0 0] 28 (0, 0))) := HR.out.box HY.out (by decide) hgr
  replace HV : Hid (w8.ownsRow w.heap.size 69 2 (.slice va cs.length vc) cs.length (flat cs)) := HR.out.row HV.out (by decide) hgr
  replace HU : Hid (IR w8 (w.heap.size + 2) (.slice ua is.length uc) is) := HR.out.ir HU.out hgr
  replace HX : Hid (w8.heap[bx]? = some (.cells #[.slice va cs.length vc, .slice ua is.length uc] 42 (0, 0))) := HR.out.box HX.out (by decide) hgr
  replace HV2 : Hid (w8.ownsRow w.heap.size 69 2 (.slice va2 cs2.length vc2) cs2.length (flat cs2)) := HR.out.row HV2.out (by decide) hgr
  have hzc := hgr.size
  replace HR : Hid (RD w8 a (2400)) := hr.mono (by omega)
  clear hr hgr hzc
  have HT : Hid (w8.ownsRow w.heap.size 25 2 (.slice (some ⟨g2, 0, none⟩) ns.length c2) ns.length (flat ns)) := row_mono hnr hzz
  clear hnr hzz
  refine hK _ _ (fun _ => ⟨heap_cell HX.out 0, heap_cell HX.out 1⟩) ?_
  clear hK K
  refine wpAnyT_one 6 rfl (by kernel_rfl) (fun K hK => ?_)
  go_simp
  clear HR
  obtain ⟨r0, r1, z0, z1⟩ := PWo.k2 HZ.out
  have hlr := lt_of_heap HZ.out
  have hgr1 := set2_boxR w8 w.heap.size (.slice va cs.length vc) (.slice ua is.length uc)
  have NHB : Hid (Below w.heap.size w ((w8.setCell ⟨w.heap.size, 0, none⟩ (.slice va cs.length vc)).setCell ⟨w.heap.size, 1, none⟩ (.slice ua is.length uc))) := (HB.out.setCell (Nat.le_refl _) _).setCell (Nat.le_refl _) _
  have NHY : Hid (((w8.setCell ⟨w.heap.size, 0, none⟩ (.slice va cs.length vc)).setCell ⟨w.heap.size, 1, none⟩ (.slice ua is.length uc)).heap[w.heap.size + 1]? = some (.cells #[.string ⟨#[]⟩, .string ⟨#[]⟩, .slice none 0 0] 28 (0, 0))) := heap_boxR HY.out hgr1 (by omega)
  have NHV : Hid (((w8.setCell ⟨w.heap.size, 0, none⟩ (.slice va cs.length vc)).setCell ⟨w.heap.size, 1, none⟩ (.slice ua is.length uc)).ownsRow w.heap.size 69 2 (.slice va cs.length vc) cs.length (flat cs)) := row_boxR HZ.out HV.out (by decide) hgr1
  have NHU : Hid (IR ((w8.setCell ⟨w.heap.size, 0, none⟩ (.slice va cs.length vc)).setCell ⟨w.heap.size, 1, none⟩ (.slice ua is.length uc)) (w.heap.size + 2) (.slice ua is.length uc) is) := ir_boxR HZ.out HU.out (by decide) (by decide) hgr1
  have NHX : Hid (((w8.setCell ⟨w.heap.size, 0, none⟩ (.slice va cs.length vc)).setCell ⟨w.heap.size, 1, none⟩ (.slice ua is.length uc)).heap[bx]? = some (.cells #[.slice va cs.length vc, .slice ua is.length uc] 42 (0, 0))) := heap_boxR HX.out hgr1 (by omega)
  have NHV2 : Hid (((w8.setCell ⟨w.heap.size, 0, none⟩ (.slice va cs.length vc)).setCell ⟨w.heap.size, 1, none⟩ (.slice ua is.length uc)).ownsRow w.heap.size 69 2 (.slice va2 cs2.length vc2) cs2.length (flat cs2)) := row_boxR HZ.out HV2.out (by decide) hgr1
  have NHT : Hid (((w8.setCell ⟨w.heap.size, 0, none⟩ (.slice va cs.length vc)).setCell ⟨w.heap.size, 1, none⟩ (.slice ua is.length uc)).ownsRow w.heap.size 25 2 (.slice (some ⟨g2, 0, none⟩) ns.length c2) ns.length (flat ns)) := row_boxR HZ.out HT.out (by decide) hgr1
  have NHZ : Hid (((w8.setCell ⟨w.heap.size, 0, none⟩ (.slice va cs.length vc)).setCell ⟨w.heap.size, 1, none⟩ (.slice ua is.length uc)).heap[w.heap.size]? = some (.cells #[.slice va cs.length vc, .slice ua is.length uc] 42 (0, 0))) := heap_set (heap_set HZ.out 0 _) 1 _
  go_simp
  clear r0 r1 z0 z1 hlr hgr1
  clear HB HZ HY HV HU HX HV2 HT
  generalize ((w8.setCell ⟨w.heap.size, 0, none⟩ (.slice va cs.length vc)).setCell ⟨w.heap.size, 1, none⟩ (.slice ua is.length uc)) = w9 at *
  have HB := hid NHB.out
  have HZ := hid NHZ.out
  have HY := hid NHY.out
  have HV := hid NHV.out
  have HU := hid NHU.out
  have HX := hid NHX.out
  have HV2 := hid NHV2.out
  have HT := hid NHT.out
  clear NHB NHZ NHY NHV NHU NHX NHV2 NHT
  refine hK _ _ (fun _ => ⟨heap_cell HX.out 0, heap_cell HX.out 1⟩) ?_
  clear hK K
  refine wpAnyT_drop _ 7 _ _ _ (by decide) (by kernel_rfl) ?_
  change wpList _ _ _ [_] _ _
  obtain ⟨y0, y1, yy2, u0, u1, uu2⟩ := PIn.k3 HY.out
  have hly := lt_of_heap HY.out
  go_wp2
  have hg2 := set3_boxR w9 (w.heap.size + 1) (.string x) (.string y) (.slice (some ⟨g2, 0, none⟩) ns.length c2)
  refine bodyPost_ret (results_row_row rfl _ _ w.heap.size (w.heap.size + 1) 42 28 #[.slice va cs.length vc, .slice ua is.length uc] #[.string x, .string y, .slice (some ⟨g2, 0, none⟩) ns.length c2] (0, 0) (0, 0) _ _ rfl (heap_boxR HZ.out hg2 (by omega)) Tryd.underlying42 rfl (by kernel_rfl) rfl (heap_set (heap_set (heap_set HY.out 0 _) 1 _) 2 _) Tryd.underlying28 rfl (by kernel_rfl)) rfl ?_
  exact ⟨.slice va cs.length vc, .slice ua is.length uc, cs, is, x, y, .slice (some ⟨g2, 0, none⟩) ns.length c2, ns, rfl, ⟨row_boxR HY.out HV.out (by decide) hg2, IR_mono (ir3 HY.out HU.out hg2 (by omega)) (by omega), h1, h0, h2, h3⟩, ⟨row_boxR HY.out HT.out (by decide) hg2, hx, by omega, hn1, hn2⟩, ((HB.out.setCell (Nat.le_succ _) _).setCell (Nat.le_succ _) _).setCell (Nat.le_succ _) _⟩
end Draw
end Go.Proofs.YtbdnhcfebgkpdaaDoor
