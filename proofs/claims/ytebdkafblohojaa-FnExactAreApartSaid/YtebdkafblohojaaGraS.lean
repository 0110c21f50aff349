/- share and fresh of the program. Conditions: none. -/
import Derived.Test.YtebdkafblohojaaGraO
import Derived.Test.YtebdkafblohojaaImplT
import Derived.Test.YtebdkafblohojaaVar
set_option linter.unusedVariables false
set_option linter.unusedSimpArgs false
set_option maxRecDepth 100000
namespace Go.Proofs.Ytebdkafblohojaa
open Go.RowKit Ty
namespace GraS
open GraP PtrM ListS AptP GraW GraO
theorem isVar_two {c : UInt8} {v : Bool} (h : isV c = v) (w : World) : Calls Try.prog 21 #[.string ⟨#[c]⟩] w fun e w' => e = .returned (.bool v) ∧ w = w' := by
  have := isVar_impl [c] w (by simp)
  have e : isVarL [c] = v := h
  rw [e] at this
  exact this
theorem wpAnyT_true {P : Program} {md : Region.Mode} {ops : Array Oper} {Q : Exit → Act → World → Prop} {S : World → Prop} {m m' : Nat} : ∀ (n : Nat) (listed : Array Bool) (a : Act) (w : World), wpAnyT P md ops Q S m n listed a w → wpAnyT P md ops Q (fun _ => True) m' n listed a w
  | 0, _, _, _, h => h
  | n + 1, listed, a, w, h => ⟨h.1, fun i hi => wpOp_mono (fun a' w' h' => ⟨fun _ => trivial, wpAnyT_true n _ a' w' h'.2⟩) (h.2 i hi)⟩
theorem isV_ar {c : UInt8} (hv : isV c = true) : ar c = some 0 := by
  simp [isV] at hv
  rcases hv with rfl | rfl | rfl | rfl | rfl | rfl <;> rfl
theorem SS.undrew {w w' : World} {mb n z0 : Nat} {sc sc0 : Sco} {N N0 : Nds} {B : Nat → Prop} (h : SS w.drew w' mb n sc N N0 sc0 z0 B) : SS w w' mb n sc N N0 sc0 z0 B := ⟨h.st, h.gh, h.sub, h.scs, ⟨h.gr.os, h.gr.tape, h.gr.output, h.gr.size, h.gr.block⟩, h.new⟩
theorem cells_map {w : World} {b mb n : Nat} {sc : Sco} {cs : Array Value} {e : TypeId} {fr : Nat × Nat} (h : w.heap[b]? = some (.cells cs e fr)) (hp : PM w mb n sc) : b ≠ mb := fun e => by
  obtain ⟨es, k, hm⟩ := hp.isMap
  subst e
  rw [h] at hm
  simp at hm
def ShPost (w : World) (mb n : Nat) (N : Nds) (sc : Sco) (z0 : Nat) (B : Nat → Prop) (t : Ty) (e : Ending) (w' : World) : Prop := ∃ b' N' sc', e = .returned (ptr b') ∧ SS w w' mb n sc' N' N sc z0 B ∧ Rep N' sc' b' t
abbrev ShAt (t : Ty) : Prop := ∀ (w : World) (b lo mb n : Nat) (sc : Sco) (N : Nds) (z0 : Nat) (B : Nat → Prop), ST w mb n sc N z0 → GH w N L0 B → (∀ k, B k → k < w.heap.size) → z0 ≤ w.heap.size → n + t.size ≤ 1000000 → INode lo w t b →
    Calls Try.prog 19 #[ptr b, .map (some mb)] w (ShPost w mb (n + t.size) N sc z0 B t)
set_option maxHeartbeats 4000000 in
theorem sh_var {c : UInt8} (hv : isV c = true) (ha : ar c = some 0) : ShAt (.leaf c) := by
  intro w b lo mb n sc N z0 B hst hg hB hz hn hnode
  have HST := hid hst
  have HG := hid hg
  have HBB := hid hB
  have HV := hid hv
  have hmbl := hst.pm.lt
  obtain ⟨-, v, hh, hrow⟩ := hnode
  obtain ⟨a, cap, rfl⟩ := row_slice hrow
  have k0 := heap_cell hh 0
  have hbl := lt_of_heap hh
  have hbm := cells_map hh hst.pm
  have HH := hid hh
  have HPM := hid hst.pm
  have HA := hid ha
  have hn2 : n + 1 ≤ 1000000 := by simp [Ty.size] at hn; omega
  clear hst hg hB hv hh hrow ha hn
  cases hs : sc c with
  | some b0 =>
    have HS := hid hs
    clear hs
    go_enter Try.func19, Try.ntmps19
    go_wp2_with (first | (go_at_call 21; refine (isVar_two HV.out _).mono ?_; rintro e w' ⟨rfl, rfl⟩) | (at_lookup; refine look_sc rfl _ _ rfl HPM.out (some b0) HS.out rfl rfl ?_))
    go_ret
    exact ⟨b0, N, sc, rfl, (SS.start HST.out HG.out).mono (Nat.le_add_right _ _), .var (HST.out.sce c b0 HS.out).1 HV.out HS.out⟩
  | none =>
    have HS := hid hs
    clear hs
    go_enter Try.func19, Try.ntmps19
    go_wp2_with (first | (go_at_call 21; refine (isVar_two HV.out _).mono ?_; rintro e w' ⟨rfl, rfl⟩) | (at_lookup; refine look_sc rfl _ _ rfl HPM.out none HS.out rfl rfl ?_))
    refine wp_region_any (by kernel_rfl) ?_
    change wpAny _ _ _ _ _ _ _ (World.drew _)
    have SX : w.drew.cell? ⟨b, 0, none⟩ = some (.string ⟨#[c]⟩) := k0
    refine wpAny_of_T (S := fun X => X.cell? ⟨b, 0, none⟩ = some (.string ⟨#[c]⟩)) (m := 11) _ _ _ _ ?_
    refine wpAnyT_take (i := 0) (v := .map (some mb)) rfl (by kernel_rfl) (by kernel_rfl) (by kernel_rfl) (by kernel_rfl) (fun _ _ _ h => h) (Or.inl ⟨by kernel_rfl, fun X hS => by clear hS; go_simp⟩) SX ?_
    try go_simp
    refine wpAnyT_take (i := 1) (v := .pointer (some ⟨b, 0, none⟩)) rfl (by kernel_rfl) (by kernel_rfl) (by kernel_rfl) (by kernel_rfl) (fun _ _ _ h => h) (Or.inl ⟨by kernel_rfl, fun X hS => by clear hS; go_simp⟩) SX ?_
    try go_simp
    refine wpAnyT_take (i := 2) (v := .pointer (some ⟨b, 0, none⟩)) rfl (by kernel_rfl) (by kernel_rfl) (by kernel_rfl) (by kernel_rfl) (fun _ _ _ h => h) (Or.inl ⟨by kernel_rfl, fun X hS => by clear hS; go_simp⟩) SX ?_
    try go_simp
    refine wpAnyT_take (i := 3) (v := .pointer (some ⟨b, 0, none⟩)) rfl (by kernel_rfl) (by kernel_rfl) (by kernel_rfl) (by kernel_rfl) (fun _ _ _ h => h) (Or.inl ⟨by kernel_rfl, fun X hS => by clear hS; go_simp⟩) SX ?_
    try go_simp
    refine wpAnyT_take (i := 4) (v := .string ⟨#[c]⟩) rfl (by kernel_rfl) (by kernel_rfl) (by kernel_rfl) (by kernel_rfl) (fun _ _ _ h => h) (Or.inl ⟨by kernel_rfl, fun X hS => by have e0 := hS; clear k0; go_simp⟩) SX ?_
    try go_simp
    refine wpAnyT_take (i := 5) (v := .pointer (some ⟨b, 0, none⟩)) rfl (by kernel_rfl) (by kernel_rfl) (by kernel_rfl) (by kernel_rfl) (fun _ _ _ h => h) (Or.inl ⟨by kernel_rfl, fun X hS => by clear hS; go_simp⟩) SX ?_
    try go_simp
    refine wpAnyT_take (i := 6) (v := .pointer (some ⟨b, 0, none⟩)) rfl (by kernel_rfl) (by kernel_rfl) (by kernel_rfl) (by kernel_rfl) (fun _ _ _ h => h) (Or.inl ⟨by kernel_rfl, fun X hS => by clear hS; go_simp⟩) SX ?_
    try go_simp
    refine wpAnyT_take (i := 7) (v := .pointer (some ⟨b, 0, none⟩)) rfl (by kernel_rfl) (by kernel_rfl) (by kernel_rfl) (by kernel_rfl) (fun _ _ _ h => h) (Or.inl ⟨by kernel_rfl, fun X hS => by clear hS; go_simp⟩) SX ?_
    try go_simp
    refine wpAnyT_take (i := 8) (v := .string ⟨#[c]⟩) rfl (by kernel_rfl) (by kernel_rfl) (by kernel_rfl) (by kernel_rfl) (fun _ _ _ h => h) (Or.inl ⟨by kernel_rfl, fun X hS => by have e0 := hS; clear k0; go_simp⟩) SX ?_
    try go_simp
    refine wpAnyT_take (i := 9) (v := .agg #[.string ⟨#[c]⟩, .slice none 0 0, .pointer none]) rfl (by kernel_rfl) (by kernel_rfl) (by kernel_rfl) (by kernel_rfl) (fun _ _ _ h => h) (Or.inl ⟨by kernel_rfl, fun X hS => by clear hS; go_simp⟩) SX ?_
    try go_simp
    have SX10 : (w.drew.alloc (.cells #[.string ⟨#[c]⟩, .slice none 0 0, .pointer none] 54 (0, 0))).cell? ⟨b, 0, none⟩ = some (.string ⟨#[c]⟩) := heap_cell (hb_alloc (w := w.drew) HH.out _) 0
    refine wpAnyT_one 10 rfl (by kernel_rfl) (fun K hK => ?_)
    go_simp
    refine hK _ _ (fun _ => SX10) ?_
    clear hK K
    clear SX
    refine wpAnyT_drop _ 11 _ _ _ (by decide) (by kernel_rfl) ?_
    change wpList _ _ _ [_] _ _
    have HPA : Hid (PM (w.alloc (.cells #[.string ⟨#[c]⟩, .slice none 0 0, .pointer none] 54 (0, 0))).drew mb n sc) := PM.below (w := w.drew) HPM.out ((Below.refl _ _).alloc (Nat.le_refl _) _)
    have SXA := SX10
    clear SX10
    go_wp2_with (first
      | (at_mapUpdate; refine store_sc rfl _ _ _ rfl (c := c) (b := w.heap.size) HPA.out (by unfold maxLen; omega) rfl rfl rfl ?_; intro w3 hp3 hg3; have HP3 := hid hp3; have HG3 := hid hg3; have k3 := cellG hg3 (by simp; omega) hbm SXA; have hz3 := Nat.lt_of_lt_of_le hbl (Nat.le_trans (by simp) hg3.size); clear hp3 hg3 SXA)
      | (at_lookup; refine look_sc rfl _ _ rfl HP3.out (c := c) (some w.heap.size) (by simp [sput]) rfl rfl ?_))
    go_ret
    refine ⟨w.heap.size, _, _, rfl, SS.undrew (SS.mono (SS.name (w := w.drew) (HST.out.below (below_drw (Below.refl _ _))) (HG.out.kc (KC.below (below_drw (Below.refl _ _)))) HBB.out hz HS.out HV.out HA.out HP3.out HG3.out) (by simp [Ty.size])), .var (nput_same _ _ _) HV.out (by simp [sput])⟩
set_option maxHeartbeats 8000000 in
theorem sh_c0 {c : UInt8} (hv : isV c = false) (ha : ar c = some 0)  : ShAt (.leaf c) := by
  intro w b lo mb n sc N z0 B hst hg hB hz hn hnode
  have HST := hid hst
  have HG := hid hg
  have HBB := hid hB
  have HV := hid hv
  have hmbl := hst.pm.lt
  obtain ⟨-, v, hh, hrow⟩ := hnode
  obtain ⟨a, cap, rfl⟩ := row_slice hrow
  have k0 := heap_cell hh 0
  have k1 := heap_cell hh 1
  have hbl := lt_of_heap hh
  have HROW := hid (row_mono hrow (Nat.zero_le lo))
  have HISM := hid hst.pm.isMap
  have HA := hid ha
  have hsz : n + 1 ≤ 1000000 := by simp [Ty.size] at hn; omega
  have HO0 : Hid (OS w (w.alloc (.cells #[.string ⟨#[c]⟩, .slice none 0 0, .pointer none] 54 (0, 0))) mb n sc N N sc z0 B w.heap.size c [] none 0) := OS.init hst hg hB c
  have HK0 : Hid (KC w (w.alloc (.cells #[.string ⟨#[c]⟩, .slice none 0 0, .pointer none] 54 (0, 0)))) := KC.map HO0.out.gr HISM.out
  clear hst hg hB hv hh hrow ha hn
  go_enter Try.func19, Try.ntmps19
  go_wp2_with (first | (go_at_call 21; refine (isVar_two HV.out _).mono ?_; rintro e w' ⟨rfl, rfl⟩))
  refine wp_loop_rounds 1 ?_
  rw [rounds_succ]
  go_wp2_with fail
  go_ret
  have hrep : Rep (nput N w.heap.size (c, [])) sc w.heap.size (.leaf c) := .n0 (nput_same _ _ _) HV.out
  exact ⟨w.heap.size, _, _, rfl, SS.mono (HO0.out.close hz HA.out hrep (by simp)) (by simp [Ty.size]; try omega), hrep⟩
set_option maxHeartbeats 8000000 in
theorem sh_c1 {c : UInt8} {t1 : Ty} (hv : isV c = false) (ha : ar c = some 1) (ih0 : ShAt t1) : ShAt (.one c t1) := by
  intro w b lo mb n sc N z0 B hst hg hB hz hn hnode
  have HST := hid hst
  have HG := hid hg
  have HBB := hid hB
  have HV := hid hv
  have hmbl := hst.pm.lt
  obtain ⟨-, v, p, hh, hrow, hn0⟩ := hnode
  obtain ⟨a, cap, rfl⟩ := row_slice hrow
  have k0 := heap_cell hh 0
  have k1 := heap_cell hh 1
  have hbl := lt_of_heap hh
  have HROW := hid (row_mono hrow (Nat.zero_le lo))
  have HISM := hid hst.pm.isMap
  have HA := hid ha
  have HN0 := hid hn0
  have IH0 := hid ih0
  clear hn0 ih0
  have hsz : n + t1.size + 1 ≤ 1000000 := by simp [Ty.size] at hn; omega
  have HO0 : Hid (OS w (w.alloc (.cells #[.string ⟨#[c]⟩, .slice none 0 0, .pointer none] 54 (0, 0))) mb n sc N N sc z0 B w.heap.size c [] none 0) := OS.init hst hg hB c
  have HK0 : Hid (KC w (w.alloc (.cells #[.string ⟨#[c]⟩, .slice none 0 0, .pointer none] 54 (0, 0)))) := KC.map HO0.out.gr HISM.out
  clear hst hg hB hv hh hrow ha hn
  go_enter Try.func19, Try.ntmps19
  go_wp2_with (first | (go_at_call 21; refine (isVar_two HV.out _).mono ?_; rintro e w' ⟨rfl, rfl⟩))
  refine wp_loop_rounds 2 ?_
  generalize hO : w.heap.size = O at *
  generalize (w.alloc (.cells #[.string ⟨#[c]⟩, .slice none 0 0, .pointer none] 54 (0, 0))) = V0 at *
  clear k0 k1
  obtain ⟨g0, eg0, k0, hk0⟩ := row_part (ps := [p]) (KC.row HK0.out HROW.out) (j := 0) (p := p) rfl (by simp)
  subst eg0
  have d0 : V0.cell? ⟨O, 1, none⟩ = some (.slice none 0 0) := heap_cell HO0.out.ob 1
  have hzv0 : O ≤ V0.heap.size := Nat.le_of_lt (lt_of_heap HO0.out.ob)
  rw [rounds_succ]
  go_wp2_with fail
  refine wp_region_any (by kernel_rfl) ?_
  change wpAny _ _ _ _ _ _ _ (World.drew _)
  refine wpAny_of_T (S := fun X => True) (m := 13) _ _ _ _ ?_
  refine wpAnyT_take (i := 0) (v := .pointer (some ⟨O, 0, none⟩)) rfl (by kernel_rfl) (by kernel_rfl) (by kernel_rfl) (by kernel_rfl) (fun _ _ _ h => h) (Or.inl ⟨by kernel_rfl, fun X hS => by clear hS; go_simp⟩) trivial ?_
  try go_simp
  refine wpAnyT_take (i := 1) (v := .pointer (some ⟨O, 0, none⟩)) rfl (by kernel_rfl) (by kernel_rfl) (by kernel_rfl) (by kernel_rfl) (fun _ _ _ h => h) (Or.inl ⟨by kernel_rfl, fun X hS => by clear hS; go_simp⟩) trivial ?_
  try go_simp
  refine wpAnyT_take (i := 2) (v := .pointer (some ⟨O, 0, none⟩)) rfl (by kernel_rfl) (by kernel_rfl) (by kernel_rfl) (by kernel_rfl) (fun _ _ _ h => h) (Or.inl ⟨by kernel_rfl, fun X hS => by clear hS; go_simp⟩) trivial ?_
  try go_simp
  refine wpAnyT_take (i := 3) (v := .pointer (some ⟨O, 1, none⟩)) rfl (by kernel_rfl) (by kernel_rfl) (by kernel_rfl) (by kernel_rfl) (fun _ _ _ h => h) (Or.inl ⟨by kernel_rfl, fun X hS => by clear hS; go_simp⟩) trivial ?_
  try go_simp
  refine wpAnyT_take (i := 5) (v := .pointer (some ⟨p, 0, none⟩)) rfl (by kernel_rfl) (by kernel_rfl) (by kernel_rfl) (by kernel_rfl) (fun _ _ _ h => h) (Or.inl ⟨by kernel_rfl, fun X hS => by clear hS; go_simp⟩) trivial ?_
  try go_simp
  refine wpAnyT_take (i := 6) (v := .map (some mb)) rfl (by kernel_rfl) (by kernel_rfl) (by kernel_rfl) (by kernel_rfl) (fun _ _ _ h => h) (Or.inl ⟨by kernel_rfl, fun X hS => by clear hS; go_simp⟩) trivial ?_
  try go_simp
  have SX : V0.drew.cell? ⟨O, 1, none⟩ = some (.slice none 0 0) := d0
  refine wpAnyT_true (S := fun X => X.cell? ⟨O, 1, none⟩ = some (.slice none 0 0)) (m := 9) _ _ _ _ ?_
  refine wpAnyT_take (i := 4) (v := .slice none 0 0) rfl (by kernel_rfl) (by kernel_rfl) (by kernel_rfl) (by kernel_rfl) (fun _ _ _ h => h) (Or.inl ⟨by kernel_rfl, fun X hS => by have e0 := hS; clear d0; go_simp⟩) SX ?_
  try go_simp
  refine wpAnyT_one 7 rfl (by kernel_rfl) (fun K hK => ?_)
  go_simp
  refine (IH0.out V0.drew p lo mb (n) sc N z0 (fun k => B k ∨ (Value.slice none [].length 0).ownBlock = some k) HO0.out.drew.st HO0.out.drew.gh HO0.out.drew.bnd (by show z0 ≤ V0.heap.size; omega) (by omega) (KC.inode (KC.trans HK0.out (KC.below (below_drw (Below.refl _ _)))) HN0.out)).mono ?_
  rintro e W0 ⟨b0, N0, sc0, rfl, hss0, hrep0⟩
  have HP0 := hid (HO0.out.drew.after hss0)
  have HR0 := hid hrep0
  have HS0 := hid hss0
  clear hss0 hrep0
  have SX7 : W0.cell? ⟨O, 1, none⟩ = some (.slice none 0 0) := heap_cell HP0.out.ob 1
  refine hK _ _ (fun _ => SX7) ?_
  clear hK K
  clear SX
  have SX8 : (W0.alloc (.cells #[ptr b0] 33 (0, 0))).cell? ⟨O, 1, none⟩ = some (.slice none 0 0) := heap_cell (hb_alloc HP0.out.ob _) 1
  refine wpAnyT_one 8 rfl (by kernel_rfl) (fun K hK => ?_)
  go_simp
  refine hK _ _ (fun _ => SX8) ?_
  clear hK K
  clear SX7
  refine wpAnyT_drop _ 9 _ _ _ (by decide) (by kernel_rfl) ?_
  change wpList _ _ _ [_, _, _, _] _ _
  have hzw0 := lt_of_heap HP0.out.ob
  go_wp2_with (first
    | (at_builtin; refine app_push_at 52 33 (.pointer none) 1 8 Try.underlying52 infoPN rfl (by decide) rfl _ _ rfl (O + 1) (.slice none 0 0) 0 [] rfl (World.ownsRow.alloc HP0.out.row _) W0.heap.size 1 [ptr b0] rfl rfl (news_one (heap_cell (heap_alloc_new _ _) 0)) (by simp [Value.oneCell']) (by decide) (by decide) (by have := hzw0; simp only [World.size_alloc]; omega) ?_; intro g10 cap10 w80 hown hgr hlie; have HQ0 := hid (HP0.out.push (b := b0) hgr hown hlie); have ob8 := HP0.out.ob8 hgr; have c8 := heap_cell ob8 1; have f8 := heap_free ob8 1; have hl8 := lt_of_heap ob8; clear hown hgr hlie ob8 SX8))
  clear c8 f8 hl8 k0 d0
  have HO1 : Hid (OS w (w80.setCell ⟨O, 1, none⟩ (.slice (some ⟨g10, 0, none⟩) 1 cap10)) mb (n + t1.size) sc0 N0 N sc z0 B O c [b0] (some ⟨g10, 0, none⟩) cap10) := HQ0.out
  have HK1 : Hid (KC w (w80.setCell ⟨O, 1, none⟩ (.slice (some ⟨g10, 0, none⟩) 1 cap10))) := KC.map HO1.out.gr HISM.out
  clear HQ0
  generalize (w80.setCell ⟨O, 1, none⟩ (.slice (some ⟨g10, 0, none⟩) 1 cap10)) = V1 at *
  rw [rounds_succ]
  go_wp2_with fail
  go_ret
  have hrep : Rep (nput N0 O (c, [b0])) sc0 O (.one c t1) := .n1 (nput_same _ _ _) HV.out (HR0.out.mono (nput_sub HO1.out.no) (fun _ _ h => h))
  exact ⟨O, _, _, rfl, SS.mono (HO1.out.close (by omega) HA.out hrep (fun x hx => by simp at hx; subst hx; exact HR0.out.node)) (by simp [Ty.size]; try omega), hrep⟩
set_option maxHeartbeats 8000000 in
theorem sh_c2 {c : UInt8} {t1 t2 : Ty} (hv : isV c = false) (ha : ar c = some 2) (ih0 : ShAt t1) (ih1 : ShAt t2) : ShAt (.two c t1 t2) := by
  intro w b lo mb n sc N z0 B hst hg hB hz hn hnode
  have HST := hid hst
  have HG := hid hg
  have HBB := hid hB
  have HV := hid hv
  have hmbl := hst.pm.lt
  obtain ⟨-, v, p, q, hh, hrow, hn0, hn1⟩ := hnode
  obtain ⟨a, cap, rfl⟩ := row_slice hrow
  have k0 := heap_cell hh 0
  have k1 := heap_cell hh 1
  have hbl := lt_of_heap hh
  have HROW := hid (row_mono hrow (Nat.zero_le lo))
  have HISM := hid hst.pm.isMap
  have HA := hid ha
  have HN0 := hid hn0
  have IH0 := hid ih0
  clear hn0 ih0
  have HN1 := hid hn1
  have IH1 := hid ih1
  clear hn1 ih1
  have hsz : n + t1.size + t2.size + 1 ≤ 1000000 := by simp [Ty.size] at hn; omega
  have HO0 : Hid (OS w (w.alloc (.cells #[.string ⟨#[c]⟩, .slice none 0 0, .pointer none] 54 (0, 0))) mb n sc N N sc z0 B w.heap.size c [] none 0) := OS.init hst hg hB c
  have HK0 : Hid (KC w (w.alloc (.cells #[.string ⟨#[c]⟩, .slice none 0 0, .pointer none] 54 (0, 0)))) := KC.map HO0.out.gr HISM.out
  clear hst hg hB hv hh hrow ha hn
  go_enter Try.func19, Try.ntmps19
  go_wp2_with (first | (go_at_call 21; refine (isVar_two HV.out _).mono ?_; rintro e w' ⟨rfl, rfl⟩))
  refine wp_loop_rounds 3 ?_
  generalize hO : w.heap.size = O at *
  generalize (w.alloc (.cells #[.string ⟨#[c]⟩, .slice none 0 0, .pointer none] 54 (0, 0))) = V0 at *
  clear k0 k1
  obtain ⟨g0, eg0, k0, hk0⟩ := row_part (ps := [p, q]) (KC.row HK0.out HROW.out) (j := 0) (p := p) rfl (by simp)
  subst eg0
  have d0 : V0.cell? ⟨O, 1, none⟩ = some (.slice none 0 0) := heap_cell HO0.out.ob 1
  have hzv0 : O ≤ V0.heap.size := Nat.le_of_lt (lt_of_heap HO0.out.ob)
  rw [rounds_succ]
  go_wp2_with fail
  refine wp_region_any (by kernel_rfl) ?_
  change wpAny _ _ _ _ _ _ _ (World.drew _)
  refine wpAny_of_T (S := fun X => True) (m := 13) _ _ _ _ ?_
  refine wpAnyT_take (i := 0) (v := .pointer (some ⟨O, 0, none⟩)) rfl (by kernel_rfl) (by kernel_rfl) (by kernel_rfl) (by kernel_rfl) (fun _ _ _ h => h) (Or.inl ⟨by kernel_rfl, fun X hS => by clear hS; go_simp⟩) trivial ?_
  try go_simp
  refine wpAnyT_take (i := 1) (v := .pointer (some ⟨O, 0, none⟩)) rfl (by kernel_rfl) (by kernel_rfl) (by kernel_rfl) (by kernel_rfl) (fun _ _ _ h => h) (Or.inl ⟨by kernel_rfl, fun X hS => by clear hS; go_simp⟩) trivial ?_
  try go_simp
  refine wpAnyT_take (i := 2) (v := .pointer (some ⟨O, 0, none⟩)) rfl (by kernel_rfl) (by kernel_rfl) (by kernel_rfl) (by kernel_rfl) (fun _ _ _ h => h) (Or.inl ⟨by kernel_rfl, fun X hS => by clear hS; go_simp⟩) trivial ?_
  try go_simp
  refine wpAnyT_take (i := 3) (v := .pointer (some ⟨O, 1, none⟩)) rfl (by kernel_rfl) (by kernel_rfl) (by kernel_rfl) (by kernel_rfl) (fun _ _ _ h => h) (Or.inl ⟨by kernel_rfl, fun X hS => by clear hS; go_simp⟩) trivial ?_
  try go_simp
  refine wpAnyT_take (i := 5) (v := .pointer (some ⟨p, 0, none⟩)) rfl (by kernel_rfl) (by kernel_rfl) (by kernel_rfl) (by kernel_rfl) (fun _ _ _ h => h) (Or.inl ⟨by kernel_rfl, fun X hS => by clear hS; go_simp⟩) trivial ?_
  try go_simp
  refine wpAnyT_take (i := 6) (v := .map (some mb)) rfl (by kernel_rfl) (by kernel_rfl) (by kernel_rfl) (by kernel_rfl) (fun _ _ _ h => h) (Or.inl ⟨by kernel_rfl, fun X hS => by clear hS; go_simp⟩) trivial ?_
  try go_simp
  have SX : V0.drew.cell? ⟨O, 1, none⟩ = some (.slice none 0 0) := d0
  refine wpAnyT_true (S := fun X => X.cell? ⟨O, 1, none⟩ = some (.slice none 0 0)) (m := 9) _ _ _ _ ?_
  refine wpAnyT_take (i := 4) (v := .slice none 0 0) rfl (by kernel_rfl) (by kernel_rfl) (by kernel_rfl) (by kernel_rfl) (fun _ _ _ h => h) (Or.inl ⟨by kernel_rfl, fun X hS => by have e0 := hS; clear d0; go_simp⟩) SX ?_
  try go_simp
  refine wpAnyT_one 7 rfl (by kernel_rfl) (fun K hK => ?_)
  go_simp
  refine (IH0.out V0.drew p lo mb (n) sc N z0 (fun k => B k ∨ (Value.slice none [].length 0).ownBlock = some k) HO0.out.drew.st HO0.out.drew.gh HO0.out.drew.bnd (by show z0 ≤ V0.heap.size; omega) (by omega) (KC.inode (KC.trans HK0.out (KC.below (below_drw (Below.refl _ _)))) HN0.out)).mono ?_
  rintro e W0 ⟨b0, N0, sc0, rfl, hss0, hrep0⟩
  have HP0 := hid (HO0.out.drew.after hss0)
  have HR0 := hid hrep0
  have HS0 := hid hss0
  clear hss0 hrep0
  have SX7 : W0.cell? ⟨O, 1, none⟩ = some (.slice none 0 0) := heap_cell HP0.out.ob 1
  refine hK _ _ (fun _ => SX7) ?_
  clear hK K
  clear SX
  have SX8 : (W0.alloc (.cells #[ptr b0] 33 (0, 0))).cell? ⟨O, 1, none⟩ = some (.slice none 0 0) := heap_cell (hb_alloc HP0.out.ob _) 1
  refine wpAnyT_one 8 rfl (by kernel_rfl) (fun K hK => ?_)
  go_simp
  refine hK _ _ (fun _ => SX8) ?_
  clear hK K
  clear SX7
  refine wpAnyT_drop _ 9 _ _ _ (by decide) (by kernel_rfl) ?_
  change wpList _ _ _ [_, _, _, _] _ _
  have hzw0 := lt_of_heap HP0.out.ob
  go_wp2_with (first
    | (at_builtin; refine app_push_at 52 33 (.pointer none) 1 8 Try.underlying52 infoPN rfl (by decide) rfl _ _ rfl (O + 1) (.slice none 0 0) 0 [] rfl (World.ownsRow.alloc HP0.out.row _) W0.heap.size 1 [ptr b0] rfl rfl (news_one (heap_cell (heap_alloc_new _ _) 0)) (by simp [Value.oneCell']) (by decide) (by decide) (by have := hzw0; simp only [World.size_alloc]; omega) ?_; intro g10 cap10 w80 hown hgr hlie; have HQ0 := hid (HP0.out.push (b := b0) hgr hown hlie); have ob8 := HP0.out.ob8 hgr; have c8 := heap_cell ob8 1; have f8 := heap_free ob8 1; have hl8 := lt_of_heap ob8; clear hown hgr hlie ob8 SX8))
  clear c8 f8 hl8 k0 d0
  have HO1 : Hid (OS w (w80.setCell ⟨O, 1, none⟩ (.slice (some ⟨g10, 0, none⟩) 1 cap10)) mb (n + t1.size) sc0 N0 N sc z0 B O c [b0] (some ⟨g10, 0, none⟩) cap10) := HQ0.out
  have HK1 : Hid (KC w (w80.setCell ⟨O, 1, none⟩ (.slice (some ⟨g10, 0, none⟩) 1 cap10))) := KC.map HO1.out.gr HISM.out
  clear HQ0
  generalize (w80.setCell ⟨O, 1, none⟩ (.slice (some ⟨g10, 0, none⟩) 1 cap10)) = V1 at *
  obtain ⟨g1, eg1, k1, hk1⟩ := row_part (ps := [p, q]) (KC.row HK1.out HROW.out) (j := 1) (p := q) rfl (by simp)
  cases eg1
  have d1 : V1.cell? ⟨O, 1, none⟩ = some (.slice (some ⟨g10, 0, none⟩) 1 cap10) := heap_cell HO1.out.ob 1
  have hzv1 : O ≤ V1.heap.size := Nat.le_of_lt (lt_of_heap HO1.out.ob)
  rw [rounds_succ]
  go_wp2_with fail
  refine wp_region_any (by kernel_rfl) ?_
  change wpAny _ _ _ _ _ _ _ (World.drew _)
  refine wpAny_of_T (S := fun X => True) (m := 13) _ _ _ _ ?_
  refine wpAnyT_take (i := 0) (v := .pointer (some ⟨O, 0, none⟩)) rfl (by kernel_rfl) (by kernel_rfl) (by kernel_rfl) (by kernel_rfl) (fun _ _ _ h => h) (Or.inl ⟨by kernel_rfl, fun X hS => by clear hS; go_simp⟩) trivial ?_
  try go_simp
  refine wpAnyT_take (i := 1) (v := .pointer (some ⟨O, 0, none⟩)) rfl (by kernel_rfl) (by kernel_rfl) (by kernel_rfl) (by kernel_rfl) (fun _ _ _ h => h) (Or.inl ⟨by kernel_rfl, fun X hS => by clear hS; go_simp⟩) trivial ?_
  try go_simp
  refine wpAnyT_take (i := 2) (v := .pointer (some ⟨O, 0, none⟩)) rfl (by kernel_rfl) (by kernel_rfl) (by kernel_rfl) (by kernel_rfl) (fun _ _ _ h => h) (Or.inl ⟨by kernel_rfl, fun X hS => by clear hS; go_simp⟩) trivial ?_
  try go_simp
  refine wpAnyT_take (i := 3) (v := .pointer (some ⟨O, 1, none⟩)) rfl (by kernel_rfl) (by kernel_rfl) (by kernel_rfl) (by kernel_rfl) (fun _ _ _ h => h) (Or.inl ⟨by kernel_rfl, fun X hS => by clear hS; go_simp⟩) trivial ?_
  try go_simp
  refine wpAnyT_take (i := 5) (v := .pointer (some ⟨q, 0, none⟩)) rfl (by kernel_rfl) (by kernel_rfl) (by kernel_rfl) (by kernel_rfl) (fun _ _ _ h => h) (Or.inl ⟨by kernel_rfl, fun X hS => by clear hS; go_simp⟩) trivial ?_
  try go_simp
  refine wpAnyT_take (i := 6) (v := .map (some mb)) rfl (by kernel_rfl) (by kernel_rfl) (by kernel_rfl) (by kernel_rfl) (fun _ _ _ h => h) (Or.inl ⟨by kernel_rfl, fun X hS => by clear hS; go_simp⟩) trivial ?_
  try go_simp
  have SX : V1.drew.cell? ⟨O, 1, none⟩ = some (.slice (some ⟨g10, 0, none⟩) 1 cap10) := d1
  refine wpAnyT_true (S := fun X => X.cell? ⟨O, 1, none⟩ = some (.slice (some ⟨g10, 0, none⟩) 1 cap10)) (m := 9) _ _ _ _ ?_
  refine wpAnyT_take (i := 4) (v := .slice (some ⟨g10, 0, none⟩) 1 cap10) rfl (by kernel_rfl) (by kernel_rfl) (by kernel_rfl) (by kernel_rfl) (fun _ _ _ h => h) (Or.inl ⟨by kernel_rfl, fun X hS => by have e0 := hS; clear d1; go_simp⟩) SX ?_
  try go_simp
  refine wpAnyT_one 7 rfl (by kernel_rfl) (fun K hK => ?_)
  go_simp
  refine (IH1.out V1.drew q lo mb (n + t1.size) sc0 N0 z0 (fun k => B k ∨ (Value.slice (some ⟨g10, 0, none⟩) [b0].length cap10).ownBlock = some k) HO1.out.drew.st HO1.out.drew.gh HO1.out.drew.bnd (by show z0 ≤ V1.heap.size; omega) (by omega) (KC.inode (KC.trans HK1.out (KC.below (below_drw (Below.refl _ _)))) HN1.out)).mono ?_
  rintro e W1 ⟨b1, N1, sc1, rfl, hss1, hrep1⟩
  have HP1 := hid (HO1.out.drew.after hss1)
  have HR1 := hid hrep1
  have HS1 := hid hss1
  clear hss1 hrep1
  have SX7 : W1.cell? ⟨O, 1, none⟩ = some (.slice (some ⟨g10, 0, none⟩) 1 cap10) := heap_cell HP1.out.ob 1
  refine hK _ _ (fun _ => SX7) ?_
  clear hK K
  clear SX
  have SX8 : (W1.alloc (.cells #[ptr b1] 33 (0, 0))).cell? ⟨O, 1, none⟩ = some (.slice (some ⟨g10, 0, none⟩) 1 cap10) := heap_cell (hb_alloc HP1.out.ob _) 1
  refine wpAnyT_one 8 rfl (by kernel_rfl) (fun K hK => ?_)
  go_simp
  refine hK _ _ (fun _ => SX8) ?_
  clear hK K
  clear SX7
  refine wpAnyT_drop _ 9 _ _ _ (by decide) (by kernel_rfl) ?_
  change wpList _ _ _ [_, _, _, _] _ _
  have hzw1 := lt_of_heap HP1.out.ob
  go_wp2_with (first
    | (at_builtin; refine app_push_at 52 33 (.pointer none) 1 8 Try.underlying52 infoPN rfl (by decide) rfl _ _ rfl (O + 1) (.slice (some ⟨g10, 0, none⟩) 1 cap10) 1 [ptr b0] rfl (World.ownsRow.alloc HP1.out.row _) W1.heap.size 1 [ptr b1] rfl rfl (news_one (heap_cell (heap_alloc_new _ _) 0)) (by simp [Value.oneCell']) (by decide) (by decide) (by have := hzw1; simp only [World.size_alloc]; omega) ?_; intro g11 cap11 w81 hown hgr hlie; have HQ1 := hid (HP1.out.push (b := b1) hgr hown hlie); have ob8 := HP1.out.ob8 hgr; have c8 := heap_cell ob8 1; have f8 := heap_free ob8 1; have hl8 := lt_of_heap ob8; clear hown hgr hlie ob8 SX8))
  clear c8 f8 hl8 k1 d1
  have HO2 : Hid (OS w (w81.setCell ⟨O, 1, none⟩ (.slice (some ⟨g11, 0, none⟩) 2 cap11)) mb (n + t1.size + t2.size) sc1 N1 N sc z0 B O c [b0, b1] (some ⟨g11, 0, none⟩) cap11) := HQ1.out
  have HK2 : Hid (KC w (w81.setCell ⟨O, 1, none⟩ (.slice (some ⟨g11, 0, none⟩) 2 cap11))) := KC.map HO2.out.gr HISM.out
  clear HQ1
  generalize (w81.setCell ⟨O, 1, none⟩ (.slice (some ⟨g11, 0, none⟩) 2 cap11)) = V2 at *
  rw [rounds_succ]
  go_wp2_with fail
  go_ret
  have hrep : Rep (nput N1 O (c, [b0, b1])) sc1 O (.two c t1 t2) := .n2 (nput_same _ _ _) HV.out ((HR0.out.mono HS1.out.sub HS1.out.scs).mono (nput_sub HO2.out.no) (fun _ _ h => h)) (HR1.out.mono (nput_sub HO2.out.no) (fun _ _ h => h))
  exact ⟨O, _, _, rfl, SS.mono (HO2.out.close (by omega) HA.out hrep (fun x hx => by simp at hx; rcases hx with rfl | rfl; exact (HR0.out.mono HS1.out.sub HS1.out.scs).node; exact HR1.out.node)) (by simp [Ty.size]; try omega), hrep⟩
theorem share_any : ∀ (t : Ty), t.WF → ShAt t := by
  intro t
  induction t with
  | leaf c =>
    intro h
    cases hv : isV c with
    | true => exact sh_var hv h
    | false => exact sh_c0 hv h
  | one c t ih =>
    intro h
    cases hv : isV c with
    | true => have := isV_ar hv; rw [h.1] at this; simp at this
    | false => exact sh_c1 hv h.1 (ih h.2)
  | two c t u i1 i2 =>
    intro h
    cases hv : isV c with
    | true => have := isV_ar hv; rw [h.1] at this; simp at this
    | false => exact sh_c2 hv h.1 (i1 h.2.1) (i2 h.2.2)
set_option maxHeartbeats 4000000 in
theorem fresh_any (l : List UInt8) (t : Ty) (h : ty l = some t) (w : World) (mb n : Nat) (sc : Sco) (N : Nds) (z0 : Nat) (B : Nat → Prop) (hst : ST w mb n sc N z0) (hg : GH w N L0 B) (hB : ∀ k, B k → k < w.heap.size) (hz : z0 ≤ w.heap.size) (hn : n + t.size ≤ 1000000) :
    Calls Try.prog 10 #[.string ⟨l.toArray⟩, .map (some mb)] w (ShPost w mb (n + t.size) N sc z0 B t) := by
  obtain ⟨rfl, hw, hl⟩ := ty_some h
  have hp := parse_text t hw t.text.length [] (Nat.le_refl _)
  simp only [List.append_nil] at hp
  have ho := (readType_all t.text.length t.text (Nat.le_refl _) (by simp [maxLen]; omega)).1 _ _ hp
  have HS := hid (share_any t hw)
  have HO := hid ho
  have HST := hid hst
  have HG := hid hg
  have HBB := hid hB
  clear hp h hw hl ho hst hg hB
  generalize t.text = l at *
  go_enter Try.func10, Try.ntmps10
  go_wp2_with (first
    | (go_at_call 18; refine (HO.out _).mono ?_; rintro e w1 ⟨b, rfl, hn1, hb⟩; have HN := hid hn1; have HB := hid hb; have hz1 := hb.size; clear hn1 hb)
    | (go_at_call 19; refine (HS.out w1 b _ mb n sc N z0 B (HST.out.below HB.out) (HG.out.kc (KC.below HB.out)) (fun k hk => Nat.lt_of_lt_of_le (HBB.out k hk) hz1) (by omega) hn HN.out).mono ?_; rintro e w2 ⟨b2, N2, sc2, rfl, hss, hrep⟩; have HSS := hid hss; have HR := hid hrep; clear hss hrep))
  go_ret
  exact ⟨b2, N2, sc2, rfl, ⟨HSS.out.st, HSS.out.gh, HSS.out.sub, HSS.out.scs, grown_trans (gb' HB.out _) HSS.out.gr, fun k v hk => (HSS.out.new k v hk).imp id (fun h => by omega)⟩, HR.out⟩
end GraS
end Go.Proofs.Ytebdkafblohojaa
