/- The reference's l2Match. Conditions: texts of at most 60 bytes. -/
import Derived.Test.YtlhildfiddphcaaSubS
import Derived.Test.YtlhildfiddphcaaMapS
set_option linter.unusedVariables false
set_option linter.unusedSimpArgs false
set_option maxRecDepth 100000
namespace Go.Proofs.Ytlhildfiddphcaa
open Go.RowKit Ty ListS Parts Go.Proofs.Ytlhildfiddphcaa.Text MkType
namespace MatS
open MatP Go.Proofs.Ytlhildfiddphcaa.Sub
def L2Post (w : World) (B mb : Nat) (o : Option Sg) (e : Ending) (w' : World) : Prop := e = .returned (.bool o.isSome) ∧ w.grownBy w' (some mb) ∧ ∀ s', o = some s' → MapAt (fun k => k < B) w' mb s'
theorem gb {w w' : World} (h : Below w.heap.size w w') (row : Option Nat) : w.grownBy w' row := ⟨h.os, h.tape, h.output, h.size, fun k hk _ => h.block k hk⟩
theorem grown_trans {a b c : World} {row : Option Nat} (h : a.grownBy b row) (h' : b.grownBy c row) : a.grownBy c row := ⟨h'.os.trans h.os, h'.tape.trans h.tape, h'.output.trans h.output, Nat.le_trans h.size h'.size, fun k hk hne => (h'.block k (Nat.lt_of_lt_of_le hk h.size) hne).trans (h.block k hk hne)⟩
theorem below_drewX {B : Nat} {w w' : World} (h : Below B w w') : Below B w w'.drew := ⟨h.os, h.tape, h.output, h.size, h.block⟩
theorem grown_set (w : World) (a : Addr) (u : Value) : w.grownBy (w.setCell a u) (some a.block) := by
  exact ⟨rfl, rfl, rfl, by simp, fun k hk hne => Below.heap_setCell _ _ _ _ (fun e => hne (by rw [e]))⟩
theorem cellG {w w' : World} {mb g o : Nat} {v : Value} (h : w.grownBy w' (some mb)) (hg : g < w.heap.size) (hne : g ≠ mb) (hc : w.cell? ⟨g, o, none⟩ = some v) : w'.cell? ⟨g, o, none⟩ = some v := by
  have e := h.block g hg (fun e => hne (by cases e; rfl))
  rw [← hc]
  simp [World.cell?, e]
theorem keeps_grownM {w0 w w' : World} {mb : Nat} (h : Keeps 0 w0 w) (hg : w.grownBy w' (some mb)) (hm : w0.heap.size ≤ mb) (hz : w0.heap.size ≤ w.heap.size) : Keeps 0 w0 w' := fun k h1 hk => (hg.block k (by omega) (fun e => by cases e; omega)).trans (h k h1 hk)
theorem sr_old {w0 w : World} {t : Ty} {h s : Value} (hn : SNode 0 w0 t h s) (hk : Keeps 0 w0 w) (hz : w0.heap.size ≤ w.heap.size) : SR (fun k => k < w0.heap.size) w t h s := fun w2 h2 z2 => Keeps.snode (fun k h1 hk1 => (h2 k hk1 (by omega)).trans (hk k h1 hk1)) hn
theorem head_ne {t : Ty} (h : t.WF) : t.head ≠ 0 := by
  intro e
  cases t with
  | leaf c => simp [Ty.head] at e; subst e; have : ar 0 = some 0 := h; simp [ar] at this
  | one c u => simp [Ty.head] at e; subst e; have := h.1; simp [ar] at this
  | two c u v => simp [Ty.head] at e; subst e; have := h.1; simp [ar] at this
theorem head_con {p : Ty} (h : p.WF) (hv : isV p.head = false) : p.head ∉ lets := by
  have h1 : ∃ k, ar p.head = some k := by cases p with | leaf c => exact ⟨0, h⟩ | one c u => exact ⟨1, h.1⟩ | two c u v => exact ⟨2, h.1⟩
  obtain ⟨k, hk⟩ := h1
  intro hm
  simp [lets] at hm
  rcases hm with e | e | e | e | e | e | e | e | e | e | e | e <;> rw [e] at hv hk <;> first | (simp [isV] at hv; done) | (simp [ar] at hk; done)
theorem mtl_step {p u : Ty} {ps ts : List Ty} {s : Sg} {k : Nat} (hp : ps[k]? = some p) (hu : ts[k]? = some u) : mtl (ps.drop k) (ts.drop k) s = (mt p u s).bind (mtl (ps.drop (k + 1)) (ts.drop (k + 1))) := by
  obtain ⟨h1, rfl⟩ := List.getElem?_eq_some_iff.1 hp
  obtain ⟨h2, rfl⟩ := List.getElem?_eq_some_iff.1 hu
  rw [List.drop_eq_getElem_cons h1, List.drop_eq_getElem_cons h2]
  rfl
theorem mtl_end {ps ts : List Ty} {s : Sg} {k : Nat} (h : ps.length ≤ k) : mtl (ps.drop k) (ts.drop k) s = some s := by
  rw [List.drop_eq_nil_of_le h]
  simp [mtl]
theorem u8_eq (c d : UInt8) : ((c.toNat : Int) == d.toNat) = decide (c = d) := by
  by_cases e : c = d
  · subst e; simp
  · rw [decide_eq_false e, beq_eq_false_iff_ne]
    intro h
    exact e (UInt8.toNat_inj.1 (by omega))
/-- what the loop over the parts knows -/
def SL (w w0 : World) (mb : Nat) (p t : Ty) (s : Sg) (bp bt : Obj) (q : Nat) (iv : Value) (wr : World) : Prop :=
  ∃ (k : Nat) (sk : Sg), k ≤ p.parts.length ∧ p.parts.length - k ≤ q ∧ iv = .int .i64 k ∧ Hid (mtl p.parts t.parts s = mtl (p.parts.drop k) (t.parts.drop k) sk) ∧ GS 60 sk ∧ MapAt (fun k => k < w0.heap.size) wr mb sk ∧ w.grownBy wr (some mb) ∧ wr.heap[w.heap.size]? = some bp ∧ wr.heap[w.heap.size + 1]? = some bt
set_option maxHeartbeats 8000000 in
theorem l2Match_any (M : Nat) : ∀ (p t : Ty) (h1 s1 h2 s2 : Value) (w0 w : World) (mb : Nat) (s : Sg), p.size < M → p.WF → t.WF → t.text.length ≤ 60 → GS 60 s → Keeps 0 w0 w → MapAt (fun k => k < w0.heap.size) w mb s → w0.heap.size ≤ mb → SNode 0 w0 p h1 s1 → SNode 0 w0 t h2 s2 →
    Calls Try.prog 13 #[.pointer (some ⟨mb, 0, none⟩), .agg #[h1, s1], .agg #[h2, s2]] w (L2Post w w0.heap.size mb (mt p t s)) := by
  induction M with
  | zero => intro p t h1 s1 h2 s2 w0 w mb s h; omega
  | succ M ih =>
    intro p t h1 s1 h2 s2 w0 w mb s hN hp ht hlen hgs hk0 hmap hmbB hnp hnt
    have hwz : w0.heap.size ≤ w.heap.size := by have := hmap.lt; omega
    have IH := hid ih
    have HGS := hid hgs
    have HP := hid hp
    have HT := hid ht
    have HK0 := hid hk0
    have HMAP := hid hmap
    have HNP := hid hnp
    have HNT := hid hnt
    obtain ⟨rfl, ps, hrp, hpp⟩ := snode hnp
    obtain ⟨rfl, ts, hrt, htt⟩ := snode hnt
    obtain ⟨a, cap, rfl⟩ := row_slice hrp
    obtain ⟨a2, cap2, rfl⟩ := row_slice hrt
    have HRP := hid hrp
    have HRT := hid hrt
    have HPP := hid hpp
    have HTT := hid htt
    have hmlt := hmap.lt
    have hpl2 := parts_len p
    obtain ⟨hm0, cs, em, hm1, hm2, hm3⟩ := hmap
    clear ih hgs hp ht hk0 hnp hnt hrp hrt hpp htt
    cases hvh : isV p.head with
    | true =>
      have HM : Hid (mt p t s = match s p.head with | some u => if u = t then some s else none | none => some (upd s p.head t)) := mt_var HP.out s hvh
      rcases ix_cases p.head with ⟨-, hni⟩ | ⟨k, hk, hix, hkl⟩
      · exact absurd (isV_lets hvh) hni
      obtain ⟨hd, au, nm, cu, q1, q2, q3⟩ := hm3 k hk _ hkl
      have HIX := hid hix
      have HKL := hid hkl
      have km0 : w.cell? ⟨mb, k * 2, none⟩ = some (.int .u8 hd.toNat) := (heap_cell hm1 _).trans q1
      have km1 : w.cell? ⟨mb, k * 2 + 1, none⟩ = some (.slice au nm cu) := (heap_cell hm1 _).trans q2
      have fm0 := heap_free hm1 (k * 2)
      have fm1 := heap_free hm1 (k * 2 + 1)
      have hj2 : (k : Int) < 12 := by omega
      clear hix hkl hm0 hm3 hm1 hm2 q1 q2 hvh
      cases hs : s p.head with
      | none =>
        rw [hs] at q3
        obtain rfl : hd = 0 := q3
        have HR : Hid (mt p t s = some (upd s p.head t)) := by show _ = _; rw [HM.out, hs]
        clear hs HM
        go_enter Try.func13, Try.ntmps13
        go_wp2_with (first | (go_at_call 21; refine (l2Index_any p.head _).mono ?_; rintro e w' ⟨rfl, rfl⟩; rw [HIX.out]))
        go_region
        go_wp2_with fail
        go_ret
        refine ⟨by rw [HR.out]; rfl, ?_, fun s' e => ?_⟩
        · exact grown_trans (grown_trans (grown_set w ⟨mb, k * 2, none⟩ _) (grown_set _ ⟨mb, k * 2 + 1, none⟩ _)) (gb (below_drewX (((Below.refl _ _).alloc (Nat.le_refl _) _).alloc (by simp) _)) _)
        · rw [HR.out] at e
          cases e
          exact (MapAt.set HMAP.out (by omega) hk HKL.out (sr_old HNT.out HK0.out hwz) (head_ne HT.out)).below (below_drewX (((Below.refl _ _).alloc (Nat.le_refl _) _).alloc (by simp) _))
      | some u =>
        rw [hs] at q3
        obtain ⟨rfl, hne, hsr⟩ := q3
        have hu := HGS.out _ _ hs
        have hul : u.text.length ≤ 60 := hu.2.2
        have hz0 : ((u.head.toNat : Int) == 0) = false := by
          rw [beq_eq_false_iff_ne]; intro e
          exact hne (UInt8.toNat_inj.1 (by have : u.head.toNat = 0 := by omega
                                           rw [this]; rfl))
        obtain ⟨-, pu, hru, -⟩ := snode hsr.here
        obtain ⟨au', cu', eu⟩ := row_slice hru
        cases eu
        obtain ⟨nu, hnu⟩ : ∃ n, n = u.parts.length := ⟨_, rfl⟩
        have HSR : Hid (SR (fun k => k < w0.heap.size) w u (.int .u8 u.head.toNat) (.slice au nu cu)) := by rw [hnu]; exact hsr
        rw [← hnu] at km1
        have HEQ : Hid ((mt p t s).isSome = decide (u = t) ∧ ∀ s', mt p t s = some s' → s' = s) := by
          refine ⟨?_, fun s' e => ?_⟩
          · rw [HM.out, hs]
            by_cases e : u = t <;> simp [e]
          · rw [HM.out, hs] at e
            by_cases e2 : u = t
            · simp [e2] at e; exact e.symm
            · simp [e2] at e
        have heq := text_beq hu.2.1 HT.out
        clear hs HM hru hnu hsr
        cases hut : decide (u = t) with
        | true =>
          rw [hut] at heq
          have HRR : Hid ((mt p t s).isSome = true) := HEQ.out.1.trans hut
          clear hut
          go_enter Try.func13, Try.ntmps13
          go_wp2_with (first | (go_at_call 21; refine (l2Index_any p.head _).mono ?_; rintro e w' ⟨rfl, rfl⟩; rw [HIX.out]))
          have HBW : Hid (Below w.heap.size w ((w.alloc (.cells #[.int .u8 p.head.toNat, .slice a p.parts.length cap] 30)).alloc (.cells #[.int .u8 t.head.toNat, .slice a2 t.parts.length cap2] 30))) := ((Below.refl _ _).alloc (Nat.le_refl _) _).alloc (by simp) _
          have m0 : ((w.alloc (.cells #[.int .u8 p.head.toNat, .slice a p.parts.length cap] 30)).alloc (.cells #[.int .u8 t.head.toNat, .slice a2 t.parts.length cap2] 30)).cell? ⟨mb, k * 2, none⟩ = some (.int .u8 u.head.toNat) := (HBW.out.cell (p := ⟨mb, k * 2, none⟩) hmlt).trans km0
          have m1 : ((w.alloc (.cells #[.int .u8 p.head.toNat, .slice a p.parts.length cap] 30)).alloc (.cells #[.int .u8 t.head.toNat, .slice a2 t.parts.length cap2] 30)).cell? ⟨mb, k * 2 + 1, none⟩ = some (.slice au nu cu) := (HBW.out.cell (p := ⟨mb, k * 2 + 1, none⟩) hmlt).trans km1
          have d0 : ((w.alloc (.cells #[.int .u8 p.head.toNat, .slice a p.parts.length cap] 30)).alloc (.cells #[.int .u8 t.head.toNat, .slice a2 t.parts.length cap2] 30)).cell? ⟨w.heap.size + 1, 0, none⟩ = some (.int .u8 t.head.toNat) := heap_cell (heap_alloc2_new _ _ _) 0
          have d1 : ((w.alloc (.cells #[.int .u8 p.head.toNat, .slice a p.parts.length cap] 30)).alloc (.cells #[.int .u8 t.head.toNat, .slice a2 t.parts.length cap2] 30)).cell? ⟨w.heap.size + 1, 1, none⟩ = some (.slice a2 t.parts.length cap2) := heap_cell (heap_alloc2_new _ _ _) 1
          have HSU : Hid (SNode 0 ((w.alloc (.cells #[.int .u8 p.head.toNat, .slice a p.parts.length cap] 30)).alloc (.cells #[.int .u8 t.head.toNat, .slice a2 t.parts.length cap2] 30)).drew u (.int .u8 u.head.toNat) (.slice au nu cu)) := HSR.out _ (fun k h1 h2 => HBW.out.block k h2) HBW.out.size
          have HSTW : Hid (SNode 0 ((w.alloc (.cells #[.int .u8 p.head.toNat, .slice a p.parts.length cap] 30)).alloc (.cells #[.int .u8 t.head.toNat, .slice a2 t.parts.length cap2] 30)) t (.int .u8 t.head.toNat) (.slice a2 t.parts.length cap2)) := Keeps.snode (w := w0) (fun k h1 hk1 => (HBW.out.block k (by omega)).trans (HK0.out k h1 hk1)) HNT.out
          have hzW : ((w.alloc (.cells #[.int .u8 p.head.toNat, .slice a p.parts.length cap] 30)).alloc (.cells #[.int .u8 t.head.toNat, .slice a2 t.parts.length cap2] 30)).heap.size = w.heap.size + 2 := by simp
          have HMAPW : Hid (MapAt (fun k => k < w0.heap.size) ((w.alloc (.cells #[.int .u8 p.head.toNat, .slice a p.parts.length cap] 30)).alloc (.cells #[.int .u8 t.head.toNat, .slice a2 t.parts.length cap2] 30)) mb s) := HMAP.out.below HBW.out
          clear km0 km1 fm0 fm1
          generalize ((w.alloc (.cells #[.int .u8 p.head.toNat, .slice a p.parts.length cap] 30)).alloc (.cells #[.int .u8 t.head.toNat, .slice a2 t.parts.length cap2] 30)) = W at *
          have hmW : mb < W.heap.size := by omega
          have hbW : w.heap.size + 1 < W.heap.size := by omega
          refine wp_region_any (by kernel_rfl) ?_
          change wpAny _ _ _ _ _ _ _ (World.drew _)
          have SX : W.drew.cell? ⟨mb, k * 2, none⟩ = some (.int .u8 u.head.toNat) ∧ W.drew.cell? ⟨mb, k * 2 + 1, none⟩ = some (.slice au nu cu) ∧ W.drew.cell? ⟨w.heap.size + 1, 0, none⟩ = some (.int .u8 t.head.toNat) ∧ W.drew.cell? ⟨w.heap.size + 1, 1, none⟩ = some (.slice a2 t.parts.length cap2) := ⟨m0, m1, d0, d1⟩
          refine wpAny_of_T (S := fun X => X.cell? ⟨mb, k * 2, none⟩ = some (.int .u8 u.head.toNat) ∧ X.cell? ⟨mb, k * 2 + 1, none⟩ = some (.slice au nu cu) ∧ X.cell? ⟨w.heap.size + 1, 0, none⟩ = some (.int .u8 t.head.toNat) ∧ X.cell? ⟨w.heap.size + 1, 1, none⟩ = some (.slice a2 t.parts.length cap2)) (m := 10) _ _ _ _ ?_
          clear m0 m1 d0 d1
          refine wpAnyT_take (i := 0) (v := .pointer (some ⟨mb, 0, none⟩)) rfl (by kernel_rfl) (by kernel_rfl) (by kernel_rfl) (by kernel_rfl) (fun _ _ _ h => h) (Or.inl ⟨by kernel_rfl, fun X hS => by obtain ⟨e0, e1, e2, e3⟩ := hS; go_simp⟩) SX ?_
          try go_simp
          refine wpAnyT_take (i := 1) (v := .int .i64 k) rfl (by kernel_rfl) (by kernel_rfl) (by kernel_rfl) (by kernel_rfl) (fun _ _ _ h => h) (Or.inl ⟨by kernel_rfl, fun X hS => by obtain ⟨e0, e1, e2, e3⟩ := hS; go_simp⟩) SX ?_
          try go_simp
          refine wpAnyT_take (i := 2) (v := .pointer (some ⟨mb, 0, none⟩)) rfl (by kernel_rfl) (by kernel_rfl) (by kernel_rfl) (by kernel_rfl) (fun _ _ _ h => h) (Or.inl ⟨by kernel_rfl, fun X hS => by obtain ⟨e0, e1, e2, e3⟩ := hS; go_simp⟩) SX ?_
          try go_simp
          refine wpAnyT_take (i := 3) (v := .pointer (some ⟨mb, k * 2, none⟩)) rfl (by kernel_rfl) (by kernel_rfl) (by kernel_rfl) (by kernel_rfl) (fun _ _ _ h => h) (Or.inl ⟨by kernel_rfl, fun X hS => by obtain ⟨e0, e1, e2, e3⟩ := hS; go_simp⟩) SX ?_
          try go_simp
          refine wpAnyT_take (i := 4) (v := .agg #[.int .u8 u.head.toNat, .slice au nu cu]) rfl (by kernel_rfl) (by kernel_rfl) (by kernel_rfl) (by kernel_rfl) (fun _ _ _ h => h) (Or.inl ⟨by kernel_rfl, fun X hS => by obtain ⟨e0, e1, e2, e3⟩ := hS; go_simp⟩) SX ?_
          try go_simp
          refine wpAnyT_take (i := 6) (v := .agg #[.int .u8 t.head.toNat, .slice a2 t.parts.length cap2]) rfl (by kernel_rfl) (by kernel_rfl) (by kernel_rfl) (by kernel_rfl) (fun _ _ _ h => h) (Or.inl ⟨by kernel_rfl, fun X hS => by obtain ⟨e0, e1, e2, e3⟩ := hS; go_simp⟩) SX ?_
          try go_simp
          refine wpAnyT_one 5 rfl (by kernel_rfl) (fun K hK => ?_)
          go_simp
          refine (l1Text_any (u.size + 1) u _ _ 0 W.drew (by omega) (by omega) HSU.out).mono ?_
          rintro e w5 ⟨rfl, hb⟩
          have HB5 : Hid (Below W.heap.size W w5) := ⟨hb.os, hb.tape, hb.output, hb.size, hb.block⟩
          have HST5 : Hid (SNode 0 w5 t (.int .u8 t.head.toNat) (.slice a2 t.parts.length cap2)) := Keeps.snode (keeps_of HB5.out 0) HSTW.out
          have hz5 := HB5.out.size
          clear hb
          have SX5 : w5.cell? ⟨mb, k * 2, none⟩ = some (.int .u8 u.head.toNat) ∧ w5.cell? ⟨mb, k * 2 + 1, none⟩ = some (.slice au nu cu) ∧ w5.cell? ⟨w.heap.size + 1, 0, none⟩ = some (.int .u8 t.head.toNat) ∧ w5.cell? ⟨w.heap.size + 1, 1, none⟩ = some (.slice a2 t.parts.length cap2) := ⟨((HB5.out).cell (p := ⟨mb, k * 2, none⟩) hmW).trans SX.1, ((HB5.out).cell (p := ⟨mb, k * 2 + 1, none⟩) hmW).trans SX.2.1, ((HB5.out).cell (p := ⟨w.heap.size + 1, 0, none⟩) hbW).trans SX.2.2.1, ((HB5.out).cell (p := ⟨w.heap.size + 1, 1, none⟩) hbW).trans SX.2.2.2⟩
          refine hK _ _ (fun _ => SX5) ?_
          clear hK K
          refine wpAnyT_one 7 rfl (by kernel_rfl) (fun K hK => ?_)
          go_simp
          refine (l1Text_any (t.size + 1) t _ _ 0 w5 (by omega) (by omega) HST5.out).mono ?_
          rintro e w6 ⟨rfl, hb⟩
          have HB6 : Hid (Below W.heap.size W w6) := HB5.out.trans (hb.mono HB5.out.size)
          clear hb
          have SX6 : w6.cell? ⟨mb, k * 2, none⟩ = some (.int .u8 u.head.toNat) ∧ w6.cell? ⟨mb, k * 2 + 1, none⟩ = some (.slice au nu cu) ∧ w6.cell? ⟨w.heap.size + 1, 0, none⟩ = some (.int .u8 t.head.toNat) ∧ w6.cell? ⟨w.heap.size + 1, 1, none⟩ = some (.slice a2 t.parts.length cap2) := ⟨((HB6.out).cell (p := ⟨mb, k * 2, none⟩) hmW).trans SX.1, ((HB6.out).cell (p := ⟨mb, k * 2 + 1, none⟩) hmW).trans SX.2.1, ((HB6.out).cell (p := ⟨w.heap.size + 1, 0, none⟩) hbW).trans SX.2.2.1, ((HB6.out).cell (p := ⟨w.heap.size + 1, 1, none⟩) hbW).trans SX.2.2.2⟩
          refine hK _ _ (fun _ => SX6) ?_
          clear hK K
          clear SX SX5
          refine wpAnyT_take (i := 8) (v := .bool true) rfl (by kernel_rfl) (by kernel_rfl) (by kernel_rfl) (by kernel_rfl) (fun _ _ _ h => h) (Or.inl ⟨by kernel_rfl, fun X hS => by obtain ⟨e0, e1, e2, e3⟩ := hS; go_simp⟩) SX6 ?_
          try go_simp
          refine wpAnyT_one 9 rfl (by kernel_rfl) (fun K hK => ?_)
          go_simp
          refine hK _ _ (fun _ => SX6) ?_
          clear hK K
          refine wpAnyT_drop _ 10 _ _ _ (by decide) (by kernel_rfl) ?_
          change wpList _ _ _ [] _ _
          clear SX6
          go_wp2
          go_ret
          exact ⟨by rw [HRR.out]; rfl, gb (HBW.out.trans (HB6.out.mono (by omega))) _, fun s' e => by rw [HEQ.out.2 s' e]; exact HMAPW.out.below HB6.out⟩
        | false =>
          rw [hut] at heq
          have HRR : Hid ((mt p t s).isSome = false) := HEQ.out.1.trans hut
          clear hut
          go_enter Try.func13, Try.ntmps13
          go_wp2_with (first | (go_at_call 21; refine (l2Index_any p.head _).mono ?_; rintro e w' ⟨rfl, rfl⟩; rw [HIX.out]))
          have HBW : Hid (Below w.heap.size w ((w.alloc (.cells #[.int .u8 p.head.toNat, .slice a p.parts.length cap] 30)).alloc (.cells #[.int .u8 t.head.toNat, .slice a2 t.parts.length cap2] 30))) := ((Below.refl _ _).alloc (Nat.le_refl _) _).alloc (by simp) _
          have m0 : ((w.alloc (.cells #[.int .u8 p.head.toNat, .slice a p.parts.length cap] 30)).alloc (.cells #[.int .u8 t.head.toNat, .slice a2 t.parts.length cap2] 30)).cell? ⟨mb, k * 2, none⟩ = some (.int .u8 u.head.toNat) := (HBW.out.cell (p := ⟨mb, k * 2, none⟩) hmlt).trans km0
          have m1 : ((w.alloc (.cells #[.int .u8 p.head.toNat, .slice a p.parts.length cap] 30)).alloc (.cells #[.int .u8 t.head.toNat, .slice a2 t.parts.length cap2] 30)).cell? ⟨mb, k * 2 + 1, none⟩ = some (.slice au nu cu) := (HBW.out.cell (p := ⟨mb, k * 2 + 1, none⟩) hmlt).trans km1
          have d0 : ((w.alloc (.cells #[.int .u8 p.head.toNat, .slice a p.parts.length cap] 30)).alloc (.cells #[.int .u8 t.head.toNat, .slice a2 t.parts.length cap2] 30)).cell? ⟨w.heap.size + 1, 0, none⟩ = some (.int .u8 t.head.toNat) := heap_cell (heap_alloc2_new _ _ _) 0
          have d1 : ((w.alloc (.cells #[.int .u8 p.head.toNat, .slice a p.parts.length cap] 30)).alloc (.cells #[.int .u8 t.head.toNat, .slice a2 t.parts.length cap2] 30)).cell? ⟨w.heap.size + 1, 1, none⟩ = some (.slice a2 t.parts.length cap2) := heap_cell (heap_alloc2_new _ _ _) 1
          have HSU : Hid (SNode 0 ((w.alloc (.cells #[.int .u8 p.head.toNat, .slice a p.parts.length cap] 30)).alloc (.cells #[.int .u8 t.head.toNat, .slice a2 t.parts.length cap2] 30)).drew u (.int .u8 u.head.toNat) (.slice au nu cu)) := HSR.out _ (fun k h1 h2 => HBW.out.block k h2) HBW.out.size
          have HSTW : Hid (SNode 0 ((w.alloc (.cells #[.int .u8 p.head.toNat, .slice a p.parts.length cap] 30)).alloc (.cells #[.int .u8 t.head.toNat, .slice a2 t.parts.length cap2] 30)) t (.int .u8 t.head.toNat) (.slice a2 t.parts.length cap2)) := Keeps.snode (w := w0) (fun k h1 hk1 => (HBW.out.block k (by omega)).trans (HK0.out k h1 hk1)) HNT.out
          have hzW : ((w.alloc (.cells #[.int .u8 p.head.toNat, .slice a p.parts.length cap] 30)).alloc (.cells #[.int .u8 t.head.toNat, .slice a2 t.parts.length cap2] 30)).heap.size = w.heap.size + 2 := by simp
          have HMAPW : Hid (MapAt (fun k => k < w0.heap.size) ((w.alloc (.cells #[.int .u8 p.head.toNat, .slice a p.parts.length cap] 30)).alloc (.cells #[.int .u8 t.head.toNat, .slice a2 t.parts.length cap2] 30)) mb s) := HMAP.out.below HBW.out
          clear km0 km1 fm0 fm1
          generalize ((w.alloc (.cells #[.int .u8 p.head.toNat, .slice a p.parts.length cap] 30)).alloc (.cells #[.int .u8 t.head.toNat, .slice a2 t.parts.length cap2] 30)) = W at *
          have hmW : mb < W.heap.size := by omega
          have hbW : w.heap.size + 1 < W.heap.size := by omega
          refine wp_region_any (by kernel_rfl) ?_
          change wpAny _ _ _ _ _ _ _ (World.drew _)
          have SX : W.drew.cell? ⟨mb, k * 2, none⟩ = some (.int .u8 u.head.toNat) ∧ W.drew.cell? ⟨mb, k * 2 + 1, none⟩ = some (.slice au nu cu) ∧ W.drew.cell? ⟨w.heap.size + 1, 0, none⟩ = some (.int .u8 t.head.toNat) ∧ W.drew.cell? ⟨w.heap.size + 1, 1, none⟩ = some (.slice a2 t.parts.length cap2) := ⟨m0, m1, d0, d1⟩
          refine wpAny_of_T (S := fun X => X.cell? ⟨mb, k * 2, none⟩ = some (.int .u8 u.head.toNat) ∧ X.cell? ⟨mb, k * 2 + 1, none⟩ = some (.slice au nu cu) ∧ X.cell? ⟨w.heap.size + 1, 0, none⟩ = some (.int .u8 t.head.toNat) ∧ X.cell? ⟨w.heap.size + 1, 1, none⟩ = some (.slice a2 t.parts.length cap2)) (m := 10) _ _ _ _ ?_
          clear m0 m1 d0 d1
          refine wpAnyT_take (i := 0) (v := .pointer (some ⟨mb, 0, none⟩)) rfl (by kernel_rfl) (by kernel_rfl) (by kernel_rfl) (by kernel_rfl) (fun _ _ _ h => h) (Or.inl ⟨by kernel_rfl, fun X hS => by obtain ⟨e0, e1, e2, e3⟩ := hS; go_simp⟩) SX ?_
          try go_simp
          refine wpAnyT_take (i := 1) (v := .int .i64 k) rfl (by kernel_rfl) (by kernel_rfl) (by kernel_rfl) (by kernel_rfl) (fun _ _ _ h => h) (Or.inl ⟨by kernel_rfl, fun X hS => by obtain ⟨e0, e1, e2, e3⟩ := hS; go_simp⟩) SX ?_
          try go_simp
          refine wpAnyT_take (i := 2) (v := .pointer (some ⟨mb, 0, none⟩)) rfl (by kernel_rfl) (by kernel_rfl) (by kernel_rfl) (by kernel_rfl) (fun _ _ _ h => h) (Or.inl ⟨by kernel_rfl, fun X hS => by obtain ⟨e0, e1, e2, e3⟩ := hS; go_simp⟩) SX ?_
          try go_simp
          refine wpAnyT_take (i := 3) (v := .pointer (some ⟨mb, k * 2, none⟩)) rfl (by kernel_rfl) (by kernel_rfl) (by kernel_rfl) (by kernel_rfl) (fun _ _ _ h => h) (Or.inl ⟨by kernel_rfl, fun X hS => by obtain ⟨e0, e1, e2, e3⟩ := hS; go_simp⟩) SX ?_
          try go_simp
          refine wpAnyT_take (i := 4) (v := .agg #[.int .u8 u.head.toNat, .slice au nu cu]) rfl (by kernel_rfl) (by kernel_rfl) (by kernel_rfl) (by kernel_rfl) (fun _ _ _ h => h) (Or.inl ⟨by kernel_rfl, fun X hS => by obtain ⟨e0, e1, e2, e3⟩ := hS; go_simp⟩) SX ?_
          try go_simp
          refine wpAnyT_take (i := 6) (v := .agg #[.int .u8 t.head.toNat, .slice a2 t.parts.length cap2]) rfl (by kernel_rfl) (by kernel_rfl) (by kernel_rfl) (by kernel_rfl) (fun _ _ _ h => h) (Or.inl ⟨by kernel_rfl, fun X hS => by obtain ⟨e0, e1, e2, e3⟩ := hS; go_simp⟩) SX ?_
          try go_simp
          refine wpAnyT_one 5 rfl (by kernel_rfl) (fun K hK => ?_)
          go_simp
          refine (l1Text_any (u.size + 1) u _ _ 0 W.drew (by omega) (by omega) HSU.out).mono ?_
          rintro e w5 ⟨rfl, hb⟩
          have HB5 : Hid (Below W.heap.size W w5) := ⟨hb.os, hb.tape, hb.output, hb.size, hb.block⟩
          have HST5 : Hid (SNode 0 w5 t (.int .u8 t.head.toNat) (.slice a2 t.parts.length cap2)) := Keeps.snode (keeps_of HB5.out 0) HSTW.out
          have hz5 := HB5.out.size
          clear hb
          have SX5 : w5.cell? ⟨mb, k * 2, none⟩ = some (.int .u8 u.head.toNat) ∧ w5.cell? ⟨mb, k * 2 + 1, none⟩ = some (.slice au nu cu) ∧ w5.cell? ⟨w.heap.size + 1, 0, none⟩ = some (.int .u8 t.head.toNat) ∧ w5.cell? ⟨w.heap.size + 1, 1, none⟩ = some (.slice a2 t.parts.length cap2) := ⟨((HB5.out).cell (p := ⟨mb, k * 2, none⟩) hmW).trans SX.1, ((HB5.out).cell (p := ⟨mb, k * 2 + 1, none⟩) hmW).trans SX.2.1, ((HB5.out).cell (p := ⟨w.heap.size + 1, 0, none⟩) hbW).trans SX.2.2.1, ((HB5.out).cell (p := ⟨w.heap.size + 1, 1, none⟩) hbW).trans SX.2.2.2⟩
          refine hK _ _ (fun _ => SX5) ?_
          clear hK K
          refine wpAnyT_one 7 rfl (by kernel_rfl) (fun K hK => ?_)
          go_simp
          refine (l1Text_any (t.size + 1) t _ _ 0 w5 (by omega) (by omega) HST5.out).mono ?_
          rintro e w6 ⟨rfl, hb⟩
          have HB6 : Hid (Below W.heap.size W w6) := HB5.out.trans (hb.mono HB5.out.size)
          clear hb
          have SX6 : w6.cell? ⟨mb, k * 2, none⟩ = some (.int .u8 u.head.toNat) ∧ w6.cell? ⟨mb, k * 2 + 1, none⟩ = some (.slice au nu cu) ∧ w6.cell? ⟨w.heap.size + 1, 0, none⟩ = some (.int .u8 t.head.toNat) ∧ w6.cell? ⟨w.heap.size + 1, 1, none⟩ = some (.slice a2 t.parts.length cap2) := ⟨((HB6.out).cell (p := ⟨mb, k * 2, none⟩) hmW).trans SX.1, ((HB6.out).cell (p := ⟨mb, k * 2 + 1, none⟩) hmW).trans SX.2.1, ((HB6.out).cell (p := ⟨w.heap.size + 1, 0, none⟩) hbW).trans SX.2.2.1, ((HB6.out).cell (p := ⟨w.heap.size + 1, 1, none⟩) hbW).trans SX.2.2.2⟩
          refine hK _ _ (fun _ => SX6) ?_
          clear hK K
          clear SX SX5
          refine wpAnyT_take (i := 8) (v := .bool false) rfl (by kernel_rfl) (by kernel_rfl) (by kernel_rfl) (by kernel_rfl) (fun _ _ _ h => h) (Or.inl ⟨by kernel_rfl, fun X hS => by obtain ⟨e0, e1, e2, e3⟩ := hS; go_simp⟩) SX6 ?_
          try go_simp
          refine wpAnyT_one 9 rfl (by kernel_rfl) (fun K hK => ?_)
          go_simp
          refine hK _ _ (fun _ => SX6) ?_
          clear hK K
          refine wpAnyT_drop _ 10 _ _ _ (by decide) (by kernel_rfl) ?_
          change wpList _ _ _ [] _ _
          clear SX6
          go_wp2
          go_ret
          exact ⟨by rw [HRR.out]; rfl, gb (HBW.out.trans (HB6.out.mono (by omega))) _, fun s' e => by rw [HEQ.out.2 s' e]; exact HMAPW.out.below HB6.out⟩
    | false =>
      have HM : Hid (mt p t s = if t.head = p.head then mtl p.parts t.parts s else none) := mt_con HP.out HT.out s hvh
      rcases ix_cases p.head with ⟨hix, -⟩ | ⟨k, hk, hix, hkl⟩
      rotate_left
      · exact absurd (List.mem_of_getElem? hkl) (head_con HP.out hvh)
      have HIX := hid hix
      clear hix hvh hm0 hm1 hm2 hm3
      by_cases hhd : t.head = p.head
      · have HR : Hid (mt p t s = mtl p.parts t.parts s) := by show _ = _; rw [HM.out, if_pos hhd]
        have HLN : Hid (t.parts.length = p.parts.length) := wf_len HP.out HT.out hhd
        have hszp := size_szs p
        have HDD : Hid ((p.head.toNat : Int) = t.head.toNat) := by show _ = _; rw [hhd]
        have heq : ((p.head.toNat : Int) != t.head.toNat) = false := by rw [hhd]; simp
        clear HM hhd
        go_enter Try.func13, Try.ntmps13
        go_wp2_with (first | (go_at_call 21; refine (l2Index_any p.head _).mono ?_; rintro e w' ⟨rfl, rfl⟩; rw [HIX.out]))
        go_loopg [43] p.parts.length (fun q iv wr => SL w w0 mb p t s (.cells #[.int .u8 p.head.toNat, .slice a p.parts.length cap] 30 (0, 0)) (.cells #[.int .u8 t.head.toNat, .slice a2 t.parts.length cap2] 30 (0, 0)) q iv wr)
        case atStart =>
          refine ⟨0, s, Nat.zero_le _, by simp, rfl, rfl, HGS.out, HMAP.out.below (((Below.refl _ _).alloc (Nat.le_refl _) _).alloc (by simp) _), gb (((Below.refl _ _).alloc (Nat.le_refl _) _).alloc (by simp) _) _, ?_, ?_⟩
          · exact hb_alloc (heap_alloc_new _ _) _
          · exact heap_alloc2_new _ _ _
        case round =>
          obtain ⟨k, sk, hk, hq, rfl, hmt, hgk, hmapk, hgr, hb0, hb1⟩ := hrel
          have HMT := hid hmt.out
          have HGK := hid hgk
          have HMAPk := hid hmapk
          have HGR := hid hgr
          have HB0 := hid hb0
          have HB1 := hid hb1
          have hmr := hmapk.lt
          have hwr := lt_of_heap hb1
          have kb0 := heap_cell hb0 1
          clear hmt hgk hmapk hgr hb0 hb1
          by_cases hlt : k < p.parts.length
          · obtain ⟨u, hu⟩ : ∃ u, p.parts[k]? = some u := ⟨_, List.getElem?_eq_getElem hlt⟩
            obtain ⟨u2, hu2⟩ : ∃ u, t.parts[k]? = some u := ⟨_, List.getElem?_eq_getElem (by have := HLN.out; omega)⟩
            obtain ⟨hu0, su0, pu0, pu1, hn1⟩ := HPP.out k u hu
            obtain ⟨hv0, sv0, pv0, pv1, hn2⟩ := HTT.out k u2 hu2
            obtain ⟨rfl, au, nu, cu, rfl⟩ := hn1.form
            obtain ⟨rfl, au2, nu2, cu2, rfl⟩ := hn2.form
            have HSTEP : Hid (mtl (p.parts.drop k) (t.parts.drop k) sk = (mt u u2 sk).bind (mtl (p.parts.drop (k + 1)) (t.parts.drop (k + 1)))) := mtl_step hu hu2
            have HW1 := hid (wf_parts HP.out (List.mem_of_getElem? hu))
            have HW2 := hid (wf_parts HT.out (List.mem_of_getElem? hu2))
            have hlt2 : k < t.parts.length := by have := HLN.out; omega
            obtain ⟨g0, cap0, e0, -, hg0, cs0, hc0, hd0⟩ := row_at HRP.out (by omega)
            cases e0
            obtain ⟨g1, cap1, e1, -, hg1, cs1, hc1, hd1⟩ := row_at HRT.out (by omega)
            cases e1
            have HK0w : Hid (Keeps 0 w0 wr) := keeps_grownM HK0.out HGR.out hmbB hwz
            have HK0r : Hid (Keeps 0 w0 wr.drew) := HK0w.out
            have hc0 := HK0w.out.heap (Nat.zero_le _) hc0
            have hc1 := HK0w.out.heap (Nat.zero_le _) hc1
            have hgr0 : g0 < wr.heap.size := by omega
            have hgr1 : g1 < wr.heap.size := by omega
            have hgm0 : g0 ≠ mb := by omega
            have hgm1 : g1 ≠ mb := by omega
            have x0 : wr.cell? ⟨w.heap.size, 1, none⟩ = some (.slice (some ⟨g0, 0, none⟩) p.parts.length cap) := heap_cell HB0.out 1
            have x1 : wr.cell? ⟨w.heap.size + 1, 1, none⟩ = some (.slice (some ⟨g1, 0, none⟩) t.parts.length cap2) := heap_cell HB1.out 1
            have y0 : wr.cell? ⟨g0, k * 2, none⟩ = some (.int .u8 u.head.toNat) := (heap_cell hc0 _).trans (hd0 _ _ pu0)
            have y1 : wr.cell? ⟨g0, k * 2 + 1, none⟩ = some (.slice au nu cu) := (heap_cell hc0 _).trans (hd0 _ _ pu1)
            have z0 : wr.cell? ⟨g1, k * 2, none⟩ = some (.int .u8 u2.head.toNat) := (heap_cell hc1 _).trans (hd1 _ _ pv0)
            have z1 : wr.cell? ⟨g1, k * 2 + 1, none⟩ = some (.slice au2 nu2 cu2) := (heap_cell hc1 _).trans (hd1 _ _ pv1)
            have HN1 := hid hn1
            have HN2 := hid hn2
            have HMAPr : Hid (MapAt (fun k => k < w0.heap.size) wr.drew mb sk) := HMAPk.out.below (below_drewX (Below.refl _ _))
            have hsu := HW1.out.2.2
            have htu := HW2.out.2.1
            have hmw : mb ≠ w.heap.size := by omega
            have hmw1 : mb ≠ w.heap.size + 1 := by omega
            clear hd0 hd1 hc0 hc1 hn1 hn2 hu hu2 pu0 pu1 pv0 pv1 kb0
            cases hmu : mt u u2 sk with
            | none =>
              have HMU := hid hmu
              have HRN : Hid (mt p t s = none) := by show _ = _; rw [HR.out, HMT.out, HSTEP.out, hmu]; rfl
              clear hmu
              go_wp2_with fail
              refine wp_region_any (by kernel_rfl) ?_
              change wpAny _ _ _ _ _ _ _ (World.drew _)
              have SX : wr.drew.cell? ⟨w.heap.size, 1, none⟩ = some (.slice (some ⟨g0, 0, none⟩) p.parts.length cap) ∧ wr.drew.cell? ⟨w.heap.size + 1, 1, none⟩ = some (.slice (some ⟨g1, 0, none⟩) t.parts.length cap2) ∧ wr.drew.cell? ⟨g0, k * 2, none⟩ = some (.int .u8 u.head.toNat) ∧ wr.drew.cell? ⟨g0, k * 2 + 1, none⟩ = some (.slice au nu cu) ∧ wr.drew.cell? ⟨g1, k * 2, none⟩ = some (.int .u8 u2.head.toNat) ∧ wr.drew.cell? ⟨g1, k * 2 + 1, none⟩ = some (.slice au2 nu2 cu2) := ⟨x0, x1, y0, y1, z0, z1⟩
              refine wpAny_of_T (S := fun X => X.cell? ⟨w.heap.size, 1, none⟩ = some (.slice (some ⟨g0, 0, none⟩) p.parts.length cap) ∧ X.cell? ⟨w.heap.size + 1, 1, none⟩ = some (.slice (some ⟨g1, 0, none⟩) t.parts.length cap2) ∧ X.cell? ⟨g0, k * 2, none⟩ = some (.int .u8 u.head.toNat) ∧ X.cell? ⟨g0, k * 2 + 1, none⟩ = some (.slice au nu cu) ∧ X.cell? ⟨g1, k * 2, none⟩ = some (.int .u8 u2.head.toNat) ∧ X.cell? ⟨g1, k * 2 + 1, none⟩ = some (.slice au2 nu2 cu2)) (m := 13) _ _ _ _ ?_
              clear x0 x1 y0 y1 z0 z1
              refine wpAnyT_take (i := 0) (v := .pointer (some ⟨mb, 0, none⟩)) rfl (by kernel_rfl) (by kernel_rfl) (by kernel_rfl) (by kernel_rfl) (fun _ _ _ h => h) (Or.inl ⟨by kernel_rfl, fun X hS => by obtain ⟨e0, e1, e2, e3, e4, e5⟩ := hS; go_simp⟩) SX ?_
              try go_simp
              refine wpAnyT_take (i := 1) (v := .pointer (some ⟨w.heap.size, 1, none⟩)) rfl (by kernel_rfl) (by kernel_rfl) (by kernel_rfl) (by kernel_rfl) (fun _ _ _ h => h) (Or.inl ⟨by kernel_rfl, fun X hS => by obtain ⟨e0, e1, e2, e3, e4, e5⟩ := hS; go_simp⟩) SX ?_
              try go_simp
              refine wpAnyT_take (i := 2) (v := .slice (some ⟨g0, 0, none⟩) p.parts.length cap) rfl (by kernel_rfl) (by kernel_rfl) (by kernel_rfl) (by kernel_rfl) (fun _ _ _ h => h) (Or.inl ⟨by kernel_rfl, fun X hS => by obtain ⟨e0, e1, e2, e3, e4, e5⟩ := hS; go_simp⟩) SX ?_
              try go_simp
              refine wpAnyT_take (i := 3) (v := .int .i64 k) rfl (by kernel_rfl) (by kernel_rfl) (by kernel_rfl) (by kernel_rfl) (fun _ _ _ h => h) (Or.inl ⟨by kernel_rfl, fun X hS => by obtain ⟨e0, e1, e2, e3, e4, e5⟩ := hS; go_simp⟩) SX ?_
              try go_simp
              refine wpAnyT_take (i := 4) (v := .pointer (some ⟨g0, k * 2, none⟩)) rfl (by kernel_rfl) (by kernel_rfl) (by kernel_rfl) (by kernel_rfl) (fun _ _ _ h => h) (Or.inl ⟨by kernel_rfl, fun X hS => by obtain ⟨e0, e1, e2, e3, e4, e5⟩ := hS; go_simp⟩) SX ?_
              try go_simp
              refine wpAnyT_take (i := 5) (v := .agg #[.int .u8 u.head.toNat, .slice au nu cu]) rfl (by kernel_rfl) (by kernel_rfl) (by kernel_rfl) (by kernel_rfl) (fun _ _ _ h => h) (Or.inl ⟨by kernel_rfl, fun X hS => by obtain ⟨e0, e1, e2, e3, e4, e5⟩ := hS; go_simp⟩) SX ?_
              try go_simp
              refine wpAnyT_take (i := 6) (v := .pointer (some ⟨w.heap.size + 1, 1, none⟩)) rfl (by kernel_rfl) (by kernel_rfl) (by kernel_rfl) (by kernel_rfl) (fun _ _ _ h => h) (Or.inl ⟨by kernel_rfl, fun X hS => by obtain ⟨e0, e1, e2, e3, e4, e5⟩ := hS; go_simp⟩) SX ?_
              try go_simp
              refine wpAnyT_take (i := 7) (v := .slice (some ⟨g1, 0, none⟩) t.parts.length cap2) rfl (by kernel_rfl) (by kernel_rfl) (by kernel_rfl) (by kernel_rfl) (fun _ _ _ h => h) (Or.inl ⟨by kernel_rfl, fun X hS => by obtain ⟨e0, e1, e2, e3, e4, e5⟩ := hS; go_simp⟩) SX ?_
              try go_simp
              refine wpAnyT_take (i := 8) (v := .int .i64 k) rfl (by kernel_rfl) (by kernel_rfl) (by kernel_rfl) (by kernel_rfl) (fun _ _ _ h => h) (Or.inl ⟨by kernel_rfl, fun X hS => by obtain ⟨e0, e1, e2, e3, e4, e5⟩ := hS; go_simp⟩) SX ?_
              try go_simp
              refine wpAnyT_take (i := 9) (v := .pointer (some ⟨g1, k * 2, none⟩)) rfl (by kernel_rfl) (by kernel_rfl) (by kernel_rfl) (by kernel_rfl) (fun _ _ _ h => h) (Or.inl ⟨by kernel_rfl, fun X hS => by obtain ⟨e0, e1, e2, e3, e4, e5⟩ := hS; go_simp⟩) SX ?_
              try go_simp
              refine wpAnyT_take (i := 10) (v := .agg #[.int .u8 u2.head.toNat, .slice au2 nu2 cu2]) rfl (by kernel_rfl) (by kernel_rfl) (by kernel_rfl) (by kernel_rfl) (fun _ _ _ h => h) (Or.inl ⟨by kernel_rfl, fun X hS => by obtain ⟨e0, e1, e2, e3, e4, e5⟩ := hS; go_simp⟩) SX ?_
              try go_simp
              refine wpAnyT_one 11 rfl (by kernel_rfl) (fun K hK => ?_)
              go_simp
              refine (IH.out u u2 _ _ _ _ w0 wr.drew mb sk (by omega) HW1.out.1 HW2.out.1 (by omega) HGK.out HK0r.out HMAPr.out hmbB HN1.out HN2.out).mono ?_
              rintro e w3 ⟨rfl, hg3, hmap3⟩
              rw [HMU.out]
              have HG3 : Hid (wr.grownBy w3 (some mb)) := ⟨hg3.os, hg3.tape, hg3.output, hg3.size, hg3.block⟩
              have HM3 := hid hmap3
              clear hg3 hmap3
              have SX3 : w3.cell? ⟨w.heap.size, 1, none⟩ = some (.slice (some ⟨g0, 0, none⟩) p.parts.length cap) ∧ w3.cell? ⟨w.heap.size + 1, 1, none⟩ = some (.slice (some ⟨g1, 0, none⟩) t.parts.length cap2) ∧ w3.cell? ⟨g0, k * 2, none⟩ = some (.int .u8 u.head.toNat) ∧ w3.cell? ⟨g0, k * 2 + 1, none⟩ = some (.slice au nu cu) ∧ w3.cell? ⟨g1, k * 2, none⟩ = some (.int .u8 u2.head.toNat) ∧ w3.cell? ⟨g1, k * 2 + 1, none⟩ = some (.slice au2 nu2 cu2) := ⟨cellG HG3.out (by omega) (by omega) SX.1, cellG HG3.out (by omega) (by omega) SX.2.1, cellG HG3.out hgr0 hgm0 SX.2.2.1, cellG HG3.out hgr0 hgm0 SX.2.2.2.1, cellG HG3.out hgr1 hgm1 SX.2.2.2.2.1, cellG HG3.out hgr1 hgm1 SX.2.2.2.2.2⟩
              refine hK _ _ (fun _ => SX3) ?_
              clear hK K
              clear SX
              refine wpAnyT_take (i := 12) (v := .bool true) rfl (by kernel_rfl) (by kernel_rfl) (by kernel_rfl) (by kernel_rfl) (fun _ _ _ h => h) (Or.inl ⟨by kernel_rfl, fun X hS => by obtain ⟨e0, e1, e2, e3, e4, e5⟩ := hS; go_simp⟩) SX3 ?_
              try go_simp
              refine wpAnyT_drop _ 13 _ _ _ (by decide) (by kernel_rfl) ?_
              change wpList _ _ _ [] _ _
              clear SX3
              go_wp2
              go_ret
              exact ⟨by rw [HRN.out]; rfl, grown_trans HGR.out HG3.out, fun s' e => by rw [HRN.out] at e; cases e⟩
            | some s3 =>
              have HMU := hid hmu
              have HS3 : Hid (GS 60 s3) := mt_gs u u2 sk s3 60 HW1.out.1 HW2.out.1 (by omega) HGK.out hmu
              have HMN : Hid (mtl p.parts t.parts s = mtl (p.parts.drop (k + 1)) (t.parts.drop (k + 1)) s3) := by show _ = _; rw [HMT.out, HSTEP.out, hmu]; rfl
              clear hmu
              go_wp2_with fail
              refine wp_region_any (by kernel_rfl) ?_
              change wpAny _ _ _ _ _ _ _ (World.drew _)
              have SX : wr.drew.cell? ⟨w.heap.size, 1, none⟩ = some (.slice (some ⟨g0, 0, none⟩) p.parts.length cap) ∧ wr.drew.cell? ⟨w.heap.size + 1, 1, none⟩ = some (.slice (some ⟨g1, 0, none⟩) t.parts.length cap2) ∧ wr.drew.cell? ⟨g0, k * 2, none⟩ = some (.int .u8 u.head.toNat) ∧ wr.drew.cell? ⟨g0, k * 2 + 1, none⟩ = some (.slice au nu cu) ∧ wr.drew.cell? ⟨g1, k * 2, none⟩ = some (.int .u8 u2.head.toNat) ∧ wr.drew.cell? ⟨g1, k * 2 + 1, none⟩ = some (.slice au2 nu2 cu2) := ⟨x0, x1, y0, y1, z0, z1⟩
              refine wpAny_of_T (S := fun X => X.cell? ⟨w.heap.size, 1, none⟩ = some (.slice (some ⟨g0, 0, none⟩) p.parts.length cap) ∧ X.cell? ⟨w.heap.size + 1, 1, none⟩ = some (.slice (some ⟨g1, 0, none⟩) t.parts.length cap2) ∧ X.cell? ⟨g0, k * 2, none⟩ = some (.int .u8 u.head.toNat) ∧ X.cell? ⟨g0, k * 2 + 1, none⟩ = some (.slice au nu cu) ∧ X.cell? ⟨g1, k * 2, none⟩ = some (.int .u8 u2.head.toNat) ∧ X.cell? ⟨g1, k * 2 + 1, none⟩ = some (.slice au2 nu2 cu2)) (m := 13) _ _ _ _ ?_
              clear x0 x1 y0 y1 z0 z1
              refine wpAnyT_take (i := 0) (v := .pointer (some ⟨mb, 0, none⟩)) rfl (by kernel_rfl) (by kernel_rfl) (by kernel_rfl) (by kernel_rfl) (fun _ _ _ h => h) (Or.inl ⟨by kernel_rfl, fun X hS => by obtain ⟨e0, e1, e2, e3, e4, e5⟩ := hS; go_simp⟩) SX ?_
              try go_simp
              refine wpAnyT_take (i := 1) (v := .pointer (some ⟨w.heap.size, 1, none⟩)) rfl (by kernel_rfl) (by kernel_rfl) (by kernel_rfl) (by kernel_rfl) (fun _ _ _ h => h) (Or.inl ⟨by kernel_rfl, fun X hS => by obtain ⟨e0, e1, e2, e3, e4, e5⟩ := hS; go_simp⟩) SX ?_
              try go_simp
              refine wpAnyT_take (i := 2) (v := .slice (some ⟨g0, 0, none⟩) p.parts.length cap) rfl (by kernel_rfl) (by kernel_rfl) (by kernel_rfl) (by kernel_rfl) (fun _ _ _ h => h) (Or.inl ⟨by kernel_rfl, fun X hS => by obtain ⟨e0, e1, e2, e3, e4, e5⟩ := hS; go_simp⟩) SX ?_
              try go_simp
              refine wpAnyT_take (i := 3) (v := .int .i64 k) rfl (by kernel_rfl) (by kernel_rfl) (by kernel_rfl) (by kernel_rfl) (fun _ _ _ h => h) (Or.inl ⟨by kernel_rfl, fun X hS => by obtain ⟨e0, e1, e2, e3, e4, e5⟩ := hS; go_simp⟩) SX ?_
              try go_simp
              refine wpAnyT_take (i := 4) (v := .pointer (some ⟨g0, k * 2, none⟩)) rfl (by kernel_rfl) (by kernel_rfl) (by kernel_rfl) (by kernel_rfl) (fun _ _ _ h => h) (Or.inl ⟨by kernel_rfl, fun X hS => by obtain ⟨e0, e1, e2, e3, e4, e5⟩ := hS; go_simp⟩) SX ?_
              try go_simp
              refine wpAnyT_take (i := 5) (v := .agg #[.int .u8 u.head.toNat, .slice au nu cu]) rfl (by kernel_rfl) (by kernel_rfl) (by kernel_rfl) (by kernel_rfl) (fun _ _ _ h => h) (Or.inl ⟨by kernel_rfl, fun X hS => by obtain ⟨e0, e1, e2, e3, e4, e5⟩ := hS; go_simp⟩) SX ?_
              try go_simp
              refine wpAnyT_take (i := 6) (v := .pointer (some ⟨w.heap.size + 1, 1, none⟩)) rfl (by kernel_rfl) (by kernel_rfl) (by kernel_rfl) (by kernel_rfl) (fun _ _ _ h => h) (Or.inl ⟨by kernel_rfl, fun X hS => by obtain ⟨e0, e1, e2, e3, e4, e5⟩ := hS; go_simp⟩) SX ?_
              try go_simp
              refine wpAnyT_take (i := 7) (v := .slice (some ⟨g1, 0, none⟩) t.parts.length cap2) rfl (by kernel_rfl) (by kernel_rfl) (by kernel_rfl) (by kernel_rfl) (fun _ _ _ h => h) (Or.inl ⟨by kernel_rfl, fun X hS => by obtain ⟨e0, e1, e2, e3, e4, e5⟩ := hS; go_simp⟩) SX ?_
              try go_simp
              refine wpAnyT_take (i := 8) (v := .int .i64 k) rfl (by kernel_rfl) (by kernel_rfl) (by kernel_rfl) (by kernel_rfl) (fun _ _ _ h => h) (Or.inl ⟨by kernel_rfl, fun X hS => by obtain ⟨e0, e1, e2, e3, e4, e5⟩ := hS; go_simp⟩) SX ?_
              try go_simp
              refine wpAnyT_take (i := 9) (v := .pointer (some ⟨g1, k * 2, none⟩)) rfl (by kernel_rfl) (by kernel_rfl) (by kernel_rfl) (by kernel_rfl) (fun _ _ _ h => h) (Or.inl ⟨by kernel_rfl, fun X hS => by obtain ⟨e0, e1, e2, e3, e4, e5⟩ := hS; go_simp⟩) SX ?_
              try go_simp
              refine wpAnyT_take (i := 10) (v := .agg #[.int .u8 u2.head.toNat, .slice au2 nu2 cu2]) rfl (by kernel_rfl) (by kernel_rfl) (by kernel_rfl) (by kernel_rfl) (fun _ _ _ h => h) (Or.inl ⟨by kernel_rfl, fun X hS => by obtain ⟨e0, e1, e2, e3, e4, e5⟩ := hS; go_simp⟩) SX ?_
              try go_simp
              refine wpAnyT_one 11 rfl (by kernel_rfl) (fun K hK => ?_)
              go_simp
              refine (IH.out u u2 _ _ _ _ w0 wr.drew mb sk (by omega) HW1.out.1 HW2.out.1 (by omega) HGK.out HK0r.out HMAPr.out hmbB HN1.out HN2.out).mono ?_
              rintro e w3 ⟨rfl, hg3, hmap3⟩
              rw [HMU.out]
              have HG3 : Hid (wr.grownBy w3 (some mb)) := ⟨hg3.os, hg3.tape, hg3.output, hg3.size, hg3.block⟩
              have HM3 := hid hmap3
              clear hg3 hmap3
              have SX3 : w3.cell? ⟨w.heap.size, 1, none⟩ = some (.slice (some ⟨g0, 0, none⟩) p.parts.length cap) ∧ w3.cell? ⟨w.heap.size + 1, 1, none⟩ = some (.slice (some ⟨g1, 0, none⟩) t.parts.length cap2) ∧ w3.cell? ⟨g0, k * 2, none⟩ = some (.int .u8 u.head.toNat) ∧ w3.cell? ⟨g0, k * 2 + 1, none⟩ = some (.slice au nu cu) ∧ w3.cell? ⟨g1, k * 2, none⟩ = some (.int .u8 u2.head.toNat) ∧ w3.cell? ⟨g1, k * 2 + 1, none⟩ = some (.slice au2 nu2 cu2) := ⟨cellG HG3.out (by omega) (by omega) SX.1, cellG HG3.out (by omega) (by omega) SX.2.1, cellG HG3.out hgr0 hgm0 SX.2.2.1, cellG HG3.out hgr0 hgm0 SX.2.2.2.1, cellG HG3.out hgr1 hgm1 SX.2.2.2.2.1, cellG HG3.out hgr1 hgm1 SX.2.2.2.2.2⟩
              refine hK _ _ (fun _ => SX3) ?_
              clear hK K
              clear SX
              refine wpAnyT_take (i := 12) (v := .bool false) rfl (by kernel_rfl) (by kernel_rfl) (by kernel_rfl) (by kernel_rfl) (fun _ _ _ h => h) (Or.inl ⟨by kernel_rfl, fun X hS => by obtain ⟨e0, e1, e2, e3, e4, e5⟩ := hS; go_simp⟩) SX3 ?_
              try go_simp
              refine wpAnyT_drop _ 13 _ _ _ (by decide) (by kernel_rfl) ?_
              change wpList _ _ _ [] _ _
              clear SX3
              go_wp2
              go_roundg (gk - 1)
              case measure => omega
              case rel => exact ⟨k + 1, s3, by omega, by omega, by go_num, HMN.out, HS3.out, HM3.out s3 HMU.out, grown_trans HGR.out HG3.out, grown_keep HG3.out HB0.out (by simp; omega), grown_keep HG3.out HB1.out (by simp; omega)⟩
          · have hke : k = p.parts.length := by omega
            have HRS : Hid (mt p t s = some sk) := by show _ = _; rw [HR.out, HMT.out, mtl_end (by omega)]
            clear kb0
            go_wp2_with fail
            go_ret
            exact ⟨by rw [HRS.out]; rfl, HGR.out, fun s' e => by rw [HRS.out] at e; cases e; exact HMAPk.out⟩
      · have HR : Hid (mt p t s = none) := by show _ = _; rw [HM.out, if_neg hhd]
        have heq : ((p.head.toNat : Int) != t.head.toNat) = true := by rw [bne, u8_eq, decide_eq_false (fun e => hhd e.symm)]; rfl
        clear HM hhd
        go_enter Try.func13, Try.ntmps13
        go_wp2_with (first | (go_at_call 21; refine (l2Index_any p.head _).mono ?_; rintro e w' ⟨rfl, rfl⟩; rw [HIX.out]))
        go_ret
        exact ⟨by rw [HR.out]; rfl, gb (((Below.refl _ _).alloc (Nat.le_refl _) _).alloc (by simp) _) _, fun s' e => by rw [HR.out] at e; cases e⟩
end MatS
end Go.Proofs.Ytlhildfiddphcaa
