/- The reference's l2Others: a type with other letters for its variables. Conditions: none. -/
import Derived.Test.YtcjalnianamlaaaUniS
import Derived.Test.YtcjalnianamlaaaAptP
set_option linter.unusedVariables false
set_option linter.unusedSimpArgs false
set_option maxRecDepth 100000
namespace Go.Proofs.Ytcjalnianamlaaa
open Go.RowKit Ty ListS Parts MkType
namespace Oth
open AptP UniP UniS
theorem infoSNo : (Try.prog.info? 70).map (fun i => (i.zero, i.size, i.bytes)) = some (some (.agg #[.int .u8 0, .slice .none 0 0]), 2, 32) := by kernel_rfl
def exB (B lo : Nat) (v : Value) (k : Nat) : Prop := (k < B ∨ lo ≤ k) ∧ v.ownBlock ≠ some k
theorem snsB_push {B lo : Nat} {w0 w1 w1' w2 : World} {v v' : Value} {A : List Ty} {ps : List Value} {t : Ty} {h s : Value}
    (hA : SNs (exB B lo v) w0 A ps) (hv : ∀ g, v.ownBlock = some g → B ≤ g ∧ g < w0.heap.size) (hb : Below w0.heap.size w0 w1) (hk : SR (fun k => k < B ∨ w0.heap.size ≤ k) w1 t h s) (hl : lo ≤ w0.heap.size) (hB : B ≤ w0.heap.size)
    (ha : KeepsP (fun _ => True) w1 w1') (hz : w1.heap.size ≤ w1'.heap.size) (hg : w1'.grownBy w2 v.ownBlock) (hlie : ∀ g, v'.ownBlock = some g → v.ownBlock = some g ∨ w1'.heap.size ≤ g) :
    SNs (exB B lo v') w2 (A ++ [t]) (ps ++ [h, s]) := by
  have hs := hb.size
  have hs2 := hg.size
  refine SNs.app ?_ ?_
  · have h0 : SR (fun k => (k < B ∨ w0.heap.size ≤ k) ∧ k < w1.heap.size) w1 t h s := hk.mono (fun k hk h => ⟨h, hk⟩)
    have h2 : SR (fun k => (k < B ∨ w0.heap.size ≤ k) ∧ k < w1.heap.size) w2 t h s := h0.keep (fun k hp hk => by
      rw [hg.block k (by omega) (fun e => by have := hv k e.symm; omega), ha k trivial (by omega)]) (by omega)
    exact h2.mono (fun k hk h => ⟨by omega, fun e => by rcases hlie k e with h3 | h3; have := hv k h3; omega; omega⟩)
  · have h0 : SNs (fun k => exB B lo v k ∧ k < w0.heap.size) w0 A ps := hA.mono (fun k hk h => ⟨h, hk⟩)
    have h2 : SNs (fun k => exB B lo v k ∧ k < w0.heap.size) w2 A ps := SNs.keep (w := w0) (fun k hp hk => by
      rw [hg.block k (by omega) (fun e => hp.1.2 e.symm), ha k trivial (by omega), hb.block k hk]) (by omega) h0
    exact h2.mono (fun k hk h => ⟨h.1.1, fun e => by rcases hlie k e with h3 | h3; exact h.1.2 h3; omega⟩)
theorem below_drew {B : Nat} {w w' : World} (h : Below B w w') : Below B w w'.drew := ⟨h.os, h.tape, h.output, h.size, h.block⟩
theorem hb_newk {w : World} {o : Obj} {n : Nat} (h : w.heap.size = n) : (w.alloc o).heap[n]? = some o := by subst h; exact heap_alloc_new _ _
theorem row_keptP2 {P : Nat → Prop} {w w' : World} (hk : KeepsP P w w') {base : Nat} {e : TypeId} {size : Nat} {v : Value} {n : Nat} {xs : List Value} (h : w.ownsRow base e size v n xs) (hg : ∀ g, v.ownBlock = some g → P g) : w'.ownsRow base e size v n xs := by
  refine ⟨h.1, ?_⟩
  rcases h.2 with hn | ⟨g, cap, cur, rfl, hb, hgg, rest⟩
  · exact .inl hn
  · exact .inr ⟨g, cap, cur, rfl, hb, (hk g (hg g (by simp [Value.ownBlock])) (lt_of_heap hgg)).trans hgg, rest⟩
theorem sr_of {P P' : Nat → Prop} {w : World} {T : Ty} {v : Value} {ps : List Value} {base : Nat} (hr : w.ownsRow base 70 2 v T.parts.length ps) (hs : SNs P w T.parts ps) (hg : ∀ g, v.ownBlock = some g → P' g) (hP : ∀ k, P k → P' k) : SR P' w T (.int .u8 T.head.toNat) v := fun w' hk hz =>
  snode_of (row_keptP2 hk hr hg) (SNs.keep (P := P) (fun k hp hkk => hk k (hP k hp) hkk) hz hs)
theorem made_rowO {W : World} {b : Nat} (z : Nat) (hz : W.heap.size = z) (hB : b ≤ z) : (W.alloc (.cells #[] 70)).ownsRow b 70 2 (.slice (some ⟨z, 0, none⟩) 0 0) 0 [] := by
  subst hz
  exact World.ownsRow_made W #[] 0 hB (by simp [maxLen]) rfl
/-- what l2Others leaves -/
def OthPost (w : World) (t : Ty) (e : Ending) (w' : World) : Prop := ∃ h s, e = .returned (.agg #[h, s]) ∧ SR (fun k => w.heap.size ≤ k) w' t h s ∧ Below w.heap.size w w'
def OL (w : World) (t : Ty) (q : Nat) (iv : Value) (wr : World) : Prop :=
  ∃ (A : List Ty) (a : Option Addr) (cap : Nat) (ps : List Value), A.length ≤ t.parts.length ∧ t.parts.length - A.length ≤ q ∧ iv = .int .i64 A.length ∧ Hid (A = (t.parts.take A.length).map oth) ∧
    wr.heap[w.heap.size + 3]? = some (.cells #[.int .u8 t.head.toNat, .slice a A.length cap] 70 (0, 0)) ∧ (∃ x y, wr.heap[w.heap.size + 1]? = some (.cells #[x, y] 70 (0, 0))) ∧ wr.ownsRow (w.heap.size + 2) 70 2 (.slice a A.length cap) A.length ps ∧ (∀ p, a = some p → p.block ≠ w.heap.size + 3) ∧ SNs (exB 0 (w.heap.size + 3 + 1) (.slice a A.length cap)) wr A ps ∧ Below w.heap.size w wr ∧ w.heap.size + 3 < wr.heap.size
set_option maxHeartbeats 8000000 in
theorem oth_var (c d : UInt8) (i : Int) (hi : ix c = i) (hd : oc c = d) (hc : c = 88 ∧ i = 0 ∧ d = 49 ∨ c = 89 ∧ i = 1 ∧ d = 50 ∨ c = 90 ∧ i = 2 ∧ d = 51 ∨ c = 120 ∧ i = 3 ∧ d = 52 ∨ c = 121 ∧ i = 4 ∧ d = 53 ∨ c = 122 ∧ i = 5 ∧ d = 54) (s : Value) (w : World) (hnode : SNode 0 w (.leaf c) (.int .u8 c.toNat) s) :
    Calls Try.prog 35 #[.agg #[.int .u8 c.toNat, s]] w (OthPost w (oth (.leaf c))) := by
  obtain ⟨-, hrow⟩ := hnode
  obtain ⟨a, cap, rfl⟩ := row_slice hrow
  have HIX := hid hi
  have HD := hid hd
  have HBB : Hid (Below w.heap.size w ((((w.alloc (.cells #[.int .u8 c.toNat, .slice a 0 cap] 70)).alloc (.cells #[.int .u8 0, .slice none 0 0] 70)).alloc (.cells #[] 70)).alloc (.cells #[.int .u8 c.toNat, .slice (some ⟨w.heap.size + 2, 0, none⟩) 0 0] 70))) := ((((Below.refl _ _).alloc (Nat.le_refl _) _).alloc (by simp) _).alloc (by simp; omega) _).alloc (by simp; omega) _
  clear hrow hi hd
  rcases hc with ⟨-, rfl, rfl⟩ | ⟨-, rfl, rfl⟩ | ⟨-, rfl, rfl⟩ | ⟨-, rfl, rfl⟩ | ⟨-, rfl, rfl⟩ | ⟨-, rfl, rfl⟩
  all_goals
    go_enter Try.func35, Try.ntmps35
    go_wp2_with (first | (go_at_call 56; refine (l2Index_any c _).mono ?_; rintro e w' ⟨rfl, rfl⟩; rw [HIX.out]))
    refine wp_loop_rounds 1 ?_
    rw [rounds_succ]
    go_wp2_with fail
    refine bodyPost_ret (results_cell_row rfl _ _ (w.heap.size + 1) 70 #[_, .slice (some ⟨w.heap.size + 1 + 1, 0, none⟩) 0 0] (0, 0) _ rfl (hb_alloc (hb_alloc (heap_alloc2_new _ _ _) _) _) Try.underlying70 rfl (by kernel_rfl)) rfl ?_
    refine ⟨_, _, rfl, ?_, ((((Below.refl _ _).alloc (Nat.le_refl _) _).alloc (by simp) _).alloc (by simp; omega) _).alloc (by simp; omega) _⟩
    show SR _ _ (.leaf (oc c)) _ _
    rw [HD.out]
    refine sr_of (T := .leaf _) (P := fun _ => False) (base := 0) (ps := []) (World.ownsRow.alloc (made_rowO (w.heap.size + 1 + 1) (by simp) (Nat.zero_le _)) _) rfl (fun g h => by simp [Value.ownBlock] at h; subst h; show w.heap.size ≤ w.heap.size + 1 + 1; omega) (fun k h => h.elim)
set_option maxHeartbeats 8000000 in
theorem l2Others_any (M : Nat) : ∀ (t : Ty) (h s : Value) (w : World), t.size < M → t.WF → SNode 0 w t h s → Calls Try.prog 35 #[.agg #[h, s]] w (OthPost w (oth t)) := by
  induction M with
  | zero => intro t h s w hn; omega
  | succ M ih =>
    intro t h s w hM hwf hnode
    cases hvh : isV t.head with
    | true =>
      have hc := isV_six hvh
      cases t with
      | leaf c =>
        simp only [Ty.head] at hc
        obtain ⟨rfl, hrow⟩ := hnode
        refine oth_var c (oc c) (ix c) rfl rfl ?_ s w ⟨rfl, hrow⟩
        rcases hc with rfl | rfl | rfl | rfl | rfl | rfl <;> decide
      | one c u => have := hwf.1; simp only [Ty.head] at hc; rcases hc with rfl | rfl | rfl | rfl | rfl | rfl <;> simp [ar] at this
      | two c u v => have := hwf.1; simp only [Ty.head] at hc; rcases hc with rfl | rfl | rfl | rfl | rfl | rfl <;> simp [ar] at this
    | false =>
      have HO : Hid ((oth t).head = t.head ∧ (oth t).parts = t.parts.map oth) := by
        have := oth_head hwf
        refine ⟨this.1.trans ?_, this.2⟩
        have hne : t.head ≠ 88 ∧ t.head ≠ 89 ∧ t.head ≠ 90 ∧ t.head ≠ 120 ∧ t.head ≠ 121 ∧ t.head ≠ 122 := by
          refine ⟨?_, ?_, ?_, ?_, ?_, ?_⟩ <;> (intro e; rw [e] at hvh; exact absurd hvh (by decide))
        simp [oc, hne]
      have HWF : Hid (∀ u ∈ t.parts, u.WF) := fun u hu => by
        cases t with
        | leaf c => simp [Ty.parts] at hu
        | one c v => simp [Ty.parts] at hu; rw [hu]; exact hwf.2
        | two c v x => simp [Ty.parts] at hu; rcases hu with rfl | rfl; exact hwf.2.1; exact hwf.2.2
      have HIX : Hid (ix t.head = -1) := by
        rcases ix_cases t.head with ⟨h, -⟩ | ⟨k, hk, -, h⟩
        · exact h
        · exfalso
          have hm := List.mem_of_getElem? h
          have hw0 : ∃ k, ar t.head = some k := by cases t with | leaf c => exact ⟨0, hwf⟩ | one c u => exact ⟨1, hwf.1⟩ | two c u v => exact ⟨2, hwf.1⟩
          obtain ⟨k, hk⟩ := hw0
          simp [lts] at hm
          rcases hm with e | e | e | e | e | e | e | e | e | e | e | e <;> rw [e] at hvh hk <;> first | (simp [isV] at hvh; done) | (simp [ar] at hk; done)
      obtain ⟨rfl, ps, hrow, hp⟩ := snode hnode
      obtain ⟨a, cap, rfl⟩ := row_slice hrow
      have HV := hid hrow
      have HP := hid hp
      have IH := hid ih
      have h2 := parts_len t
      clear ih hnode hrow hp hvh hwf
      go_enter Try.func35, Try.ntmps35
      go_wp2_with (first | (go_at_call 56; refine (l2Index_any t.head _).mono ?_; rintro e w' ⟨rfl, rfl⟩; rw [HIX.out]))
      go_loopg [23] t.parts.length (fun q iv wr => OL w t q iv wr)
      case atStart =>
        refine ⟨[], some ⟨w.heap.size + 2, 0, none⟩, 0, [], Nat.zero_le _, by simp, rfl, by show _ = _; simp, ?_, ?_, ?_, ?_, ?_, ?_, ?_⟩
        · exact hb_newk (by simp)
        · exact ⟨_, _, hb_alloc (hb_alloc (hb_newk (by simp)) _) _⟩
        · have h := World.ownsRow_made (e := 70) (size := 2) (base := w.heap.size + 2) ((w.alloc (.cells #[.int .u8 t.head.toNat, .slice a t.parts.length cap] 70)).alloc (.cells #[.int .u8 0, .slice none 0 0] 70)) #[] 0 (by simp) (by simp [maxLen]) rfl
          simp only [World.size_alloc] at h
          exact h.alloc _
        · intro p h; cases h; show w.heap.size + 2 ≠ w.heap.size + 3; omega
        · exact rfl
        · exact ((((Below.refl _ _).alloc (Nat.le_refl _) _).alloc (by simp) _).alloc (by simp; omega) _).alloc (by simp; omega) _
        · simp
      case round =>
        obtain ⟨A, a1, cap1, ps1, hk, hq, rfl, hA, hnb, ⟨xr, yr, hres⟩, hrw, hna, hsd, hb, hz⟩ := hrel
        have HB := hid hb
        have HNB := hid hnb
        have HRES := hid hres
        have HROW := hid hrw
        have HSD := hid hsd
        have HNA := hid hna
        have kn0 := heap_cell hnb 0
        have kn1 := heap_cell hnb 1
        have fn1 := heap_free hnb 1
        have hbz := hb.size
        clear hb hnb hres hrw hsd hna
        by_cases hlt : A.length < t.parts.length
        · obtain ⟨u, hu⟩ : ∃ u, t.parts[A.length]? = some u := ⟨_, List.getElem?_eq_getElem hlt⟩
          obtain ⟨h1, s1, e1, e2, hnu⟩ := HP.out A.length u hu
          obtain ⟨eh, sa, sn, sc, es⟩ := hnu.form
          subst eh es
          obtain ⟨g0, cap0, e0, -, hg0, cs0, hc0, hd0⟩ := row_at HV.out (by omega)
          cases e0
          have c0 : wr.cell? ⟨g0, A.length * 2, none⟩ = some (.int .u8 u.head.toNat) := (HB.out.cell (p := ⟨g0, A.length * 2, none⟩) hg0).trans ((heap_cell hc0 _).trans (hd0 _ _ e1))
          have c1 : wr.cell? ⟨g0, A.length * 2 + 1, none⟩ = some (.slice sa sn sc) := (HB.out.cell (p := ⟨g0, A.length * 2 + 1, none⟩) hg0).trans ((heap_cell hc0 _).trans (hd0 _ _ e2))
          have HND : Hid (SNode 0 (wr.alloc (.cells #[.int .u8 u.head.toNat, .slice sa sn sc] 70)).drew u (.int .u8 u.head.toNat) (.slice sa sn sc)) := Keeps.snode (w := w) (w' := (wr.alloc (.cells #[.int .u8 u.head.toNat, .slice sa sn sc] 70)).drew) (fun x _ hx => ((HB.out.alloc (by omega) (.cells #[.int .u8 u.head.toNat, .slice sa sn sc] 70)).block x hx)) (hnu.mono (Nat.zero_le _))
          have hszu := size_parts t u A.length hu
          have hwu := HWF.out u (List.mem_of_getElem? hu)
          have hAu : Hid (A ++ [oth u] = (t.parts.take (A.length + 1)).map oth) := by
            show _ = _
            obtain ⟨hlt2, rfl⟩ := List.getElem?_eq_some_iff.1 hu
            rw [List.take_succ_eq_append_getElem hlt2, List.map_append, ← hA.out]; rfl
          have hgr : g0 < wr.heap.size := by omega
          clear hd0 hc0 e1 e2 hnu hu
          go_wp2_with fail
          have d0 : (wr.alloc (.cells #[.int .u8 u.head.toNat, .slice sa sn sc] 70)).cell? ⟨wr.heap.size, 0, none⟩ = some (.int .u8 u.head.toNat) := heap_cell (heap_alloc_new _ _) 0
          have d1 : (wr.alloc (.cells #[.int .u8 u.head.toNat, .slice sa sn sc] 70)).cell? ⟨wr.heap.size, 1, none⟩ = some (.slice sa sn sc) := heap_cell (heap_alloc_new _ _) 1
          have HNBW := hid (hb_alloc HNB.out (.cells #[.int .u8 u.head.toNat, .slice sa sn sc] 70))
          have HRESW := hid (hb_alloc HRES.out (.cells #[.int .u8 u.head.toNat, .slice sa sn sc] 70))
          have HBW : Hid (Below w.heap.size w (wr.alloc (.cells #[.int .u8 u.head.toNat, .slice sa sn sc] 70))) := HB.out.alloc (by omega) _
          have HROWW := hid (World.ownsRow.alloc HROW.out (.cells #[.int .u8 u.head.toNat, .slice sa sn sc] 70))
          have HSDW : Hid (SNs (exB 0 (w.heap.size + 3 + 1) (.slice a1 A.length cap1)) (wr.alloc (.cells #[.int .u8 u.head.toNat, .slice sa sn sc] 70)) A ps1) := HSD.out.keep (keepsP_alloc _ _) (by simp)
          have hnr : Hid (∀ g, (Value.ownBlock (.slice a1 A.length cap1)) = some g → w.heap.size + 2 ≤ g ∧ g < wr.heap.size ∧ g ≠ w.heap.size + 3) := fun g h => ⟨(ListS.row_own HROW.out g h).1, (ListS.row_own HROW.out g h).2, fun e => by
            cases ha : a1 with
            | none => rw [ha] at h; simp [Value.ownBlock] at h
            | some p => rw [ha] at h; simp [Value.ownBlock] at h; exact HNA.out p ha (by rw [h]; exact e)⟩
          have hzW : (wr.alloc (.cells #[.int .u8 u.head.toNat, .slice sa sn sc] 70)).heap.size = wr.heap.size + 1 := by simp
          have kn1W : (wr.alloc (.cells #[.int .u8 u.head.toNat, .slice sa sn sc] 70)).cell? ⟨w.heap.size + 3, 1, none⟩ = some (.slice a1 A.length cap1) := heap_cell HNBW.out 1
          clear c0 c1 kn0 kn1 fn1
          clear HB HNB HRES HROW HSD HNA
          generalize (wr.alloc (.cells #[.int .u8 u.head.toNat, .slice sa sn sc] 70)) = W at *
          refine wp_region_any (by kernel_rfl) ?_
          change wpAny _ _ _ _ _ _ _ (World.drew _)
          refine wpAny_take (i := 0) (v := .pointer (some ⟨w.heap.size + 3, 1, none⟩)) rfl (by kernel_rfl) (by kernel_rfl) (by kernel_rfl) (fun _ _ _ h => h) (Or.inl ⟨by rfl, fun _ => by go_simp⟩) ?_
          refine wpAny_of_T (S := fun X => X.cell? ⟨w.heap.size + 3, 1, none⟩ = some (.slice a1 A.length cap1)) (m := 5) _ _ _ _ ?_
          refine wpAnyT_take (i := 1) (v := .slice a1 A.length cap1) rfl (by kernel_rfl) (by kernel_rfl) (by kernel_rfl) (by kernel_rfl) (fun _ _ _ h => h) (Or.inl ⟨by rfl, fun X hS => by have hS1 : X.cell? ⟨w.heap.size + 3, 1, none⟩ = some (.slice a1 A.length cap1) := hS; clear hS kn1W d0 d1; go_simp⟩) kn1W ?_
          refine wpAnyT_one 2 rfl (by kernel_rfl) (fun K hK => ?_)
          go_simp
          refine hK _ _ (fun _ => kn1W) ?_
          clear hK K d0 d1
          refine wpAnyT_one 3 rfl (by kernel_rfl) (fun K hK => ?_)
          go_simp
          refine (IH.out u _ _ W.drew (by omega) hwu HND.out).mono ?_
          rintro e w1 ⟨h3, q3, rfl, sn3, hb⟩
          obtain ⟨eh3, p3, n3, c3, eq3⟩ := (sn3.here).form
          have o1 : h3.oneCell' = true := by rw [eh3]; rfl
          have o2 : q3.oneCell' = true := by rw [eq3]; rfl
          have hz1 : W.heap.size ≤ w1.heap.size := hb.size
          have kn1 : w1.cell? ⟨w.heap.size + 3, 1, none⟩ = some (.slice a1 A.length cap1) := (hb.cell (p := ⟨w.heap.size + 3, 1, none⟩) (by show w.heap.size + 3 < W.heap.size; omega)).trans kn1W
          have SN3 : Hid (SR (fun k => k < 0 ∨ W.heap.size ≤ k) w1 (oth u) h3 q3) := SR.mono sn3 (fun k _ h => .inr h)
          have HB1 : Hid (Below W.heap.size W w1) := ⟨hb.os, hb.tape, hb.output, hb.size, hb.block⟩
          have HN1 := hid (below_heap HB1.out (by omega) HNBW.out)
          have HRES1 := hid (below_heap HB1.out (by omega) HRESW.out)
          clear sn3 hb kn1W eh3 eq3
          refine hK _ _ (fun _ => kn1) ?_
          clear hK K
          refine wpAnyT_one 4 rfl (by kernel_rfl) (fun K hK => ?_)
          go_simp
          refine hK _ _ (fun _ => heap_cell (hb_alloc HN1.out _) 1) ?_
          clear hK K
          refine wpAnyT_drop _ 5 _ _ _ (Nat.le_refl _) (by kernel_rfl) ?_
          change wpList _ _ _ (_ :: _) _ _
          go_wp2_with (first
            | (at_builtin; refine app_push_at 68 70 (.agg #[.int .u8 0, .slice .none 0 0]) 2 32 Try.underlying68 infoSNo rfl (by decide) rfl _ _ rfl (w.heap.size + 2) (.slice a1 A.length cap1) A.length ps1 rfl (World.ownsRow.alloc (ListS.row_below HB1.out HROWW.out) _) w1.heap.size 1 [h3, q3] rfl rfl (news_two (heap_cell (heap_alloc_new _ _) 0) (heap_cell (heap_alloc_new _ _) 1)) (by simp [o1, o2]) (by unfold maxLen; omega) (by omega) (by simp; omega) ?_))
          intro g4 cap4 w4 hown hg hlie
          (try simp only [World.size_alloc] at hlie)
          have hn4 := grown_keep hg (hb_alloc HN1.out _) (fun e => (hnr.out _ e.symm).2.2 rfl)
          have hr4 := grown_keep hg (hb_alloc HRES1.out _) (fun e => by have := (hnr.out _ e.symm).1; omega)
          have kn1 := heap_cell hn4 1
          have fn1 := heap_free hn4 1
          have hz4 : w1.heap.size + 1 ≤ w4.heap.size := by have := hg.size; simpa using this
          have hg4 : g4 ≠ w.heap.size + 3 := by
            intro e
            rcases hlie with h | h
            · exact (hnr.out _ h).2.2 e
            · omega
          have HB4 : Hid (Below w.heap.size w w4) := ((HBW.out.trans (HB1.out.mono (by omega))).alloc (by omega) _).grown hg (by simp; omega) (fun g h => by have := (hnr.out g h).1; omega)
          have HP4 := hid (snsB_push (B := 0) (lo := w.heap.size + 3 + 1) (w1' := w1.alloc (.cells #[h3, q3] 70)) (v' := .slice (some ⟨g4, 0, .none⟩) (A.length + 1) cap4) HSDW.out (fun g h => ⟨by have := (hnr.out g h).1; omega, by have := (hnr.out g h).2.1; omega⟩) HB1.out SN3.out (by omega) (by omega) (keepsP_alloc _ _) (by simp) hg (fun g h => by simp [Value.ownBlock] at h; subst h; rcases hlie with h | h; exact .inl h; exact .inr (by simp; omega)))
          have HO4 := hid hown
          have HN4 := hid hn4
          have HR4 := hid hr4
          clear hown hg hn4 hr4 hlie
          go_wp2
          go_roundg (gk - 1)
          case measure => omega
          case rel =>
            have e1 : (A ++ [oth u]).length = A.length + 1 := by simp
            refine ⟨A ++ [oth u], some ⟨g4, 0, .none⟩, cap4, ps1 ++ [h3, q3], by omega, by omega, by rw [e1]; go_num, ?_, ?_, ⟨xr, yr, ?_⟩, ?_, fun p h => by cases h; exact hg4, ?_, HB4.out.setCell (by show w.heap.size ≤ w.heap.size + 3; omega) _, by simp; omega⟩
            · show _ = _
              rw [e1]; exact hAu.out
            · rw [e1]; exact heap_set HN4.out 1 _
            · exact hb_set_ne HR4.out _ _ (by show w.heap.size + 1 ≠ w.heap.size + 3; omega)
            · rw [e1]; exact row_set HO4.out _ (by show g4 ≠ w.heap.size + 3; exact hg4)
            · rw [e1]; exact SNs.keep (keepsP_set _ _ _ (fun h => by have := h.1; dsimp only at this; omega)) (by simp) HP4.out
        · have hke : A.length = t.parts.length := by omega
          have HRR : Hid (SR (fun k => w.heap.size + 2 ≤ k) wr (oth t) (.int .u8 t.head.toNat) (.slice a1 A.length cap1)) := by
            have hAA : A = (oth t).parts := by rw [HO.out.2, hA.out, hke, List.take_length]
            have h1 := HROW.out
            have h2 := HSD.out
            have hl : (oth t).parts.length = A.length := by rw [← hAA]
            rw [← HO.out.1]
            have hnr : ∀ g, (Value.ownBlock (.slice a1 A.length cap1)) = some g → w.heap.size + 2 ≤ g := fun g h => (ListS.row_own HROW.out g h).1
            refine sr_of (P := exB 0 (w.heap.size + 3 + 1) (.slice a1 A.length cap1)) (base := w.heap.size + 2) (ps := ps1) ?_ ?_ (fun g h => hnr g h) (fun k h => by rcases h.1 with h | h <;> omega)
            · rw [hl]; exact h1
            · rw [← hAA]; exact h2
          have kr0 := heap_cell HRES.out 0
          have kr1 := heap_cell HRES.out 1
          have fr0 := heap_free HRES.out 0
          have fr1 := heap_free HRES.out 1
          have hr1 : w.heap.size + 1 < wr.heap.size := by omega
          clear hA hke hk hq
          go_wp2_with fail
          refine bodyPost_ret (results_cell_row rfl _ _ (w.heap.size + 1) 70 #[.int .u8 t.head.toNat, .slice a1 A.length cap1] (0, 0) _ rfl (heap_set (heap_set HRES.out 0 _) 1 _) Try.underlying70 rfl (by kernel_rfl)) rfl ?_
          refine ⟨_, _, rfl, ?_, (HB.out.setCell (by show w.heap.size ≤ w.heap.size + 1; omega) _).setCell (by show w.heap.size ≤ w.heap.size + 1; omega) _⟩
          have hP : ¬ ((fun k => w.heap.size + 2 ≤ k) (w.heap.size + 1)) := by dsimp only; omega
          exact (HRR.out.keep ((keepsP_set _ _ _ hP).trans (keepsP_set _ _ _ hP) (by simp)) (by simp)).mono (fun k _ h => by have h1 : w.heap.size + 2 ≤ k := h; omega)
end Oth
end Go.Proofs.Ytcjalnianamlaaa
