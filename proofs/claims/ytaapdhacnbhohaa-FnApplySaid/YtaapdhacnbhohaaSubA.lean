/- The reference's ApplyBindings. Conditions: texts of at most 2^20 bytes together. -/
import Derived.Test.YtaapdhacnbhohaaSubI
import Derived.Test.YtaapdhacnbhohaaSubS
set_option linter.unusedVariables false
set_option linter.unusedSimpArgs false
set_option maxRecDepth 100000
namespace Go.Proofs.Ytaapdhacnbhohaa
open Go.RowKit Ty ListS Parts Go.Proofs.Ytaapdhacnbhohaa.Text MkType
namespace Sub
theorem cell_set_ne {w : World} {p a : Addr} {v u : Value} (h : w.cell? p = some v) (hne : p.block ≠ a.block) : (w.setCell a u).cell? p = some v := (World.cell?_of_block (Below.heap_setCell _ _ _ _ hne)).trans h
theorem hb_set_w {w1 w2 wr : World} {B C k : Nat} {o : Obj} (h1 : Below B w1 w2) (h2 : Below C w2 wr) (h : w1.heap[k]? = some o) (hk : k < B ∧ k < C) : wr.heap[k]? = some o := by
  rw [h2.block k hk.2, h1.block k hk.1]; exact h
set_option maxHeartbeats 4000000 in
theorem ApplyBindings_spec (v : Value) (xs : List BB) (l : List UInt8) (w : World) (hl : l.length ≤ 2147483648) (h0 : tot xs + xs.length ≤ 1048576) (hs : SP w v xs) :
    Calls Try.prog 33 #[v, .string ⟨l.toArray⟩] w (APost w (applyB xs l)) := by
  obtain ⟨a0, cap0, rfl⟩ := sp_slice hs
  have HS := hid hs
  cases hty : ty l with
  | none =>
    have HN : Hid (applyB xs l = none) := apply_not (by rw [hty]; rfl)
    have hrd := l1Read_none l w (by unfold maxLen; omega) hty
    clear hty hs
    go_enter Try.func33, Try.ntmps33
    go_wp2_with (first | (go_at_call 54; refine hrd.mono ?_; rintro e w1 ⟨rfl, hb⟩; have HB1 := hid hb; clear hb hrd))
    go_ret2
    exact ⟨by rw [HN.out]; rfl, HB1.out.alloc HB1.out.size _⟩
  | some t =>
    have HT : Hid (ty l = some t) := hty
    have hrd := l1Read_some l t w hty
    clear hty hs
    cases hbv : bvB xs with
    | false =>
      have HN : Hid (applyB xs l = none) := apply_bad hbv
      have HBV := hid hbv
      clear hbv
      go_enter Try.func33, Try.ntmps33
      go_wp2_with (first | (go_at_call 54; refine hrd.mono ?_; rintro e w1 ⟨hd0, sl0, rfl, hn, hb⟩; obtain ⟨rfl, p0, n0, c0, rfl⟩ := hn.form; have HB1 := hid hb; have HN1 := hid hn; clear hb hn hrd) | (go_at_call 36; refine (BindingsValid_spec _ xs _ h0 (HS.out.below (HB1.out.alloc HB1.out.size _))).mono ?_; rintro e w2 ⟨rfl, hb⟩; rw [HBV.out]; have HBB := hid hb; clear hb))
      go_ret2
      exact ⟨by rw [HN.out]; rfl, (HB1.out.alloc HB1.out.size _).trans (HBB.out.mono (by have := HB1.out.size; simp; omega))⟩
    | true =>
      have HG : Hid (∀ i, i < xs.length → good xs i) := bv_good hbv
      have HBV := hid hbv
      clear hbv
      go_enter Try.func33, Try.ntmps33
      go_wp2_with (first | (go_at_call 54; refine hrd.mono ?_; rintro e w1 ⟨hd0, sl0, rfl, hn, hb⟩; obtain ⟨rfl, p0, n0, c0, rfl⟩ := hn.form; have HB1 := hid hb; have HN1 := hid hn; clear hb hn hrd) | (go_at_call 36; refine (BindingsValid_spec _ xs _ h0 (HS.out.below (HB1.out.alloc HB1.out.size _))).mono ?_; rintro e w2 ⟨rfl, hb⟩; rw [HBV.out]; have HBB := hid hb; clear hb))
      have HBW : Hid (Below w.heap.size w w2) := (HB1.out.alloc HB1.out.size _).trans (HBB.out.mono (by have := HB1.out.size; simp; omega))
      have hzw2 := HBW.out.size
      go_loopg [28] xs.length (fun q iv wr => ∃ k : Nat, k ≤ xs.length ∧ xs.length - k ≤ q ∧ iv = .int .i64 k ∧ MapAt (fun b => b ≠ w2.heap.size) wr w2.heap.size (bmap (xs.take k)) ∧ Below w2.heap.size w2 wr)
      case atStart =>
        refine ⟨0, Nat.zero_le _, by simp, rfl, ⟨fun _ _ => rfl, _, _, heap_alloc_new _ _, rfl, fun k hk c hc => ⟨0, none, 0, 0, ?_, ?_, rfl⟩⟩, (Below.refl _ _).alloc (Nat.le_refl _) _⟩
        all_goals (rcases k with _ | _ | _ | _ | _ | _ | _ | _ | _ | _ | _ | _ | k <;> first | rfl | omega)
      case round =>
        obtain ⟨k, hk, hq, rfl, hmap, hb⟩ := hrel
        have HMAP := hid hmap
        have HB := hid hb
        have hbz := hb.size
        clear hb hmap
        by_cases hlt : k < xs.length
        · obtain ⟨⟨x, y⟩, hp⟩ : ∃ p, xs[k]? = some p := ⟨_, List.getElem?_eq_getElem hlt⟩
          obtain ⟨c, u, hx, hcv, hu⟩ := good_take HG.out hp
          dsimp only at hx hu
          subst hx
          obtain ⟨ly, rfl⟩ : ∃ l : List UInt8, y = ⟨l.toArray⟩ := ⟨y.data.toList, rfl⟩
          obtain ⟨b, off, rfl, k0, k1, z0, z1, hbl⟩ := sp_at (HS.out.below HBW.out) hp
          have HSTEP : Hid (bmap (xs.take (k + 1)) = fun d => if d = c then some u else bmap (xs.take k) d) := bmap_step HG.out hp hu
          have hu2 : ty ly = some u := hu
          rcases ix_cases c with ⟨-, hni⟩ | ⟨j, hj, hix, hjl⟩
          · exact absurd (isV_lets hcv) hni
          have HIX := hid hix
          have HJ := hid hjl
          obtain ⟨hm0, cs, em, hm1, hm2, hm3⟩ := HMAP.out
          obtain ⟨hdj, aj, nj, capj, q1, q2, -⟩ := hm3 j hj c hjl
          have hmz := lt_of_heap hm1
          have HM1 := hid hm1
          have HQ1 := hid q1
          have HQ2 := hid q2
          have kb0 : wr.cell? ⟨b, off + k * 2, none⟩ = some (.string ⟨#[c]⟩) := (HB.out.cell (p := ⟨b, off + k * 2, none⟩) hbl).trans k0
          have kb1 : wr.cell? ⟨b, off + k * 2 + 1, none⟩ = some (.string ⟨ly.toArray⟩) := (HB.out.cell (p := ⟨b, off + k * 2 + 1, none⟩) hbl).trans k1
          have hbl2 : b < wr.heap.size := by omega
          have HHB : Hid (u.WF ∧ u.head ≠ 0) := by
            have h := (ty_some hu2).2.1
            refine ⟨h, fun e => ?_⟩
            have h2 := ar_parts h
            rw [e] at h2
            simp [ar] at h2
          clear hp hix hjl hm0 hm1 hm2 hm3 q1 q2 hu hcv k0 k1
          go_wp2_with fail
          have d0 : (wr.alloc (.cells #[.string ⟨#[c]⟩, .string ⟨ly.toArray⟩] 46)).cell? ⟨wr.heap.size, 0, none⟩ = some (.string ⟨#[c]⟩) := heap_cell (heap_alloc_new _ _) 0
          have d1 : (wr.alloc (.cells #[.string ⟨#[c]⟩, .string ⟨ly.toArray⟩] 46)).cell? ⟨wr.heap.size, 1, none⟩ = some (.string ⟨ly.toArray⟩) := heap_cell (heap_alloc_new _ _) 1
          have HMW := hid (hb_alloc HM1.out (.cells #[.string ⟨#[c]⟩, .string ⟨ly.toArray⟩] 46))
          have HMAPW : Hid (MapAt (fun k => k ≠ w2.heap.size) (wr.alloc (.cells #[.string ⟨#[c]⟩, .string ⟨ly.toArray⟩] 46)) w2.heap.size (bmap (xs.take k))) := HMAP.out.keep (keepsP_alloc _ _) (Below.heap_alloc _ _ _ hmz) (by simp)
          have HBW2 : Hid (Below w2.heap.size w2 (wr.alloc (.cells #[.string ⟨#[c]⟩, .string ⟨ly.toArray⟩] 46))) := HB.out.alloc (by omega) _
          have hzW : (wr.alloc (.cells #[.string ⟨#[c]⟩, .string ⟨ly.toArray⟩] 46)).heap.size = wr.heap.size + 1 := by simp
          clear HMAP HB HM1 kb0 kb1
          generalize (wr.alloc (.cells #[.string ⟨#[c]⟩, .string ⟨ly.toArray⟩] 46)) = W at *
          refine wp_region_any (by kernel_rfl) ?_
          change wpAny _ _ _ _ _ _ _ (World.drew _)
          refine wpAny_take (i := 0) (v := .pointer (some ⟨w2.heap.size, 0, none⟩)) rfl (by kernel_rfl) (by kernel_rfl) (by kernel_rfl) (fun _ _ _ h => h) (Or.inl ⟨by rfl, fun _ => by go_simp⟩) ?_
          refine wpAny_take (i := 1) (v := .pointer (some ⟨wr.heap.size, 0, none⟩)) rfl (by kernel_rfl) (by kernel_rfl) (by kernel_rfl) (fun _ _ _ h => h) (Or.inl ⟨by rfl, fun _ => by go_simp⟩) ?_
          refine wpAny_take (i := 5) (v := .pointer (some ⟨wr.heap.size, 1, none⟩)) rfl (by kernel_rfl) (by kernel_rfl) (by kernel_rfl) (fun _ _ _ h => h) (Or.inl ⟨by rfl, fun _ => by go_simp⟩) ?_
          refine wpAny_take (i := 11) (v := .pointer (some ⟨w2.heap.size, 0, none⟩)) rfl (by kernel_rfl) (by kernel_rfl) (by kernel_rfl) (fun _ _ _ h => h) (Or.inl ⟨by rfl, fun _ => by go_simp⟩) ?_
          refine wpAny_of_T (S := fun X => X.cell? ⟨wr.heap.size, 0, none⟩ = some (.string ⟨#[c]⟩) ∧ X.cell? ⟨wr.heap.size, 1, none⟩ = some (.string ⟨ly.toArray⟩)) (m := 14) _ _ _ _ ?_
          refine wpAnyT_take (i := 2) (v := .string ⟨#[c]⟩) rfl (by kernel_rfl) (by kernel_rfl) (by kernel_rfl) (by kernel_rfl) (fun _ _ _ h => h) (Or.inl ⟨by rfl, fun X hS => by obtain ⟨e0, e1⟩ := hS; clear d0 d1; go_simp⟩) ⟨d0, d1⟩ ?_
          refine wpAnyT_take (i := 3) (v := .int .u8 c.toNat) rfl (by kernel_rfl) (by kernel_rfl) (by kernel_rfl) (by kernel_rfl) (fun _ _ _ h => h) (Or.inl ⟨by rfl, fun X hS => by clear d0 d1 hS; go_simp; rfl⟩) ⟨d0, d1⟩ ?_
          refine wpAnyT_take (i := 6) (v := .string ⟨ly.toArray⟩) rfl (by kernel_rfl) (by kernel_rfl) (by kernel_rfl) (by kernel_rfl) (fun _ _ _ h => h) (Or.inl ⟨by rfl, fun X hS => by obtain ⟨e0, e1⟩ := hS; clear d0 d1; go_simp⟩) ⟨d0, d1⟩ ?_
          refine wpAnyT_one 4 rfl (by kernel_rfl) (fun K hK => ?_)
          go_simp
          refine (l2Index_any c _).mono ?_
          rintro e w' ⟨rfl, rfl⟩
          rw [HIX.out]
          refine hK _ _ (fun _ => ⟨d0, d1⟩) ?_
          clear hK K
          refine wpAnyT_one 7 rfl (by kernel_rfl) (fun K hK => ?_)
          go_simp
          refine (l1Read_some ly u _ hu2).mono ?_
          rintro e w3 ⟨h3, s3, rfl, hn, hb⟩
          obtain ⟨rfl, p3, n3, c3, rfl⟩ := hn.form
          have HB3 : Hid (Below W.heap.size W w3) := ⟨hb.os, hb.tape, hb.output, hb.size, hb.block⟩
          have hz3 : W.heap.size ≤ w3.heap.size := hb.size
          have SR3 : Hid (SR (fun k => k ≠ w2.heap.size) w3 u (.int .u8 u.head.toNat) (.slice p3 n3 c3)) := (SR.of hn).mono (fun k _ h => by have h1 : W.heap.size ≤ k := h.1; omega)
          have g0 : w3.cell? ⟨wr.heap.size, 0, none⟩ = some (.string ⟨#[c]⟩) := (HB3.out.cell (p := ⟨wr.heap.size, 0, none⟩) (by show wr.heap.size < W.heap.size; omega)).trans d0
          have g1 : w3.cell? ⟨wr.heap.size, 1, none⟩ = some (.string ⟨ly.toArray⟩) := (HB3.out.cell (p := ⟨wr.heap.size, 1, none⟩) (by show wr.heap.size < W.heap.size; omega)).trans d1
          have hmw3 := below_heap HB3.out (by omega) HMW.out
          have km0 : w3.cell? ⟨w2.heap.size, j * 2, none⟩ = some (.int .u8 hdj.toNat) := (heap_cell hmw3 _).trans HQ1.out
          have km1 : w3.cell? ⟨w2.heap.size, j * 2 + 1, none⟩ = some (.slice aj nj capj) := (heap_cell hmw3 _).trans HQ2.out
          have fm0 := heap_free hmw3 (j * 2)
          have fm1 := heap_free hmw3 (j * 2 + 1)
          have hmz3 := lt_of_heap hmw3
          have HMAP3 : Hid (MapAt (fun k => k ≠ w2.heap.size) w3 w2.heap.size (bmap (xs.take k))) := HMAPW.out.keep (keepsP_below HB3.out (Nat.le_refl _)) (HB3.out.block _ (by omega)) hz3
          clear hn hb d0 d1 hmw3
          refine hK _ _ (fun _ => ⟨g0, g1⟩) ?_
          clear hK K
          refine wpAnyT_take (i := 8) (v := .tuple #[.agg #[.int .u8 u.head.toNat, .slice p3 n3 c3], .bool true]) rfl (by kernel_rfl) (by kernel_rfl) (by kernel_rfl) (by kernel_rfl) (fun _ _ _ h => h) (Or.inl ⟨by rfl, fun X hS => by clear g0 g1 hS km0 km1; go_simp⟩) ⟨g0, g1⟩ ?_
          refine wpAnyT_take (i := 9) (v := .agg #[.int .u8 u.head.toNat, .slice p3 n3 c3]) rfl (by kernel_rfl) (by kernel_rfl) (by kernel_rfl) (by kernel_rfl) (fun _ _ _ h => h) (Or.inl ⟨by rfl, fun X hS => by clear g0 g1 hS km0 km1; go_simp⟩) ⟨g0, g1⟩ ?_
          refine wpAnyT_take (i := 10) (v := .bool true) rfl (by kernel_rfl) (by kernel_rfl) (by kernel_rfl) (by kernel_rfl) (fun _ _ _ h => h) (Or.inl ⟨by rfl, fun X hS => by clear g0 g1 hS km0 km1; go_simp⟩) ⟨g0, g1⟩ ?_
          have hj2 : (j : Int) < 12 := by omega
          refine wpAnyT_one 12 rfl (by kernel_rfl) (fun K hK => ?_)
          go_simp
          refine hK _ _ (fun _ => ⟨g0, g1⟩) ?_
          clear hK K
          refine wpAnyT_one 13 rfl (by kernel_rfl) (fun K hK => ?_)
          go_simp
          refine hK _ _ (fun _ => ⟨cell_set_ne (cell_set_ne g0 (by show wr.heap.size ≠ w2.heap.size; omega)) (by show wr.heap.size ≠ w2.heap.size; omega), cell_set_ne (cell_set_ne g1 (by show wr.heap.size ≠ w2.heap.size; omega)) (by show wr.heap.size ≠ w2.heap.size; omega)⟩) ?_
          clear hK K g0 g1 km0 km1 fm0 fm1
          refine wpAnyT_end (by kernel_rfl) ?_
          go_wp2
          go_roundg (gk - 1)
          case measure => omega
          case rel =>
            refine ⟨k + 1, by omega, by omega, by go_num, ?_, ((HBW2.out.trans (HB3.out.mono (by omega))).setCell (by show w2.heap.size ≤ w2.heap.size; omega) _).setCell (by show w2.heap.size ≤ w2.heap.size; omega) _⟩
            rw [HSTEP.out]
            exact HMAP3.out.set (fun h => h rfl) hj HJ.out SR3.out HHB.out.2
        · have hke : k = xs.length := by omega
          have hmap2 : MapAt (fun k => k < wr.heap.size) wr w2.heap.size (bmap xs) := by
            have h := HMAP.out
            rw [hke, List.take_length] at h
            exact h.mono (fun k hk _ => hk)
          have hn6 := hb_set_w HBB.out HB.out (heap_alloc_new w1 (.cells #[.int .u8 t.head.toNat, .slice p0 n0 c0] 74)) ⟨by simp, by have := HBB.out.size; simp at this; omega⟩
          have k60 := heap_cell hn6 0
          have k61 := heap_cell hn6 1
          have hz12 : w1.heap.size < wr.heap.size := lt_of_heap hn6
          have HSNT : Hid (SNode 0 wr t (.int .u8 t.head.toNat) (.slice p0 n0 c0)) := by
            have h1 := HN1.out.mono (Nat.zero_le _)
            refine Keeps.snode (w := w1) (fun x _ hx => ?_) h1
            have h2 := HBB.out.size
            rw [HB.out.block x (by simp at h2; omega), HBB.out.block x (by simp; omega)]
            exact Below.heap_alloc _ _ _ hx
          have hdt := sub_text HG.out HT.out
          have hdl := flat_chL HG.out (ty_some HT.out).2.2
          have HMAP2 := hid hmap2
          have HBT : Hid (Below w.heap.size w wr) := HBW.out.trans (HB.out.mono hzw2)
          have hzT := HBT.out.size
          obtain ⟨d, hd⟩ : ∃ d, d = l.flatMap (chL xs) := ⟨_, rfl⟩
          rw [← hd] at hdt hdl
          obtain ⟨T, hT⟩ : ∃ T, T = sub (bmap xs) t := ⟨_, rfl⟩
          rw [← hT] at hdt
          have HTT := hid hT
          have HDT := hid hdt
          have HDD := hid hd
          clear hmap2 hn6 hdt hT hd
          have hPut := fun wx => l2Put_any (t.size + 1) t (.int .u8 t.head.toNat) (.slice p0 n0 c0) wx (bmap xs) wx.heap.size w2.heap.size (by omega)
          by_cases hd60 : d.length ≤ 60
          · have HR : Hid (applyB xs l = some d) := by show _ = _; rw [HDD.out]; exact apply_yes HBV.out (by rw [HT.out]; rfl) (by rw [← HDD.out]; exact hd60)
            go_wp2_with (first
              | (go_at_call 70; refine (hPut _ HMAP2.out (Nat.le_refl _) HSNT.out).mono ?_; rintro e w4 ⟨h4, s4, rfl, sr4, hb4⟩; rw [← HTT.out] at sr4; obtain ⟨rfl, p4, n4, c4, rfl⟩ := sr4.here.form; have SN4 : Hid (SNode 0 (w4.alloc (.cells #[.int .u8 T.head.toNat, .slice p4 n4 c4] 74)) T (.int .u8 T.head.toNat) (.slice p4 n4 c4)) := (sr4.keep (keepsP_alloc _ _) (by simp)).here; have HB4 : Hid (Below w.heap.size w (w4.alloc (.cells #[.int .u8 T.head.toNat, .slice p4 n4 c4] 74))) := (HBT.out.trans (hb4.mono hzT)).alloc (by have := hb4.size; omega) _; have hc4 := heap_alloc_new w4 (.cells #[.int .u8 T.head.toNat, .slice p4 n4 c4] 74); have hz4 : w.heap.size ≤ w4.heap.size := (by have := hb4.size; omega); clear sr4 hb4 hPut)
              | (go_at_call 71; refine (l2Length_any (T.size + 1) T _ _ 0 _ (by omega) (by rw [HDT.out]; omega) SN4.out).mono ?_; rintro e w5 ⟨rfl, hb5⟩; rw [HDT.out]; have HB5 : Hid (Below w.heap.size w w5) := HB4.out.trans (hb5.mono (by simp; omega)); have hz5 : w4.heap.size + 1 ≤ w5.heap.size := (by have := hb5.size; simpa using this); have hc5 := below_heap hb5 (by simp) hc4; have SN5 : Hid (SNode 0 w5 T (.int .u8 T.head.toNat) (.slice p4 n4 c4)) := Keeps.snode (keeps_of hb5 _) SN4.out; have k50 := heap_cell hc5 0; have k51 := heap_cell hc5 1; clear hb5 hc4 hc5)
              | (go_at_call 63; refine (l1Text_any (T.size + 1) T _ _ 0 _ (by omega) (by rw [HDT.out]; omega) SN5.out).mono ?_; rintro e w6 ⟨rfl, hb6⟩; rw [HDT.out]; have HB6 : Hid (Below w.heap.size w w6) := HB5.out.trans (hb6.mono HB5.out.size); clear hb6))
            go_ret2
            exact ⟨by rw [HR.out]; rfl, HB6.out⟩
          · have HR : Hid (applyB xs l = none) := apply_long (by rw [← HDD.out]; exact hd60)
            go_wp2_with (first
              | (go_at_call 70; refine (hPut _ HMAP2.out (Nat.le_refl _) HSNT.out).mono ?_; rintro e w4 ⟨h4, s4, rfl, sr4, hb4⟩; rw [← HTT.out] at sr4; obtain ⟨rfl, p4, n4, c4, rfl⟩ := sr4.here.form; have SN4 : Hid (SNode 0 (w4.alloc (.cells #[.int .u8 T.head.toNat, .slice p4 n4 c4] 74)) T (.int .u8 T.head.toNat) (.slice p4 n4 c4)) := (sr4.keep (keepsP_alloc _ _) (by simp)).here; have HB4 : Hid (Below w.heap.size w (w4.alloc (.cells #[.int .u8 T.head.toNat, .slice p4 n4 c4] 74))) := (HBT.out.trans (hb4.mono hzT)).alloc (by have := hb4.size; omega) _; have hc4 := heap_alloc_new w4 (.cells #[.int .u8 T.head.toNat, .slice p4 n4 c4] 74); have hz4 : w.heap.size ≤ w4.heap.size := (by have := hb4.size; omega); clear sr4 hb4 hPut)
              | (go_at_call 71; refine (l2Length_any (T.size + 1) T _ _ 0 _ (by omega) (by rw [HDT.out]; omega) SN4.out).mono ?_; rintro e w5 ⟨rfl, hb5⟩; rw [HDT.out]; have HB5 : Hid (Below w.heap.size w w5) := HB4.out.trans (hb5.mono (by simp; omega)); have hz5 : w4.heap.size + 1 ≤ w5.heap.size := (by have := hb5.size; simpa using this); have hc5 := below_heap hb5 (by simp) hc4; have SN5 : Hid (SNode 0 w5 T (.int .u8 T.head.toNat) (.slice p4 n4 c4)) := Keeps.snode (keeps_of hb5 _) SN4.out; have k50 := heap_cell hc5 0; have k51 := heap_cell hc5 1; clear hb5 hc4 hc5))
            go_ret2
            exact ⟨by rw [HR.out]; rfl, HB5.out⟩
end Sub
end Go.Proofs.Ytaapdhacnbhohaa
