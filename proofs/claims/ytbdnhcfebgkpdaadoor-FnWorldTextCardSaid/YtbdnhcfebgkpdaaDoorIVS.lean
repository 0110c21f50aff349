/- InstanceValid of the reference. Conditions: the sizes are those typed. -/
import Derived.Test.YtbdnhcfebgkpdaaDoorIV
import Derived.Test.YtbdnhcfebgkpdaaDoorReg2
import Derived.Test.YtbdnhcfebgkpdaaDoorL1Read
set_option linter.unusedVariables false
set_option linter.unusedSimpArgs false
set_option maxRecDepth 100000
namespace Go.Proofs.YtbdnhcfebgkpdaaDoor
open Go.RowKit Known Classes Ty IV
namespace IV
theorem var_head {c : UInt8} {r : List UInt8} (h : (ty (c :: r)).isSome = true) : isV c = isVarL (c :: r) := by
  obtain ⟨T, hT⟩ := Option.isSome_iff_exists.1 h
  obtain ⟨he, hw, -⟩ := ty_some hT
  cases T with
  | leaf d =>
    simp [Ty.text] at he
    obtain ⟨rfl, rfl⟩ := he
    rfl
  | one d u =>
    simp [Ty.text] at he
    obtain ⟨rfl, rfl⟩ := he
    have hd : ar c = some 1 := hw.1
    have : isV c = false := by
      unfold ar at hd
      unfold isV
      revert hd
      split <;> simp_all <;> (intros; subst_vars; decide)
    rw [this]; rfl
  | two d u v =>
    simp [Ty.text] at he
    obtain ⟨rfl, rfl⟩ := he
    have hd : ar c = some 2 := hw.1
    have : isV c = false := by
      unfold ar at hd
      unfold isV
      revert hd
      split <;> simp_all <;> (intros; subst_vars; decide)
    rw [this]; rfl
theorem bndS {xs : List BB} (h : tot xs + xs.length ≤ 1048577) (i : Nat) (p : BB) (hp : xs[i]? = some p) : p.1.size ≤ 1048576 ∧ p.2.size ≤ 1048576 := by
  have h3 := (List.getElem?_eq_some_iff.1 hp).1
  have h1 := tot_take xs i p hp
  have h2 := tot_le xs (i + 1)
  omega
theorem of_bytesS (x : ByteArray) : ∃ l : List UInt8, x = ⟨l.toArray⟩ ∧ x.size = l.length := ⟨x.data.toList, rfl, by simp⟩
set_option maxHeartbeats 4000000 in
theorem InstanceValid_spec (a d : Option Addr) (cap : Nat) (yi : Option Addr) (n c1 cap3 : Nat) (cs : List BB) (x t : List UInt8) (ns : List BB) (w : World) (h0 : tot cs + cs.length ≤ 1048577) (hcap : cs.length ≤ cap) (hx : x.length ≤ 1048576) (ht : t.length ≤ 1048576) (hns : tot ns + ns.length ≤ 1048576) (hs : SP w (.slice a cs.length cap) cs) (hn : SP w (.slice d ns.length cap3) ns) :
    Calls Tryd.prog 48 #[.agg #[.slice a cs.length cap, .slice yi n c1], .agg #[.string ⟨x.toArray⟩, .string ⟨t.toArray⟩, .slice d ns.length cap3]] w fun e w' => e = .returned (.bool (ivB cs (⟨x.toArray⟩, ⟨t.toArray⟩, ns))) ∧ Below w.heap.size w w' := by
  have HBD : Hid (∀ (i : Nat) (p : BB), ns[i]? = some p → p.1.size ≤ 1048576 ∧ p.2.size ≤ 1048576) := bndS (Nat.le_succ_of_le hns)
  have hnl : ns.length ≤ 1048576 := by omega
  have HS := hid hs
  have HN := hid hn
  have H0 := hid h0
  clear hs hn h0 hns
  go_enter Tryd.func48, Tryd.ntmps48
  go_wp2_with fail
  have HBW : Hid (Below w.heap.size w ((w.alloc (.cells #[.slice a cs.length cap, .slice yi n c1] 42)).alloc (.cells #[.string ⟨x.toArray⟩, .string ⟨t.toArray⟩, .slice d ns.length cap3] 28))) := ((Below.refl _ _).alloc (Nat.le_refl _) _).alloc (by simp) _
  have HX1 : Hid (((w.alloc (.cells #[.slice a cs.length cap, .slice yi n c1] 42)).alloc (.cells #[.string ⟨x.toArray⟩, .string ⟨t.toArray⟩, .slice d ns.length cap3] 28)).heap[w.heap.size]? = some (.cells #[.slice a cs.length cap, .slice yi n c1] 42 (0, 0))) := hb_alloc (heap_alloc_new _ _) _
  have HX2 : Hid (((w.alloc (.cells #[.slice a cs.length cap, .slice yi n c1] 42)).alloc (.cells #[.string ⟨x.toArray⟩, .string ⟨t.toArray⟩, .slice d ns.length cap3] 28)).heap[w.heap.size + 1]? = some (.cells #[.string ⟨x.toArray⟩, .string ⟨t.toArray⟩, .slice d ns.length cap3] 28 (0, 0))) := heap_alloc2_new _ _ _
  generalize (w.alloc (.cells #[.slice a cs.length cap, .slice yi n c1] 42)).alloc (.cells #[.string ⟨x.toArray⟩, .string ⟨t.toArray⟩, .slice d ns.length cap3] 28) = W at *
  have hzb := HBW.out.size
  have hzs := lt_of_heap HX2.out
  refine (l3Classes_any a cap cs W H0.out hcap (HS.out.below HBW.out)).mono ?_
  rintro e w1 ⟨rfl, hb⟩
  have HB1 := hid hb
  obtain ⟨p10, p11⟩ := keep2 HX1.out hb
  obtain ⟨q10, q11, q12⟩ := keep3 HX2.out hb
  have hz1 := hb.size
  clear hb
  cases h1 : clB cs with
  | false =>
    have HR : Hid (ivB cs (⟨x.toArray⟩, ⟨t.toArray⟩, ns) = false) := iv1 h1
    clear h1
    go_wp2
    go_ret
    exact ⟨ret_bool HR.out.symm, HBW.out.trans (HB1.out.mono HBW.out.size)⟩
  | true =>
    have H1 := hid h1
    clear h1
    go_wp2_with fail
    refine (l3Class_any a cap yi n c1 cs ⟨x.toArray⟩ w1 ((HS.out.below HBW.out).below HB1.out)).mono ?_
    rintro e w2 ⟨rfl, hb⟩
    have HB2 : Hid (Below W.heap.size W w2) := HB1.out.trans (hb.mono HB1.out.size)
    clear hb p10 p11 q10 q11 q12
    obtain ⟨p10, p11⟩ := keep2 HX1.out HB2.out
    obtain ⟨q10, q11, q12⟩ := keep3 HX2.out HB2.out
    have hz2 := HB2.out.size
    obtain ⟨ixv, hixv⟩ : ∃ v, v = idxC cs ⟨x.toArray⟩ := ⟨_, rfl⟩
    have hkx := idx_known cs ⟨x.toArray⟩
    rw [← hixv] at hkx
    rw [← hixv]
    clear hixv
    cases h2 : knownB cs ⟨x.toArray⟩ with
    | false =>
      have HR : Hid (ivB cs (⟨x.toArray⟩, ⟨t.toArray⟩, ns) = false) := iv2 h2
      have hneg : ixv < 0 := by rw [h2] at hkx; simpa using hkx.symm
      clear h2 hkx
      go_wp2
      go_ret
      exact ⟨ret_bool HR.out.symm, HBW.out.trans (HB2.out.mono HBW.out.size)⟩
    | true =>
      have H2 := hid h2
      have hpos : 0 ≤ ixv := by rw [h2] at hkx; simpa using hkx.symm
      clear h2 hkx
      go_wp2_with fail
      refine (TypeValid_spec t w2 (by unfold maxLen; omega)).mono ?_
      rintro e w3 ⟨rfl, hb⟩
      have HB3 : Hid (Below W.heap.size W w3) := HB2.out.trans (hb.mono HB2.out.size)
      clear hb p10 p11 q10 q11 q12
      obtain ⟨p10, p11⟩ := keep2 HX1.out HB3.out
      obtain ⟨q10, q11, q12⟩ := keep3 HX2.out HB3.out
      have hz3 := HB3.out.size
      cases h3 : (ty t).isSome with
      | false =>
        have HR : Hid (ivB cs (⟨x.toArray⟩, ⟨t.toArray⟩, ns) = false) := iv3 h3
        clear h3
        go_wp2
        go_ret
        exact ⟨ret_bool HR.out.symm, HBW.out.trans (HB3.out.mono HBW.out.size)⟩
      | true =>
        have H3 := hid h3
        clear h3
        by_cases h4 : t.length ≤ 20
        case neg =>
          have HR : Hid (ivB cs (⟨x.toArray⟩, ⟨t.toArray⟩, ns) = false) := iv4 (by omega)
          go_wp2
          go_ret
          exact ⟨ret_bool HR.out.symm, HBW.out.trans (HB3.out.mono HBW.out.size)⟩
        obtain ⟨c, htc⟩ : ∃ c, t[0]? = some c ∧ isV c = isVarL t := by
          have h3 := H3.out
          cases t with
          | nil => exact absurd h3 (by rw [ty_nil]; simp)
          | cons c r => exact ⟨c, rfl, var_head h3⟩
        have HTC := hid htc
        have htp : 0 < t.length := (List.getElem?_eq_some_iff.1 htc.1).1
        clear htc
        go_wp2_with fail
        rw [Classes.get_at t 0 c HTC.out.1]
        refine (l1Variable_any c w3).mono ?_
        rintro e w4 ⟨rfl, rfl⟩
        rw [HTC.out.2]
        cases h5 : isVarL t with
        | true =>
          have HR : Hid (ivB cs (⟨x.toArray⟩, ⟨t.toArray⟩, ns) = false) := iv5 h5
          clear h5
          go_wp2
          go_ret
          exact ⟨ret_bool HR.out.symm, HBW.out.trans (HB3.out.mono HBW.out.size)⟩
        | false =>
          have H5 := hid h5
          clear h5
          by_cases h6 : ns.length ≤ 3
          case neg =>
            have HR : Hid (ivB cs (⟨x.toArray⟩, ⟨t.toArray⟩, ns) = false) := iv6 (by omega)
            go_wp2
            go_ret
            exact ⟨ret_bool HR.out.symm, HBW.out.trans (HB3.out.mono HBW.out.size)⟩
          go_wp2_with fail
          go_loopg [49] ns.length (fun q i wr => ∃ k : Nat, k ≤ ns.length ∧ ns.length - k ≤ q ∧ i = .int .i64 k ∧ Hid (∀ (j : Nat) (p : BB), j < k → ns[j]? = some p → needB cs t p = true) ∧ Below W.heap.size W wr)
          case atStart => exact ⟨0, Nat.zero_le _, by simp, rfl, (fun j p h => by omega), HB3.out⟩
          case round =>
            obtain ⟨k, hk, hq, rfl, hgd, hb⟩ := hrel
            have HB := hid hb
            have HGD := hid hgd
            have hbz := hb.size
            clear hb hgd p10 p11 q10 q11 q12
            by_cases hlt : k < ns.length
            · obtain ⟨⟨y, z⟩, hp⟩ : ∃ p, ns[k]? = some p := ⟨_, List.getElem?_eq_getElem hlt⟩
              obtain ⟨b, off, rfl, k0, k1, z0, z1, hbl⟩ := sp_at ((HN.out.below HBW.out).below HB.out) hp
              obtain ⟨hs1, hs2⟩ := HBD.out k _ hp
              obtain ⟨y, rfl, hyl⟩ := of_bytesS y
              obtain ⟨z, rfl, hzl⟩ := of_bytesS z
              have HP := hid hp
              dsimp only at hs1 hs2
              have hyl2 : y.length ≤ 1048576 := by omega
              have hzl2 : z.length ≤ 1048576 := by omega
              clear hp hs1 hs2 hyl hzl z0 z1
              obtain ⟨p10, p11⟩ := keep2 HX1.out HB.out
              have hlt1 : w.heap.size < wr.heap.size := by omega
              go_wp2_with fail
              have HBV : Hid (Below W.heap.size W (wr.alloc (.cells #[.string ⟨y.toArray⟩, .string ⟨z.toArray⟩] 25))) := HB.out.alloc (by omega) _
              have HXN : Hid ((wr.alloc (.cells #[.string ⟨y.toArray⟩, .string ⟨z.toArray⟩] 25)).heap[wr.heap.size]? = some (.cells #[.string ⟨y.toArray⟩, .string ⟨z.toArray⟩] 25 (0, 0))) := heap_alloc_new _ _
              clear k0 k1 p10 p11
              generalize wr.alloc (.cells #[.string ⟨y.toArray⟩, .string ⟨z.toArray⟩] 25) = V at *
              generalize wr.heap.size = b3 at *
              have hzv := HBV.out.size
              have hvlz := varsL_len z
              have hvlt := varsL_len t
              cases h7 : knownB cs ⟨y.toArray⟩ with
              | false =>
                have HR : Hid (ivB cs (⟨x.toArray⟩, ⟨t.toArray⟩, ns) = false) := iv7 HP.out (nd1 h7)
                have H7 := hid h7
                clear h7
                refine wp_region_any (by kernel_rfl) ?_
                change wpAny _ _ _ _ _ _ _ (World.drew _)
                have SX : V.drew.cell? ⟨w.heap.size, 0, none⟩ = some (.slice a cs.length cap) ∧ V.drew.cell? ⟨w.heap.size, 1, none⟩ = some (.slice yi n c1) ∧ V.drew.cell? ⟨b3, 0, none⟩ = some (.string ⟨y.toArray⟩) ∧ V.drew.cell? ⟨b3, 1, none⟩ = some (.string ⟨z.toArray⟩) ∧ V.drew.cell? ⟨w.heap.size + 1, 1, none⟩ = some (.string ⟨t.toArray⟩) := ⟨(keep2 HX1.out (HBV.out.trans ((below_drew1 (Below.refl _ V)).mono HBV.out.size))).1, (keep2 HX1.out (HBV.out.trans ((below_drew1 (Below.refl _ V)).mono HBV.out.size))).2, (keep2 HXN.out (below_drew1 (Below.refl _ V))).1, (keep2 HXN.out (below_drew1 (Below.refl _ V))).2, (keep3 HX2.out (HBV.out.trans ((below_drew1 (Below.refl _ V)).mono HBV.out.size))).2.1⟩
                refine wpAny_of_T (S := fun X => X.cell? ⟨w.heap.size, 0, none⟩ = some (.slice a cs.length cap) ∧ X.cell? ⟨w.heap.size, 1, none⟩ = some (.slice yi n c1) ∧ X.cell? ⟨b3, 0, none⟩ = some (.string ⟨y.toArray⟩) ∧ X.cell? ⟨b3, 1, none⟩ = some (.string ⟨z.toArray⟩) ∧ X.cell? ⟨w.heap.size + 1, 1, none⟩ = some (.string ⟨t.toArray⟩)) (m := 28) _ _ _ _ ?_
                refine wpAnyT_take (i := 0) (v := .agg #[.slice a cs.length cap, .slice yi n c1]) rfl (by kernel_rfl) (by kernel_rfl) (by kernel_rfl) (by kernel_rfl) (fun _ _ _ h => h) (Or.inl ⟨by kernel_rfl, fun X hS => by obtain ⟨e0, e1, e2, e3, e4⟩ := hS; go_simp⟩) SX ?_
                try go_simp
                refine wpAnyT_take (i := 1) (v := .pointer (some ⟨b3, 0, none⟩)) rfl (by kernel_rfl) (by kernel_rfl) (by kernel_rfl) (by kernel_rfl) (fun _ _ _ h => h) (Or.inl ⟨by kernel_rfl, fun X hS => by obtain ⟨e0, e1, e2, e3, e4⟩ := hS; go_simp⟩) SX ?_
                try go_simp
                refine wpAnyT_take (i := 2) (v := .string ⟨y.toArray⟩) rfl (by kernel_rfl) (by kernel_rfl) (by kernel_rfl) (by kernel_rfl) (fun _ _ _ h => h) (Or.inl ⟨by kernel_rfl, fun X hS => by obtain ⟨e0, e1, e2, e3, e4⟩ := hS; go_simp⟩) SX ?_
                try go_simp
                refine wpAnyT_one 3 rfl (by kernel_rfl) (fun K hK => ?_)
                go_simp
                refine (l3Class_any a cap yi n c1 cs ⟨y.toArray⟩ V.drew (((HS.out.below HBW.out).below HBV.out).below (below_drew1 (Below.refl _ V)))).mono ?_
                rintro e w5 ⟨rfl, hb⟩
                have HB5 : Hid (Below V.heap.size V w5) := (below_drew1 (Below.refl _ V)).trans hb
                clear hb
                have SX5 : w5.cell? ⟨w.heap.size, 0, none⟩ = some (.slice a cs.length cap) ∧ w5.cell? ⟨w.heap.size, 1, none⟩ = some (.slice yi n c1) ∧ w5.cell? ⟨b3, 0, none⟩ = some (.string ⟨y.toArray⟩) ∧ w5.cell? ⟨b3, 1, none⟩ = some (.string ⟨z.toArray⟩) ∧ w5.cell? ⟨w.heap.size + 1, 1, none⟩ = some (.string ⟨t.toArray⟩) := ⟨(keep2 HX1.out (HBV.out.trans ((HB5.out).mono HBV.out.size))).1, (keep2 HX1.out (HBV.out.trans ((HB5.out).mono HBV.out.size))).2, (keep2 HXN.out (HB5.out)).1, (keep2 HXN.out (HB5.out)).2, (keep3 HX2.out (HBV.out.trans ((HB5.out).mono HBV.out.size))).2.1⟩
                obtain ⟨ixv, hixv⟩ : ∃ v, v = idxC cs ⟨y.toArray⟩ := ⟨_, rfl⟩
                have hix2 : ixv < 0 := by
                  have h := idx_known cs ⟨y.toArray⟩
                  rw [H7.out, ← hixv] at h
                  simpa using h
                rw [← hixv]
                clear hixv
                refine hK _ _ (fun _ => SX5) ?_
                clear hK K
                clear SX
                refine wpAnyT_take (i := 4) (v := .bool true) rfl (by kernel_rfl) (by kernel_rfl) (by kernel_rfl) (by kernel_rfl) (fun _ _ _ h => h) (Or.inl ⟨by kernel_rfl, fun X hS => by obtain ⟨e0, e1, e2, e3, e4⟩ := hS; go_simp⟩) SX5 ?_
                try go_simp
                refine wpAnyT_take (i := 5) (v := .bool true) rfl (by kernel_rfl) (by kernel_rfl) (by kernel_rfl) (by kernel_rfl) (fun _ _ _ h => h) (Or.inl ⟨by kernel_rfl, fun X hS => by obtain ⟨e0, e1, e2, e3, e4⟩ := hS; go_simp⟩) SX5 ?_
                try go_simp
                refine wpAnyT_take (i := 6) (v := undef) rfl (by kernel_rfl) (by kernel_rfl) (by kernel_rfl) (by kernel_rfl) (fun _ _ _ h => h) (Or.inr ⟨by kernel_rfl, rfl⟩) SX5 ?_
                try go_simp
                refine wpAnyT_take (i := 7) (v := undef) rfl (by kernel_rfl) (by kernel_rfl) (by kernel_rfl) (by kernel_rfl) (fun _ _ _ h => h) (Or.inr ⟨by kernel_rfl, rfl⟩) SX5 ?_
                try go_simp
                refine wpAnyT_take (i := 8) (v := undef) rfl (by kernel_rfl) (by kernel_rfl) (by kernel_rfl) (by kernel_rfl) (fun _ _ _ h => h) (Or.inr ⟨by kernel_rfl, rfl⟩) SX5 ?_
                try go_simp
                refine wpAnyT_take (i := 9) (v := undef) rfl (by kernel_rfl) (by kernel_rfl) (by kernel_rfl) (by kernel_rfl) (fun _ _ _ h => h) (Or.inr ⟨by kernel_rfl, rfl⟩) SX5 ?_
                try go_simp
                refine wpAnyT_take (i := 10) (v := .bool true) rfl (by kernel_rfl) (by kernel_rfl) (by kernel_rfl) (by kernel_rfl) (fun _ _ _ h => h) (Or.inl ⟨by kernel_rfl, fun X hS => by obtain ⟨e0, e1, e2, e3, e4⟩ := hS; go_simp⟩) SX5 ?_
                try go_simp
                refine wpAnyT_take (i := 11) (v := .bool true) rfl (by kernel_rfl) (by kernel_rfl) (by kernel_rfl) (by kernel_rfl) (fun _ _ _ h => h) (Or.inl ⟨by kernel_rfl, fun X hS => by obtain ⟨e0, e1, e2, e3, e4⟩ := hS; go_simp⟩) SX5 ?_
                try go_simp
                refine wpAnyT_take (i := 12) (v := undef) rfl (by kernel_rfl) (by kernel_rfl) (by kernel_rfl) (by kernel_rfl) (fun _ _ _ h => h) (Or.inr ⟨by kernel_rfl, rfl⟩) SX5 ?_
                try go_simp
                refine wpAnyT_take (i := 13) (v := undef) rfl (by kernel_rfl) (by kernel_rfl) (by kernel_rfl) (by kernel_rfl) (fun _ _ _ h => h) (Or.inr ⟨by kernel_rfl, rfl⟩) SX5 ?_
                try go_simp
                refine wpAnyT_take (i := 14) (v := undef) rfl (by kernel_rfl) (by kernel_rfl) (by kernel_rfl) (by kernel_rfl) (fun _ _ _ h => h) (Or.inr ⟨by kernel_rfl, rfl⟩) SX5 ?_
                try go_simp
                refine wpAnyT_take (i := 15) (v := undef) rfl (by kernel_rfl) (by kernel_rfl) (by kernel_rfl) (by kernel_rfl) (fun _ _ _ h => h) (Or.inr ⟨by kernel_rfl, rfl⟩) SX5 ?_
                try go_simp
                refine wpAnyT_take (i := 16) (v := .bool true) rfl (by kernel_rfl) (by kernel_rfl) (by kernel_rfl) (by kernel_rfl) (fun _ _ _ h => h) (Or.inl ⟨by kernel_rfl, fun X hS => by obtain ⟨e0, e1, e2, e3, e4⟩ := hS; go_simp⟩) SX5 ?_
                try go_simp
                refine wpAnyT_take (i := 17) (v := .bool true) rfl (by kernel_rfl) (by kernel_rfl) (by kernel_rfl) (by kernel_rfl) (fun _ _ _ h => h) (Or.inl ⟨by kernel_rfl, fun X hS => by obtain ⟨e0, e1, e2, e3, e4⟩ := hS; go_simp⟩) SX5 ?_
                try go_simp
                refine wpAnyT_take (i := 18) (v := undef) rfl (by kernel_rfl) (by kernel_rfl) (by kernel_rfl) (by kernel_rfl) (fun _ _ _ h => h) (Or.inr ⟨by kernel_rfl, rfl⟩) SX5 ?_
                try go_simp
                refine wpAnyT_take (i := 19) (v := undef) rfl (by kernel_rfl) (by kernel_rfl) (by kernel_rfl) (by kernel_rfl) (fun _ _ _ h => h) (Or.inr ⟨by kernel_rfl, rfl⟩) SX5 ?_
                try go_simp
                refine wpAnyT_take (i := 20) (v := undef) rfl (by kernel_rfl) (by kernel_rfl) (by kernel_rfl) (by kernel_rfl) (fun _ _ _ h => h) (Or.inr ⟨by kernel_rfl, rfl⟩) SX5 ?_
                try go_simp
                refine wpAnyT_take (i := 21) (v := undef) rfl (by kernel_rfl) (by kernel_rfl) (by kernel_rfl) (by kernel_rfl) (fun _ _ _ h => h) (Or.inr ⟨by kernel_rfl, rfl⟩) SX5 ?_
                try go_simp
                refine wpAnyT_take (i := 22) (v := undef) rfl (by kernel_rfl) (by kernel_rfl) (by kernel_rfl) (by kernel_rfl) (fun _ _ _ h => h) (Or.inr ⟨by kernel_rfl, rfl⟩) SX5 ?_
                try go_simp
                refine wpAnyT_take (i := 23) (v := undef) rfl (by kernel_rfl) (by kernel_rfl) (by kernel_rfl) (by kernel_rfl) (fun _ _ _ h => h) (Or.inr ⟨by kernel_rfl, rfl⟩) SX5 ?_
                try go_simp
                refine wpAnyT_take (i := 24) (v := undef) rfl (by kernel_rfl) (by kernel_rfl) (by kernel_rfl) (by kernel_rfl) (fun _ _ _ h => h) (Or.inr ⟨by kernel_rfl, rfl⟩) SX5 ?_
                try go_simp
                refine wpAnyT_take (i := 25) (v := undef) rfl (by kernel_rfl) (by kernel_rfl) (by kernel_rfl) (by kernel_rfl) (fun _ _ _ h => h) (Or.inr ⟨by kernel_rfl, rfl⟩) SX5 ?_
                try go_simp
                refine wpAnyT_take (i := 26) (v := undef) rfl (by kernel_rfl) (by kernel_rfl) (by kernel_rfl) (by kernel_rfl) (fun _ _ _ h => h) (Or.inr ⟨by kernel_rfl, rfl⟩) SX5 ?_
                try go_simp
                refine wpAnyT_take (i := 27) (v := .bool true) rfl (by kernel_rfl) (by kernel_rfl) (by kernel_rfl) (by kernel_rfl) (fun _ _ _ h => h) (Or.inl ⟨by kernel_rfl, fun X hS => by obtain ⟨e0, e1, e2, e3, e4⟩ := hS; go_simp⟩) SX5 ?_
                try go_simp
                refine wpAnyT_drop _ 28 _ _ _ (by decide) (by kernel_rfl) ?_
                change wpList _ _ _ [] _ _
                clear SX5
                go_wp2
                go_ret
                exact ⟨ret_bool HR.out.symm, HBW.out.trans ((HBV.out.trans (HB5.out.mono HBV.out.size)).mono HBW.out.size)⟩
              | true =>
                have H7 := hid h7
                clear h7
                cases h8 : (ty z).isSome with
                | false =>
                  have HR : Hid (ivB cs (⟨x.toArray⟩, ⟨t.toArray⟩, ns) = false) := iv7 HP.out (nd2 h8)
                  have H8 := hid h8
                  clear h8
                  refine wp_region_any (by kernel_rfl) ?_
                  change wpAny _ _ _ _ _ _ _ (World.drew _)
                  have SX : V.drew.cell? ⟨w.heap.size, 0, none⟩ = some (.slice a cs.length cap) ∧ V.drew.cell? ⟨w.heap.size, 1, none⟩ = some (.slice yi n c1) ∧ V.drew.cell? ⟨b3, 0, none⟩ = some (.string ⟨y.toArray⟩) ∧ V.drew.cell? ⟨b3, 1, none⟩ = some (.string ⟨z.toArray⟩) ∧ V.drew.cell? ⟨w.heap.size + 1, 1, none⟩ = some (.string ⟨t.toArray⟩) := ⟨(keep2 HX1.out (HBV.out.trans ((below_drew1 (Below.refl _ V)).mono HBV.out.size))).1, (keep2 HX1.out (HBV.out.trans ((below_drew1 (Below.refl _ V)).mono HBV.out.size))).2, (keep2 HXN.out (below_drew1 (Below.refl _ V))).1, (keep2 HXN.out (below_drew1 (Below.refl _ V))).2, (keep3 HX2.out (HBV.out.trans ((below_drew1 (Below.refl _ V)).mono HBV.out.size))).2.1⟩
                  refine wpAny_of_T (S := fun X => X.cell? ⟨w.heap.size, 0, none⟩ = some (.slice a cs.length cap) ∧ X.cell? ⟨w.heap.size, 1, none⟩ = some (.slice yi n c1) ∧ X.cell? ⟨b3, 0, none⟩ = some (.string ⟨y.toArray⟩) ∧ X.cell? ⟨b3, 1, none⟩ = some (.string ⟨z.toArray⟩) ∧ X.cell? ⟨w.heap.size + 1, 1, none⟩ = some (.string ⟨t.toArray⟩)) (m := 28) _ _ _ _ ?_
                  refine wpAnyT_take (i := 0) (v := .agg #[.slice a cs.length cap, .slice yi n c1]) rfl (by kernel_rfl) (by kernel_rfl) (by kernel_rfl) (by kernel_rfl) (fun _ _ _ h => h) (Or.inl ⟨by kernel_rfl, fun X hS => by obtain ⟨e0, e1, e2, e3, e4⟩ := hS; go_simp⟩) SX ?_
                  try go_simp
                  refine wpAnyT_take (i := 1) (v := .pointer (some ⟨b3, 0, none⟩)) rfl (by kernel_rfl) (by kernel_rfl) (by kernel_rfl) (by kernel_rfl) (fun _ _ _ h => h) (Or.inl ⟨by kernel_rfl, fun X hS => by obtain ⟨e0, e1, e2, e3, e4⟩ := hS; go_simp⟩) SX ?_
                  try go_simp
                  refine wpAnyT_take (i := 2) (v := .string ⟨y.toArray⟩) rfl (by kernel_rfl) (by kernel_rfl) (by kernel_rfl) (by kernel_rfl) (fun _ _ _ h => h) (Or.inl ⟨by kernel_rfl, fun X hS => by obtain ⟨e0, e1, e2, e3, e4⟩ := hS; go_simp⟩) SX ?_
                  try go_simp
                  refine wpAnyT_one 3 rfl (by kernel_rfl) (fun K hK => ?_)
                  go_simp
                  refine (l3Class_any a cap yi n c1 cs ⟨y.toArray⟩ V.drew (((HS.out.below HBW.out).below HBV.out).below (below_drew1 (Below.refl _ V)))).mono ?_
                  rintro e w5 ⟨rfl, hb⟩
                  have HB5 : Hid (Below V.heap.size V w5) := (below_drew1 (Below.refl _ V)).trans hb
                  clear hb
                  have SX5 : w5.cell? ⟨w.heap.size, 0, none⟩ = some (.slice a cs.length cap) ∧ w5.cell? ⟨w.heap.size, 1, none⟩ = some (.slice yi n c1) ∧ w5.cell? ⟨b3, 0, none⟩ = some (.string ⟨y.toArray⟩) ∧ w5.cell? ⟨b3, 1, none⟩ = some (.string ⟨z.toArray⟩) ∧ w5.cell? ⟨w.heap.size + 1, 1, none⟩ = some (.string ⟨t.toArray⟩) := ⟨(keep2 HX1.out (HBV.out.trans ((HB5.out).mono HBV.out.size))).1, (keep2 HX1.out (HBV.out.trans ((HB5.out).mono HBV.out.size))).2, (keep2 HXN.out (HB5.out)).1, (keep2 HXN.out (HB5.out)).2, (keep3 HX2.out (HBV.out.trans ((HB5.out).mono HBV.out.size))).2.1⟩
                  obtain ⟨ixv, hixv⟩ : ∃ v, v = idxC cs ⟨y.toArray⟩ := ⟨_, rfl⟩
                  have hix2 : 0 ≤ ixv := by
                    have h := idx_known cs ⟨y.toArray⟩
                    rw [H7.out, ← hixv] at h
                    simpa using h
                  rw [← hixv]
                  clear hixv
                  refine hK _ _ (fun _ => SX5) ?_
                  clear hK K
                  clear SX
                  refine wpAnyT_take (i := 4) (v := .bool false) rfl (by kernel_rfl) (by kernel_rfl) (by kernel_rfl) (by kernel_rfl) (fun _ _ _ h => h) (Or.inl ⟨by kernel_rfl, fun X hS => by obtain ⟨e0, e1, e2, e3, e4⟩ := hS; go_simp⟩) SX5 ?_
                  try go_simp
                  refine wpAnyT_take (i := 5) (v := .bool false) rfl (by kernel_rfl) (by kernel_rfl) (by kernel_rfl) (by kernel_rfl) (fun _ _ _ h => h) (Or.inl ⟨by kernel_rfl, fun X hS => by obtain ⟨e0, e1, e2, e3, e4⟩ := hS; go_simp⟩) SX5 ?_
                  try go_simp
                  refine wpAnyT_take (i := 6) (v := .pointer (some ⟨b3, 1, none⟩)) rfl (by kernel_rfl) (by kernel_rfl) (by kernel_rfl) (by kernel_rfl) (fun _ _ _ h => h) (Or.inl ⟨by kernel_rfl, fun X hS => by obtain ⟨e0, e1, e2, e3, e4⟩ := hS; go_simp⟩) SX5 ?_
                  try go_simp
                  refine wpAnyT_take (i := 7) (v := .string ⟨z.toArray⟩) rfl (by kernel_rfl) (by kernel_rfl) (by kernel_rfl) (by kernel_rfl) (fun _ _ _ h => h) (Or.inl ⟨by kernel_rfl, fun X hS => by obtain ⟨e0, e1, e2, e3, e4⟩ := hS; go_simp⟩) SX5 ?_
                  try go_simp
                  refine wpAnyT_one 8 rfl (by kernel_rfl) (fun K hK => ?_)
                  go_simp
                  refine (TypeValid_spec z w5 (by unfold maxLen; omega)).mono ?_
                  rintro e w6 ⟨rfl, hb⟩
                  have HB6 : Hid (Below V.heap.size V w6) := HB5.out.trans (hb.mono HB5.out.size)
                  clear hb
                  rw [H8.out]
                  have SX6 : w6.cell? ⟨w.heap.size, 0, none⟩ = some (.slice a cs.length cap) ∧ w6.cell? ⟨w.heap.size, 1, none⟩ = some (.slice yi n c1) ∧ w6.cell? ⟨b3, 0, none⟩ = some (.string ⟨y.toArray⟩) ∧ w6.cell? ⟨b3, 1, none⟩ = some (.string ⟨z.toArray⟩) ∧ w6.cell? ⟨w.heap.size + 1, 1, none⟩ = some (.string ⟨t.toArray⟩) := ⟨(keep2 HX1.out (HBV.out.trans ((HB6.out).mono HBV.out.size))).1, (keep2 HX1.out (HBV.out.trans ((HB6.out).mono HBV.out.size))).2, (keep2 HXN.out (HB6.out)).1, (keep2 HXN.out (HB6.out)).2, (keep3 HX2.out (HBV.out.trans ((HB6.out).mono HBV.out.size))).2.1⟩
                  refine hK _ _ (fun _ => SX6) ?_
                  clear hK K
                  clear SX5
                  refine wpAnyT_take (i := 9) (v := .bool true) rfl (by kernel_rfl) (by kernel_rfl) (by kernel_rfl) (by kernel_rfl) (fun _ _ _ h => h) (Or.inl ⟨by kernel_rfl, fun X hS => by obtain ⟨e0, e1, e2, e3, e4⟩ := hS; go_simp⟩) SX6 ?_
                  try go_simp
                  refine wpAnyT_take (i := 10) (v := .bool true) rfl (by kernel_rfl) (by kernel_rfl) (by kernel_rfl) (by kernel_rfl) (fun _ _ _ h => h) (Or.inl ⟨by kernel_rfl, fun X hS => by obtain ⟨e0, e1, e2, e3, e4⟩ := hS; go_simp⟩) SX6 ?_
                  try go_simp
                  refine wpAnyT_take (i := 11) (v := .bool true) rfl (by kernel_rfl) (by kernel_rfl) (by kernel_rfl) (by kernel_rfl) (fun _ _ _ h => h) (Or.inl ⟨by kernel_rfl, fun X hS => by obtain ⟨e0, e1, e2, e3, e4⟩ := hS; go_simp⟩) SX6 ?_
                  try go_simp
                  refine wpAnyT_take (i := 12) (v := undef) rfl (by kernel_rfl) (by kernel_rfl) (by kernel_rfl) (by kernel_rfl) (fun _ _ _ h => h) (Or.inr ⟨by kernel_rfl, rfl⟩) SX6 ?_
                  try go_simp
                  refine wpAnyT_take (i := 13) (v := undef) rfl (by kernel_rfl) (by kernel_rfl) (by kernel_rfl) (by kernel_rfl) (fun _ _ _ h => h) (Or.inr ⟨by kernel_rfl, rfl⟩) SX6 ?_
                  try go_simp
                  refine wpAnyT_take (i := 14) (v := undef) rfl (by kernel_rfl) (by kernel_rfl) (by kernel_rfl) (by kernel_rfl) (fun _ _ _ h => h) (Or.inr ⟨by kernel_rfl, rfl⟩) SX6 ?_
                  try go_simp
                  refine wpAnyT_take (i := 15) (v := undef) rfl (by kernel_rfl) (by kernel_rfl) (by kernel_rfl) (by kernel_rfl) (fun _ _ _ h => h) (Or.inr ⟨by kernel_rfl, rfl⟩) SX6 ?_
                  try go_simp
                  refine wpAnyT_take (i := 16) (v := .bool true) rfl (by kernel_rfl) (by kernel_rfl) (by kernel_rfl) (by kernel_rfl) (fun _ _ _ h => h) (Or.inl ⟨by kernel_rfl, fun X hS => by obtain ⟨e0, e1, e2, e3, e4⟩ := hS; go_simp⟩) SX6 ?_
                  try go_simp
                  refine wpAnyT_take (i := 17) (v := .bool true) rfl (by kernel_rfl) (by kernel_rfl) (by kernel_rfl) (by kernel_rfl) (fun _ _ _ h => h) (Or.inl ⟨by kernel_rfl, fun X hS => by obtain ⟨e0, e1, e2, e3, e4⟩ := hS; go_simp⟩) SX6 ?_
                  try go_simp
                  refine wpAnyT_take (i := 18) (v := undef) rfl (by kernel_rfl) (by kernel_rfl) (by kernel_rfl) (by kernel_rfl) (fun _ _ _ h => h) (Or.inr ⟨by kernel_rfl, rfl⟩) SX6 ?_
                  try go_simp
                  refine wpAnyT_take (i := 19) (v := undef) rfl (by kernel_rfl) (by kernel_rfl) (by kernel_rfl) (by kernel_rfl) (fun _ _ _ h => h) (Or.inr ⟨by kernel_rfl, rfl⟩) SX6 ?_
                  try go_simp
                  refine wpAnyT_take (i := 20) (v := undef) rfl (by kernel_rfl) (by kernel_rfl) (by kernel_rfl) (by kernel_rfl) (fun _ _ _ h => h) (Or.inr ⟨by kernel_rfl, rfl⟩) SX6 ?_
                  try go_simp
                  refine wpAnyT_take (i := 21) (v := undef) rfl (by kernel_rfl) (by kernel_rfl) (by kernel_rfl) (by kernel_rfl) (fun _ _ _ h => h) (Or.inr ⟨by kernel_rfl, rfl⟩) SX6 ?_
                  try go_simp
                  refine wpAnyT_take (i := 22) (v := undef) rfl (by kernel_rfl) (by kernel_rfl) (by kernel_rfl) (by kernel_rfl) (fun _ _ _ h => h) (Or.inr ⟨by kernel_rfl, rfl⟩) SX6 ?_
                  try go_simp
                  refine wpAnyT_take (i := 23) (v := undef) rfl (by kernel_rfl) (by kernel_rfl) (by kernel_rfl) (by kernel_rfl) (fun _ _ _ h => h) (Or.inr ⟨by kernel_rfl, rfl⟩) SX6 ?_
                  try go_simp
                  refine wpAnyT_take (i := 24) (v := undef) rfl (by kernel_rfl) (by kernel_rfl) (by kernel_rfl) (by kernel_rfl) (fun _ _ _ h => h) (Or.inr ⟨by kernel_rfl, rfl⟩) SX6 ?_
                  try go_simp
                  refine wpAnyT_take (i := 25) (v := undef) rfl (by kernel_rfl) (by kernel_rfl) (by kernel_rfl) (by kernel_rfl) (fun _ _ _ h => h) (Or.inr ⟨by kernel_rfl, rfl⟩) SX6 ?_
                  try go_simp
                  refine wpAnyT_take (i := 26) (v := undef) rfl (by kernel_rfl) (by kernel_rfl) (by kernel_rfl) (by kernel_rfl) (fun _ _ _ h => h) (Or.inr ⟨by kernel_rfl, rfl⟩) SX6 ?_
                  try go_simp
                  refine wpAnyT_take (i := 27) (v := .bool true) rfl (by kernel_rfl) (by kernel_rfl) (by kernel_rfl) (by kernel_rfl) (fun _ _ _ h => h) (Or.inl ⟨by kernel_rfl, fun X hS => by obtain ⟨e0, e1, e2, e3, e4⟩ := hS; go_simp⟩) SX6 ?_
                  try go_simp
                  refine wpAnyT_drop _ 28 _ _ _ (by decide) (by kernel_rfl) ?_
                  change wpList _ _ _ [] _ _
                  clear SX6
                  go_wp2
                  go_ret
                  exact ⟨ret_bool HR.out.symm, HBW.out.trans ((HBV.out.trans (HB6.out.mono HBV.out.size)).mono HBW.out.size)⟩
                | true =>
                  have H8 := hid h8
                  clear h8
                  by_cases h9 : z.length ≤ 20
                  case neg =>
                    have HR : Hid (ivB cs (⟨x.toArray⟩, ⟨t.toArray⟩, ns) = false) := iv7 HP.out (nd3 (by omega))
                    have h9i : (20 : Int) < (z.length : Int) := by omega
                    refine wp_region_any (by kernel_rfl) ?_
                    change wpAny _ _ _ _ _ _ _ (World.drew _)
                    have SX : V.drew.cell? ⟨w.heap.size, 0, none⟩ = some (.slice a cs.length cap) ∧ V.drew.cell? ⟨w.heap.size, 1, none⟩ = some (.slice yi n c1) ∧ V.drew.cell? ⟨b3, 0, none⟩ = some (.string ⟨y.toArray⟩) ∧ V.drew.cell? ⟨b3, 1, none⟩ = some (.string ⟨z.toArray⟩) ∧ V.drew.cell? ⟨w.heap.size + 1, 1, none⟩ = some (.string ⟨t.toArray⟩) := ⟨(keep2 HX1.out (HBV.out.trans ((below_drew1 (Below.refl _ V)).mono HBV.out.size))).1, (keep2 HX1.out (HBV.out.trans ((below_drew1 (Below.refl _ V)).mono HBV.out.size))).2, (keep2 HXN.out (below_drew1 (Below.refl _ V))).1, (keep2 HXN.out (below_drew1 (Below.refl _ V))).2, (keep3 HX2.out (HBV.out.trans ((below_drew1 (Below.refl _ V)).mono HBV.out.size))).2.1⟩
                    refine wpAny_of_T (S := fun X => X.cell? ⟨w.heap.size, 0, none⟩ = some (.slice a cs.length cap) ∧ X.cell? ⟨w.heap.size, 1, none⟩ = some (.slice yi n c1) ∧ X.cell? ⟨b3, 0, none⟩ = some (.string ⟨y.toArray⟩) ∧ X.cell? ⟨b3, 1, none⟩ = some (.string ⟨z.toArray⟩) ∧ X.cell? ⟨w.heap.size + 1, 1, none⟩ = some (.string ⟨t.toArray⟩)) (m := 28) _ _ _ _ ?_
                    refine wpAnyT_take (i := 0) (v := .agg #[.slice a cs.length cap, .slice yi n c1]) rfl (by kernel_rfl) (by kernel_rfl) (by kernel_rfl) (by kernel_rfl) (fun _ _ _ h => h) (Or.inl ⟨by kernel_rfl, fun X hS => by obtain ⟨e0, e1, e2, e3, e4⟩ := hS; go_simp⟩) SX ?_
                    try go_simp
                    refine wpAnyT_take (i := 1) (v := .pointer (some ⟨b3, 0, none⟩)) rfl (by kernel_rfl) (by kernel_rfl) (by kernel_rfl) (by kernel_rfl) (fun _ _ _ h => h) (Or.inl ⟨by kernel_rfl, fun X hS => by obtain ⟨e0, e1, e2, e3, e4⟩ := hS; go_simp⟩) SX ?_
                    try go_simp
                    refine wpAnyT_take (i := 2) (v := .string ⟨y.toArray⟩) rfl (by kernel_rfl) (by kernel_rfl) (by kernel_rfl) (by kernel_rfl) (fun _ _ _ h => h) (Or.inl ⟨by kernel_rfl, fun X hS => by obtain ⟨e0, e1, e2, e3, e4⟩ := hS; go_simp⟩) SX ?_
                    try go_simp
                    refine wpAnyT_one 3 rfl (by kernel_rfl) (fun K hK => ?_)
                    go_simp
                    refine (l3Class_any a cap yi n c1 cs ⟨y.toArray⟩ V.drew (((HS.out.below HBW.out).below HBV.out).below (below_drew1 (Below.refl _ V)))).mono ?_
                    rintro e w5 ⟨rfl, hb⟩
                    have HB5 : Hid (Below V.heap.size V w5) := (below_drew1 (Below.refl _ V)).trans hb
                    clear hb
                    have SX5 : w5.cell? ⟨w.heap.size, 0, none⟩ = some (.slice a cs.length cap) ∧ w5.cell? ⟨w.heap.size, 1, none⟩ = some (.slice yi n c1) ∧ w5.cell? ⟨b3, 0, none⟩ = some (.string ⟨y.toArray⟩) ∧ w5.cell? ⟨b3, 1, none⟩ = some (.string ⟨z.toArray⟩) ∧ w5.cell? ⟨w.heap.size + 1, 1, none⟩ = some (.string ⟨t.toArray⟩) := ⟨(keep2 HX1.out (HBV.out.trans ((HB5.out).mono HBV.out.size))).1, (keep2 HX1.out (HBV.out.trans ((HB5.out).mono HBV.out.size))).2, (keep2 HXN.out (HB5.out)).1, (keep2 HXN.out (HB5.out)).2, (keep3 HX2.out (HBV.out.trans ((HB5.out).mono HBV.out.size))).2.1⟩
                    obtain ⟨ixv, hixv⟩ : ∃ v, v = idxC cs ⟨y.toArray⟩ := ⟨_, rfl⟩
                    have hix2 : 0 ≤ ixv := by
                      have h := idx_known cs ⟨y.toArray⟩
                      rw [H7.out, ← hixv] at h
                      simpa using h
                    rw [← hixv]
                    clear hixv
                    refine hK _ _ (fun _ => SX5) ?_
                    clear hK K
                    clear SX
                    refine wpAnyT_take (i := 4) (v := .bool false) rfl (by kernel_rfl) (by kernel_rfl) (by kernel_rfl) (by kernel_rfl) (fun _ _ _ h => h) (Or.inl ⟨by kernel_rfl, fun X hS => by obtain ⟨e0, e1, e2, e3, e4⟩ := hS; go_simp⟩) SX5 ?_
                    try go_simp
                    refine wpAnyT_take (i := 5) (v := .bool false) rfl (by kernel_rfl) (by kernel_rfl) (by kernel_rfl) (by kernel_rfl) (fun _ _ _ h => h) (Or.inl ⟨by kernel_rfl, fun X hS => by obtain ⟨e0, e1, e2, e3, e4⟩ := hS; go_simp⟩) SX5 ?_
                    try go_simp
                    refine wpAnyT_take (i := 6) (v := .pointer (some ⟨b3, 1, none⟩)) rfl (by kernel_rfl) (by kernel_rfl) (by kernel_rfl) (by kernel_rfl) (fun _ _ _ h => h) (Or.inl ⟨by kernel_rfl, fun X hS => by obtain ⟨e0, e1, e2, e3, e4⟩ := hS; go_simp⟩) SX5 ?_
                    try go_simp
                    refine wpAnyT_take (i := 7) (v := .string ⟨z.toArray⟩) rfl (by kernel_rfl) (by kernel_rfl) (by kernel_rfl) (by kernel_rfl) (fun _ _ _ h => h) (Or.inl ⟨by kernel_rfl, fun X hS => by obtain ⟨e0, e1, e2, e3, e4⟩ := hS; go_simp⟩) SX5 ?_
                    try go_simp
                    refine wpAnyT_one 8 rfl (by kernel_rfl) (fun K hK => ?_)
                    go_simp
                    refine (TypeValid_spec z w5 (by unfold maxLen; omega)).mono ?_
                    rintro e w6 ⟨rfl, hb⟩
                    have HB6 : Hid (Below V.heap.size V w6) := HB5.out.trans (hb.mono HB5.out.size)
                    clear hb
                    rw [H8.out]
                    have SX6 : w6.cell? ⟨w.heap.size, 0, none⟩ = some (.slice a cs.length cap) ∧ w6.cell? ⟨w.heap.size, 1, none⟩ = some (.slice yi n c1) ∧ w6.cell? ⟨b3, 0, none⟩ = some (.string ⟨y.toArray⟩) ∧ w6.cell? ⟨b3, 1, none⟩ = some (.string ⟨z.toArray⟩) ∧ w6.cell? ⟨w.heap.size + 1, 1, none⟩ = some (.string ⟨t.toArray⟩) := ⟨(keep2 HX1.out (HBV.out.trans ((HB6.out).mono HBV.out.size))).1, (keep2 HX1.out (HBV.out.trans ((HB6.out).mono HBV.out.size))).2, (keep2 HXN.out (HB6.out)).1, (keep2 HXN.out (HB6.out)).2, (keep3 HX2.out (HBV.out.trans ((HB6.out).mono HBV.out.size))).2.1⟩
                    refine hK _ _ (fun _ => SX6) ?_
                    clear hK K
                    clear SX5
                    refine wpAnyT_take (i := 9) (v := .bool false) rfl (by kernel_rfl) (by kernel_rfl) (by kernel_rfl) (by kernel_rfl) (fun _ _ _ h => h) (Or.inl ⟨by kernel_rfl, fun X hS => by obtain ⟨e0, e1, e2, e3, e4⟩ := hS; go_simp⟩) SX6 ?_
                    try go_simp
                    refine wpAnyT_take (i := 10) (v := .bool false) rfl (by kernel_rfl) (by kernel_rfl) (by kernel_rfl) (by kernel_rfl) (fun _ _ _ h => h) (Or.inl ⟨by kernel_rfl, fun X hS => by obtain ⟨e0, e1, e2, e3, e4⟩ := hS; go_simp⟩) SX6 ?_
                    try go_simp
                    refine wpAnyT_take (i := 11) (v := .bool false) rfl (by kernel_rfl) (by kernel_rfl) (by kernel_rfl) (by kernel_rfl) (fun _ _ _ h => h) (Or.inl ⟨by kernel_rfl, fun X hS => by obtain ⟨e0, e1, e2, e3, e4⟩ := hS; go_simp⟩) SX6 ?_
                    try go_simp
                    refine wpAnyT_take (i := 12) (v := .pointer (some ⟨b3, 1, none⟩)) rfl (by kernel_rfl) (by kernel_rfl) (by kernel_rfl) (by kernel_rfl) (fun _ _ _ h => h) (Or.inl ⟨by kernel_rfl, fun X hS => by obtain ⟨e0, e1, e2, e3, e4⟩ := hS; go_simp⟩) SX6 ?_
                    try go_simp
                    refine wpAnyT_take (i := 13) (v := .string ⟨z.toArray⟩) rfl (by kernel_rfl) (by kernel_rfl) (by kernel_rfl) (by kernel_rfl) (fun _ _ _ h => h) (Or.inl ⟨by kernel_rfl, fun X hS => by obtain ⟨e0, e1, e2, e3, e4⟩ := hS; go_simp⟩) SX6 ?_
                    try go_simp
                    refine wpAnyT_take (i := 14) (v := .int .i64 z.length) rfl (by kernel_rfl) (by kernel_rfl) (by kernel_rfl) (by kernel_rfl) (fun _ _ _ h => h) (Or.inl ⟨by kernel_rfl, fun X hS => by obtain ⟨e0, e1, e2, e3, e4⟩ := hS; go_simp⟩) SX6 ?_
                    try go_simp
                    refine wpAnyT_take (i := 15) (v := .bool true) rfl (by kernel_rfl) (by kernel_rfl) (by kernel_rfl) (by kernel_rfl) (fun _ _ _ h => h) (Or.inl ⟨by kernel_rfl, fun X hS => by obtain ⟨e0, e1, e2, e3, e4⟩ := hS; go_simp⟩) SX6 ?_
                    try go_simp
                    refine wpAnyT_take (i := 16) (v := .bool true) rfl (by kernel_rfl) (by kernel_rfl) (by kernel_rfl) (by kernel_rfl) (fun _ _ _ h => h) (Or.inl ⟨by kernel_rfl, fun X hS => by obtain ⟨e0, e1, e2, e3, e4⟩ := hS; go_simp⟩) SX6 ?_
                    try go_simp
                    refine wpAnyT_take (i := 17) (v := .bool true) rfl (by kernel_rfl) (by kernel_rfl) (by kernel_rfl) (by kernel_rfl) (fun _ _ _ h => h) (Or.inl ⟨by kernel_rfl, fun X hS => by obtain ⟨e0, e1, e2, e3, e4⟩ := hS; go_simp⟩) SX6 ?_
                    try go_simp
                    refine wpAnyT_take (i := 18) (v := undef) rfl (by kernel_rfl) (by kernel_rfl) (by kernel_rfl) (by kernel_rfl) (fun _ _ _ h => h) (Or.inr ⟨by kernel_rfl, rfl⟩) SX6 ?_
                    try go_simp
                    refine wpAnyT_take (i := 19) (v := undef) rfl (by kernel_rfl) (by kernel_rfl) (by kernel_rfl) (by kernel_rfl) (fun _ _ _ h => h) (Or.inr ⟨by kernel_rfl, rfl⟩) SX6 ?_
                    try go_simp
                    refine wpAnyT_take (i := 20) (v := undef) rfl (by kernel_rfl) (by kernel_rfl) (by kernel_rfl) (by kernel_rfl) (fun _ _ _ h => h) (Or.inr ⟨by kernel_rfl, rfl⟩) SX6 ?_
                    try go_simp
                    refine wpAnyT_take (i := 21) (v := undef) rfl (by kernel_rfl) (by kernel_rfl) (by kernel_rfl) (by kernel_rfl) (fun _ _ _ h => h) (Or.inr ⟨by kernel_rfl, rfl⟩) SX6 ?_
                    try go_simp
                    refine wpAnyT_take (i := 22) (v := undef) rfl (by kernel_rfl) (by kernel_rfl) (by kernel_rfl) (by kernel_rfl) (fun _ _ _ h => h) (Or.inr ⟨by kernel_rfl, rfl⟩) SX6 ?_
                    try go_simp
                    refine wpAnyT_take (i := 23) (v := undef) rfl (by kernel_rfl) (by kernel_rfl) (by kernel_rfl) (by kernel_rfl) (fun _ _ _ h => h) (Or.inr ⟨by kernel_rfl, rfl⟩) SX6 ?_
                    try go_simp
                    refine wpAnyT_take (i := 24) (v := undef) rfl (by kernel_rfl) (by kernel_rfl) (by kernel_rfl) (by kernel_rfl) (fun _ _ _ h => h) (Or.inr ⟨by kernel_rfl, rfl⟩) SX6 ?_
                    try go_simp
                    refine wpAnyT_take (i := 25) (v := undef) rfl (by kernel_rfl) (by kernel_rfl) (by kernel_rfl) (by kernel_rfl) (fun _ _ _ h => h) (Or.inr ⟨by kernel_rfl, rfl⟩) SX6 ?_
                    try go_simp
                    refine wpAnyT_take (i := 26) (v := undef) rfl (by kernel_rfl) (by kernel_rfl) (by kernel_rfl) (by kernel_rfl) (fun _ _ _ h => h) (Or.inr ⟨by kernel_rfl, rfl⟩) SX6 ?_
                    try go_simp
                    refine wpAnyT_take (i := 27) (v := .bool true) rfl (by kernel_rfl) (by kernel_rfl) (by kernel_rfl) (by kernel_rfl) (fun _ _ _ h => h) (Or.inl ⟨by kernel_rfl, fun X hS => by obtain ⟨e0, e1, e2, e3, e4⟩ := hS; go_simp⟩) SX6 ?_
                    try go_simp
                    refine wpAnyT_drop _ 28 _ _ _ (by decide) (by kernel_rfl) ?_
                    change wpList _ _ _ [] _ _
                    clear SX6
                    go_wp2
                    go_ret
                    exact ⟨ret_bool HR.out.symm, HBW.out.trans ((HBV.out.trans (HB6.out.mono HBV.out.size)).mono HBW.out.size)⟩
                  have h9i : ¬ (20 : Int) < (z.length : Int) := by omega
                  have HND : Hid (needB cs t (⟨y.toArray⟩, ⟨z.toArray⟩) = withinB (varsL z) (varsL t)) := nd_same H3.out H7.out H8.out h9
                  cases hw : withinB (varsL z) (varsL t) with
                  | false =>
                    have HW := hid hw
                    have HR : Hid (ivB cs (⟨x.toArray⟩, ⟨t.toArray⟩, ns) = false) := iv7 HP.out (HND.out.trans hw)
                    clear hw
                    refine wp_region_any (by kernel_rfl) ?_
                    change wpAny _ _ _ _ _ _ _ (World.drew _)
                    have SX : V.drew.cell? ⟨w.heap.size, 0, none⟩ = some (.slice a cs.length cap) ∧ V.drew.cell? ⟨w.heap.size, 1, none⟩ = some (.slice yi n c1) ∧ V.drew.cell? ⟨b3, 0, none⟩ = some (.string ⟨y.toArray⟩) ∧ V.drew.cell? ⟨b3, 1, none⟩ = some (.string ⟨z.toArray⟩) ∧ V.drew.cell? ⟨w.heap.size + 1, 1, none⟩ = some (.string ⟨t.toArray⟩) := ⟨(keep2 HX1.out (HBV.out.trans ((below_drew1 (Below.refl _ V)).mono HBV.out.size))).1, (keep2 HX1.out (HBV.out.trans ((below_drew1 (Below.refl _ V)).mono HBV.out.size))).2, (keep2 HXN.out (below_drew1 (Below.refl _ V))).1, (keep2 HXN.out (below_drew1 (Below.refl _ V))).2, (keep3 HX2.out (HBV.out.trans ((below_drew1 (Below.refl _ V)).mono HBV.out.size))).2.1⟩
                    refine wpAny_of_T (S := fun X => X.cell? ⟨w.heap.size, 0, none⟩ = some (.slice a cs.length cap) ∧ X.cell? ⟨w.heap.size, 1, none⟩ = some (.slice yi n c1) ∧ X.cell? ⟨b3, 0, none⟩ = some (.string ⟨y.toArray⟩) ∧ X.cell? ⟨b3, 1, none⟩ = some (.string ⟨z.toArray⟩) ∧ X.cell? ⟨w.heap.size + 1, 1, none⟩ = some (.string ⟨t.toArray⟩)) (m := 28) _ _ _ _ ?_
                    refine wpAnyT_take (i := 0) (v := .agg #[.slice a cs.length cap, .slice yi n c1]) rfl (by kernel_rfl) (by kernel_rfl) (by kernel_rfl) (by kernel_rfl) (fun _ _ _ h => h) (Or.inl ⟨by kernel_rfl, fun X hS => by obtain ⟨e0, e1, e2, e3, e4⟩ := hS; go_simp⟩) SX ?_
                    try go_simp
                    refine wpAnyT_take (i := 1) (v := .pointer (some ⟨b3, 0, none⟩)) rfl (by kernel_rfl) (by kernel_rfl) (by kernel_rfl) (by kernel_rfl) (fun _ _ _ h => h) (Or.inl ⟨by kernel_rfl, fun X hS => by obtain ⟨e0, e1, e2, e3, e4⟩ := hS; go_simp⟩) SX ?_
                    try go_simp
                    refine wpAnyT_take (i := 2) (v := .string ⟨y.toArray⟩) rfl (by kernel_rfl) (by kernel_rfl) (by kernel_rfl) (by kernel_rfl) (fun _ _ _ h => h) (Or.inl ⟨by kernel_rfl, fun X hS => by obtain ⟨e0, e1, e2, e3, e4⟩ := hS; go_simp⟩) SX ?_
                    try go_simp
                    refine wpAnyT_one 3 rfl (by kernel_rfl) (fun K hK => ?_)
                    go_simp
                    refine (l3Class_any a cap yi n c1 cs ⟨y.toArray⟩ V.drew (((HS.out.below HBW.out).below HBV.out).below (below_drew1 (Below.refl _ V)))).mono ?_
                    rintro e w5 ⟨rfl, hb⟩
                    have HB5 : Hid (Below V.heap.size V w5) := (below_drew1 (Below.refl _ V)).trans hb
                    clear hb
                    have SX5 : w5.cell? ⟨w.heap.size, 0, none⟩ = some (.slice a cs.length cap) ∧ w5.cell? ⟨w.heap.size, 1, none⟩ = some (.slice yi n c1) ∧ w5.cell? ⟨b3, 0, none⟩ = some (.string ⟨y.toArray⟩) ∧ w5.cell? ⟨b3, 1, none⟩ = some (.string ⟨z.toArray⟩) ∧ w5.cell? ⟨w.heap.size + 1, 1, none⟩ = some (.string ⟨t.toArray⟩) := ⟨(keep2 HX1.out (HBV.out.trans ((HB5.out).mono HBV.out.size))).1, (keep2 HX1.out (HBV.out.trans ((HB5.out).mono HBV.out.size))).2, (keep2 HXN.out (HB5.out)).1, (keep2 HXN.out (HB5.out)).2, (keep3 HX2.out (HBV.out.trans ((HB5.out).mono HBV.out.size))).2.1⟩
                    obtain ⟨ixv, hixv⟩ : ∃ v, v = idxC cs ⟨y.toArray⟩ := ⟨_, rfl⟩
                    have hix2 : 0 ≤ ixv := by
                      have h := idx_known cs ⟨y.toArray⟩
                      rw [H7.out, ← hixv] at h
                      simpa using h
                    rw [← hixv]
                    clear hixv
                    refine hK _ _ (fun _ => SX5) ?_
                    clear hK K
                    clear SX
                    refine wpAnyT_take (i := 4) (v := .bool false) rfl (by kernel_rfl) (by kernel_rfl) (by kernel_rfl) (by kernel_rfl) (fun _ _ _ h => h) (Or.inl ⟨by kernel_rfl, fun X hS => by obtain ⟨e0, e1, e2, e3, e4⟩ := hS; go_simp⟩) SX5 ?_
                    try go_simp
                    refine wpAnyT_take (i := 5) (v := .bool false) rfl (by kernel_rfl) (by kernel_rfl) (by kernel_rfl) (by kernel_rfl) (fun _ _ _ h => h) (Or.inl ⟨by kernel_rfl, fun X hS => by obtain ⟨e0, e1, e2, e3, e4⟩ := hS; go_simp⟩) SX5 ?_
                    try go_simp
                    refine wpAnyT_take (i := 6) (v := .pointer (some ⟨b3, 1, none⟩)) rfl (by kernel_rfl) (by kernel_rfl) (by kernel_rfl) (by kernel_rfl) (fun _ _ _ h => h) (Or.inl ⟨by kernel_rfl, fun X hS => by obtain ⟨e0, e1, e2, e3, e4⟩ := hS; go_simp⟩) SX5 ?_
                    try go_simp
                    refine wpAnyT_take (i := 7) (v := .string ⟨z.toArray⟩) rfl (by kernel_rfl) (by kernel_rfl) (by kernel_rfl) (by kernel_rfl) (fun _ _ _ h => h) (Or.inl ⟨by kernel_rfl, fun X hS => by obtain ⟨e0, e1, e2, e3, e4⟩ := hS; go_simp⟩) SX5 ?_
                    try go_simp
                    refine wpAnyT_one 8 rfl (by kernel_rfl) (fun K hK => ?_)
                    go_simp
                    refine (TypeValid_spec z w5 (by unfold maxLen; omega)).mono ?_
                    rintro e w6 ⟨rfl, hb⟩
                    have HB6 : Hid (Below V.heap.size V w6) := HB5.out.trans (hb.mono HB5.out.size)
                    clear hb
                    rw [H8.out]
                    have SX6 : w6.cell? ⟨w.heap.size, 0, none⟩ = some (.slice a cs.length cap) ∧ w6.cell? ⟨w.heap.size, 1, none⟩ = some (.slice yi n c1) ∧ w6.cell? ⟨b3, 0, none⟩ = some (.string ⟨y.toArray⟩) ∧ w6.cell? ⟨b3, 1, none⟩ = some (.string ⟨z.toArray⟩) ∧ w6.cell? ⟨w.heap.size + 1, 1, none⟩ = some (.string ⟨t.toArray⟩) := ⟨(keep2 HX1.out (HBV.out.trans ((HB6.out).mono HBV.out.size))).1, (keep2 HX1.out (HBV.out.trans ((HB6.out).mono HBV.out.size))).2, (keep2 HXN.out (HB6.out)).1, (keep2 HXN.out (HB6.out)).2, (keep3 HX2.out (HBV.out.trans ((HB6.out).mono HBV.out.size))).2.1⟩
                    refine hK _ _ (fun _ => SX6) ?_
                    clear hK K
                    clear SX5
                    refine wpAnyT_take (i := 9) (v := .bool false) rfl (by kernel_rfl) (by kernel_rfl) (by kernel_rfl) (by kernel_rfl) (fun _ _ _ h => h) (Or.inl ⟨by kernel_rfl, fun X hS => by obtain ⟨e0, e1, e2, e3, e4⟩ := hS; go_simp⟩) SX6 ?_
                    try go_simp
                    refine wpAnyT_take (i := 10) (v := .bool false) rfl (by kernel_rfl) (by kernel_rfl) (by kernel_rfl) (by kernel_rfl) (fun _ _ _ h => h) (Or.inl ⟨by kernel_rfl, fun X hS => by obtain ⟨e0, e1, e2, e3, e4⟩ := hS; go_simp⟩) SX6 ?_
                    try go_simp
                    refine wpAnyT_take (i := 11) (v := .bool false) rfl (by kernel_rfl) (by kernel_rfl) (by kernel_rfl) (by kernel_rfl) (fun _ _ _ h => h) (Or.inl ⟨by kernel_rfl, fun X hS => by obtain ⟨e0, e1, e2, e3, e4⟩ := hS; go_simp⟩) SX6 ?_
                    try go_simp
                    refine wpAnyT_take (i := 12) (v := .pointer (some ⟨b3, 1, none⟩)) rfl (by kernel_rfl) (by kernel_rfl) (by kernel_rfl) (by kernel_rfl) (fun _ _ _ h => h) (Or.inl ⟨by kernel_rfl, fun X hS => by obtain ⟨e0, e1, e2, e3, e4⟩ := hS; go_simp⟩) SX6 ?_
                    try go_simp
                    refine wpAnyT_take (i := 13) (v := .string ⟨z.toArray⟩) rfl (by kernel_rfl) (by kernel_rfl) (by kernel_rfl) (by kernel_rfl) (fun _ _ _ h => h) (Or.inl ⟨by kernel_rfl, fun X hS => by obtain ⟨e0, e1, e2, e3, e4⟩ := hS; go_simp⟩) SX6 ?_
                    try go_simp
                    refine wpAnyT_take (i := 14) (v := .int .i64 z.length) rfl (by kernel_rfl) (by kernel_rfl) (by kernel_rfl) (by kernel_rfl) (fun _ _ _ h => h) (Or.inl ⟨by kernel_rfl, fun X hS => by obtain ⟨e0, e1, e2, e3, e4⟩ := hS; go_simp⟩) SX6 ?_
                    try go_simp
                    refine wpAnyT_take (i := 15) (v := .bool false) rfl (by kernel_rfl) (by kernel_rfl) (by kernel_rfl) (by kernel_rfl) (fun _ _ _ h => h) (Or.inl ⟨by kernel_rfl, fun X hS => by obtain ⟨e0, e1, e2, e3, e4⟩ := hS; go_simp⟩) SX6 ?_
                    try go_simp
                    refine wpAnyT_take (i := 16) (v := .bool false) rfl (by kernel_rfl) (by kernel_rfl) (by kernel_rfl) (by kernel_rfl) (fun _ _ _ h => h) (Or.inl ⟨by kernel_rfl, fun X hS => by obtain ⟨e0, e1, e2, e3, e4⟩ := hS; go_simp⟩) SX6 ?_
                    try go_simp
                    refine wpAnyT_take (i := 17) (v := .bool false) rfl (by kernel_rfl) (by kernel_rfl) (by kernel_rfl) (by kernel_rfl) (fun _ _ _ h => h) (Or.inl ⟨by kernel_rfl, fun X hS => by obtain ⟨e0, e1, e2, e3, e4⟩ := hS; go_simp⟩) SX6 ?_
                    try go_simp
                    refine wpAnyT_take (i := 18) (v := .pointer (some ⟨b3, 1, none⟩)) rfl (by kernel_rfl) (by kernel_rfl) (by kernel_rfl) (by kernel_rfl) (fun _ _ _ h => h) (Or.inl ⟨by kernel_rfl, fun X hS => by obtain ⟨e0, e1, e2, e3, e4⟩ := hS; go_simp⟩) SX6 ?_
                    try go_simp
                    refine wpAnyT_take (i := 19) (v := .string ⟨z.toArray⟩) rfl (by kernel_rfl) (by kernel_rfl) (by kernel_rfl) (by kernel_rfl) (fun _ _ _ h => h) (Or.inl ⟨by kernel_rfl, fun X hS => by obtain ⟨e0, e1, e2, e3, e4⟩ := hS; go_simp⟩) SX6 ?_
                    try go_simp
                    refine wpAnyT_take (i := 21) (v := .pointer (some ⟨w.heap.size + 1, 0, none⟩)) rfl (by kernel_rfl) (by kernel_rfl) (by kernel_rfl) (by kernel_rfl) (fun _ _ _ h => h) (Or.inl ⟨by kernel_rfl, fun X hS => by obtain ⟨e0, e1, e2, e3, e4⟩ := hS; go_simp⟩) SX6 ?_
                    try go_simp
                    refine wpAnyT_take (i := 22) (v := .pointer (some ⟨w.heap.size + 1, 1, none⟩)) rfl (by kernel_rfl) (by kernel_rfl) (by kernel_rfl) (by kernel_rfl) (fun _ _ _ h => h) (Or.inl ⟨by kernel_rfl, fun X hS => by obtain ⟨e0, e1, e2, e3, e4⟩ := hS; go_simp⟩) SX6 ?_
                    try go_simp
                    refine wpAnyT_take (i := 23) (v := .string ⟨t.toArray⟩) rfl (by kernel_rfl) (by kernel_rfl) (by kernel_rfl) (by kernel_rfl) (fun _ _ _ h => h) (Or.inl ⟨by kernel_rfl, fun X hS => by obtain ⟨e0, e1, e2, e3, e4⟩ := hS; go_simp⟩) SX6 ?_
                    try go_simp
                    refine wpAnyT_one 20 rfl (by kernel_rfl) (fun K hK => ?_)
                    go_simp
                    refine (VarsOf_spec z w6 (by omega)).mono ?_
                    rintro e w7 ⟨rfl, hb⟩
                    have HB7 : Hid (Below V.heap.size V w7) := HB6.out.trans (hb.mono HB6.out.size)
                    clear hb
                    have SX7 : w7.cell? ⟨w.heap.size, 0, none⟩ = some (.slice a cs.length cap) ∧ w7.cell? ⟨w.heap.size, 1, none⟩ = some (.slice yi n c1) ∧ w7.cell? ⟨b3, 0, none⟩ = some (.string ⟨y.toArray⟩) ∧ w7.cell? ⟨b3, 1, none⟩ = some (.string ⟨z.toArray⟩) ∧ w7.cell? ⟨w.heap.size + 1, 1, none⟩ = some (.string ⟨t.toArray⟩) := ⟨(keep2 HX1.out (HBV.out.trans ((HB7.out).mono HBV.out.size))).1, (keep2 HX1.out (HBV.out.trans ((HB7.out).mono HBV.out.size))).2, (keep2 HXN.out (HB7.out)).1, (keep2 HXN.out (HB7.out)).2, (keep3 HX2.out (HBV.out.trans ((HB7.out).mono HBV.out.size))).2.1⟩
                    refine hK _ _ (fun _ => SX7) ?_
                    clear hK K
                    clear SX6
                    refine wpAnyT_one 24 rfl (by kernel_rfl) (fun K hK => ?_)
                    go_simp
                    refine (VarsOf_spec t w7 (by omega)).mono ?_
                    rintro e w8 ⟨rfl, hb⟩
                    have HB8 : Hid (Below V.heap.size V w8) := HB7.out.trans (hb.mono HB7.out.size)
                    clear hb
                    have SX8 : w8.cell? ⟨w.heap.size, 0, none⟩ = some (.slice a cs.length cap) ∧ w8.cell? ⟨w.heap.size, 1, none⟩ = some (.slice yi n c1) ∧ w8.cell? ⟨b3, 0, none⟩ = some (.string ⟨y.toArray⟩) ∧ w8.cell? ⟨b3, 1, none⟩ = some (.string ⟨z.toArray⟩) ∧ w8.cell? ⟨w.heap.size + 1, 1, none⟩ = some (.string ⟨t.toArray⟩) := ⟨(keep2 HX1.out (HBV.out.trans ((HB8.out).mono HBV.out.size))).1, (keep2 HX1.out (HBV.out.trans ((HB8.out).mono HBV.out.size))).2, (keep2 HXN.out (HB8.out)).1, (keep2 HXN.out (HB8.out)).2, (keep3 HX2.out (HBV.out.trans ((HB8.out).mono HBV.out.size))).2.1⟩
                    refine hK _ _ (fun _ => SX8) ?_
                    clear hK K
                    clear SX7
                    refine wpAnyT_one 25 rfl (by kernel_rfl) (fun K hK => ?_)
                    go_simp
                    refine (l3Within_any (varsL z) (varsL t) w8 (by omega) (by omega)).mono ?_
                    rintro e w9 ⟨rfl, rfl⟩
                    rw [HW.out]
                    refine hK _ _ (fun _ => SX8) ?_
                    clear hK K
                    refine wpAnyT_take (i := 26) (v := .bool true) rfl (by kernel_rfl) (by kernel_rfl) (by kernel_rfl) (by kernel_rfl) (fun _ _ _ h => h) (Or.inl ⟨by kernel_rfl, fun X hS => by obtain ⟨e0, e1, e2, e3, e4⟩ := hS; go_simp⟩) SX8 ?_
                    try go_simp
                    refine wpAnyT_take (i := 27) (v := .bool true) rfl (by kernel_rfl) (by kernel_rfl) (by kernel_rfl) (by kernel_rfl) (fun _ _ _ h => h) (Or.inl ⟨by kernel_rfl, fun X hS => by obtain ⟨e0, e1, e2, e3, e4⟩ := hS; go_simp⟩) SX8 ?_
                    try go_simp
                    refine wpAnyT_drop _ 28 _ _ _ (by decide) (by kernel_rfl) ?_
                    change wpList _ _ _ [] _ _
                    clear SX8
                    go_wp2
                    go_ret
                    exact ⟨ret_bool HR.out.symm, HBW.out.trans ((HBV.out.trans (HB8.out.mono HBV.out.size)).mono HBW.out.size)⟩
                  | true =>
                    have HW := hid hw
                    have HNK : Hid (∀ (j : Nat) (p : BB), j < k + 1 → ns[j]? = some p → needB cs t p = true) := fun j p hj hpj => by
                      by_cases e : j < k
                      · exact HGD.out j p e hpj
                      · obtain rfl : j = k := by omega
                        rw [HP.out] at hpj; cases hpj
                        exact HND.out.trans hw
                    clear hw
                    refine wp_region_any (by kernel_rfl) ?_
                    change wpAny _ _ _ _ _ _ _ (World.drew _)
                    have SX : V.drew.cell? ⟨w.heap.size, 0, none⟩ = some (.slice a cs.length cap) ∧ V.drew.cell? ⟨w.heap.size, 1, none⟩ = some (.slice yi n c1) ∧ V.drew.cell? ⟨b3, 0, none⟩ = some (.string ⟨y.toArray⟩) ∧ V.drew.cell? ⟨b3, 1, none⟩ = some (.string ⟨z.toArray⟩) ∧ V.drew.cell? ⟨w.heap.size + 1, 1, none⟩ = some (.string ⟨t.toArray⟩) := ⟨(keep2 HX1.out (HBV.out.trans ((below_drew1 (Below.refl _ V)).mono HBV.out.size))).1, (keep2 HX1.out (HBV.out.trans ((below_drew1 (Below.refl _ V)).mono HBV.out.size))).2, (keep2 HXN.out (below_drew1 (Below.refl _ V))).1, (keep2 HXN.out (below_drew1 (Below.refl _ V))).2, (keep3 HX2.out (HBV.out.trans ((below_drew1 (Below.refl _ V)).mono HBV.out.size))).2.1⟩
                    refine wpAny_of_T (S := fun X => X.cell? ⟨w.heap.size, 0, none⟩ = some (.slice a cs.length cap) ∧ X.cell? ⟨w.heap.size, 1, none⟩ = some (.slice yi n c1) ∧ X.cell? ⟨b3, 0, none⟩ = some (.string ⟨y.toArray⟩) ∧ X.cell? ⟨b3, 1, none⟩ = some (.string ⟨z.toArray⟩) ∧ X.cell? ⟨w.heap.size + 1, 1, none⟩ = some (.string ⟨t.toArray⟩)) (m := 28) _ _ _ _ ?_
                    refine wpAnyT_take (i := 0) (v := .agg #[.slice a cs.length cap, .slice yi n c1]) rfl (by kernel_rfl) (by kernel_rfl) (by kernel_rfl) (by kernel_rfl) (fun _ _ _ h => h) (Or.inl ⟨by kernel_rfl, fun X hS => by obtain ⟨e0, e1, e2, e3, e4⟩ := hS; go_simp⟩) SX ?_
                    try go_simp
                    refine wpAnyT_take (i := 1) (v := .pointer (some ⟨b3, 0, none⟩)) rfl (by kernel_rfl) (by kernel_rfl) (by kernel_rfl) (by kernel_rfl) (fun _ _ _ h => h) (Or.inl ⟨by kernel_rfl, fun X hS => by obtain ⟨e0, e1, e2, e3, e4⟩ := hS; go_simp⟩) SX ?_
                    try go_simp
                    refine wpAnyT_take (i := 2) (v := .string ⟨y.toArray⟩) rfl (by kernel_rfl) (by kernel_rfl) (by kernel_rfl) (by kernel_rfl) (fun _ _ _ h => h) (Or.inl ⟨by kernel_rfl, fun X hS => by obtain ⟨e0, e1, e2, e3, e4⟩ := hS; go_simp⟩) SX ?_
                    try go_simp
                    refine wpAnyT_one 3 rfl (by kernel_rfl) (fun K hK => ?_)
                    go_simp
                    refine (l3Class_any a cap yi n c1 cs ⟨y.toArray⟩ V.drew (((HS.out.below HBW.out).below HBV.out).below (below_drew1 (Below.refl _ V)))).mono ?_
                    rintro e w5 ⟨rfl, hb⟩
                    have HB5 : Hid (Below V.heap.size V w5) := (below_drew1 (Below.refl _ V)).trans hb
                    clear hb
                    have SX5 : w5.cell? ⟨w.heap.size, 0, none⟩ = some (.slice a cs.length cap) ∧ w5.cell? ⟨w.heap.size, 1, none⟩ = some (.slice yi n c1) ∧ w5.cell? ⟨b3, 0, none⟩ = some (.string ⟨y.toArray⟩) ∧ w5.cell? ⟨b3, 1, none⟩ = some (.string ⟨z.toArray⟩) ∧ w5.cell? ⟨w.heap.size + 1, 1, none⟩ = some (.string ⟨t.toArray⟩) := ⟨(keep2 HX1.out (HBV.out.trans ((HB5.out).mono HBV.out.size))).1, (keep2 HX1.out (HBV.out.trans ((HB5.out).mono HBV.out.size))).2, (keep2 HXN.out (HB5.out)).1, (keep2 HXN.out (HB5.out)).2, (keep3 HX2.out (HBV.out.trans ((HB5.out).mono HBV.out.size))).2.1⟩
                    obtain ⟨ixv, hixv⟩ : ∃ v, v = idxC cs ⟨y.toArray⟩ := ⟨_, rfl⟩
                    have hix2 : 0 ≤ ixv := by
                      have h := idx_known cs ⟨y.toArray⟩
                      rw [H7.out, ← hixv] at h
                      simpa using h
                    rw [← hixv]
                    clear hixv
                    refine hK _ _ (fun _ => SX5) ?_
                    clear hK K
                    clear SX
                    refine wpAnyT_take (i := 4) (v := .bool false) rfl (by kernel_rfl) (by kernel_rfl) (by kernel_rfl) (by kernel_rfl) (fun _ _ _ h => h) (Or.inl ⟨by kernel_rfl, fun X hS => by obtain ⟨e0, e1, e2, e3, e4⟩ := hS; go_simp⟩) SX5 ?_
                    try go_simp
                    refine wpAnyT_take (i := 5) (v := .bool false) rfl (by kernel_rfl) (by kernel_rfl) (by kernel_rfl) (by kernel_rfl) (fun _ _ _ h => h) (Or.inl ⟨by kernel_rfl, fun X hS => by obtain ⟨e0, e1, e2, e3, e4⟩ := hS; go_simp⟩) SX5 ?_
                    try go_simp
                    refine wpAnyT_take (i := 6) (v := .pointer (some ⟨b3, 1, none⟩)) rfl (by kernel_rfl) (by kernel_rfl) (by kernel_rfl) (by kernel_rfl) (fun _ _ _ h => h) (Or.inl ⟨by kernel_rfl, fun X hS => by obtain ⟨e0, e1, e2, e3, e4⟩ := hS; go_simp⟩) SX5 ?_
                    try go_simp
                    refine wpAnyT_take (i := 7) (v := .string ⟨z.toArray⟩) rfl (by kernel_rfl) (by kernel_rfl) (by kernel_rfl) (by kernel_rfl) (fun _ _ _ h => h) (Or.inl ⟨by kernel_rfl, fun X hS => by obtain ⟨e0, e1, e2, e3, e4⟩ := hS; go_simp⟩) SX5 ?_
                    try go_simp
                    refine wpAnyT_one 8 rfl (by kernel_rfl) (fun K hK => ?_)
                    go_simp
                    refine (TypeValid_spec z w5 (by unfold maxLen; omega)).mono ?_
                    rintro e w6 ⟨rfl, hb⟩
                    have HB6 : Hid (Below V.heap.size V w6) := HB5.out.trans (hb.mono HB5.out.size)
                    clear hb
                    rw [H8.out]
                    have SX6 : w6.cell? ⟨w.heap.size, 0, none⟩ = some (.slice a cs.length cap) ∧ w6.cell? ⟨w.heap.size, 1, none⟩ = some (.slice yi n c1) ∧ w6.cell? ⟨b3, 0, none⟩ = some (.string ⟨y.toArray⟩) ∧ w6.cell? ⟨b3, 1, none⟩ = some (.string ⟨z.toArray⟩) ∧ w6.cell? ⟨w.heap.size + 1, 1, none⟩ = some (.string ⟨t.toArray⟩) := ⟨(keep2 HX1.out (HBV.out.trans ((HB6.out).mono HBV.out.size))).1, (keep2 HX1.out (HBV.out.trans ((HB6.out).mono HBV.out.size))).2, (keep2 HXN.out (HB6.out)).1, (keep2 HXN.out (HB6.out)).2, (keep3 HX2.out (HBV.out.trans ((HB6.out).mono HBV.out.size))).2.1⟩
                    refine hK _ _ (fun _ => SX6) ?_
                    clear hK K
                    clear SX5
                    refine wpAnyT_take (i := 9) (v := .bool false) rfl (by kernel_rfl) (by kernel_rfl) (by kernel_rfl) (by kernel_rfl) (fun _ _ _ h => h) (Or.inl ⟨by kernel_rfl, fun X hS => by obtain ⟨e0, e1, e2, e3, e4⟩ := hS; go_simp⟩) SX6 ?_
                    try go_simp
                    refine wpAnyT_take (i := 10) (v := .bool false) rfl (by kernel_rfl) (by kernel_rfl) (by kernel_rfl) (by kernel_rfl) (fun _ _ _ h => h) (Or.inl ⟨by kernel_rfl, fun X hS => by obtain ⟨e0, e1, e2, e3, e4⟩ := hS; go_simp⟩) SX6 ?_
                    try go_simp
                    refine wpAnyT_take (i := 11) (v := .bool false) rfl (by kernel_rfl) (by kernel_rfl) (by kernel_rfl) (by kernel_rfl) (fun _ _ _ h => h) (Or.inl ⟨by kernel_rfl, fun X hS => by obtain ⟨e0, e1, e2, e3, e4⟩ := hS; go_simp⟩) SX6 ?_
                    try go_simp
                    refine wpAnyT_take (i := 12) (v := .pointer (some ⟨b3, 1, none⟩)) rfl (by kernel_rfl) (by kernel_rfl) (by kernel_rfl) (by kernel_rfl) (fun _ _ _ h => h) (Or.inl ⟨by kernel_rfl, fun X hS => by obtain ⟨e0, e1, e2, e3, e4⟩ := hS; go_simp⟩) SX6 ?_
                    try go_simp
                    refine wpAnyT_take (i := 13) (v := .string ⟨z.toArray⟩) rfl (by kernel_rfl) (by kernel_rfl) (by kernel_rfl) (by kernel_rfl) (fun _ _ _ h => h) (Or.inl ⟨by kernel_rfl, fun X hS => by obtain ⟨e0, e1, e2, e3, e4⟩ := hS; go_simp⟩) SX6 ?_
                    try go_simp
                    refine wpAnyT_take (i := 14) (v := .int .i64 z.length) rfl (by kernel_rfl) (by kernel_rfl) (by kernel_rfl) (by kernel_rfl) (fun _ _ _ h => h) (Or.inl ⟨by kernel_rfl, fun X hS => by obtain ⟨e0, e1, e2, e3, e4⟩ := hS; go_simp⟩) SX6 ?_
                    try go_simp
                    refine wpAnyT_take (i := 15) (v := .bool false) rfl (by kernel_rfl) (by kernel_rfl) (by kernel_rfl) (by kernel_rfl) (fun _ _ _ h => h) (Or.inl ⟨by kernel_rfl, fun X hS => by obtain ⟨e0, e1, e2, e3, e4⟩ := hS; go_simp⟩) SX6 ?_
                    try go_simp
                    refine wpAnyT_take (i := 16) (v := .bool false) rfl (by kernel_rfl) (by kernel_rfl) (by kernel_rfl) (by kernel_rfl) (fun _ _ _ h => h) (Or.inl ⟨by kernel_rfl, fun X hS => by obtain ⟨e0, e1, e2, e3, e4⟩ := hS; go_simp⟩) SX6 ?_
                    try go_simp
                    refine wpAnyT_take (i := 17) (v := .bool false) rfl (by kernel_rfl) (by kernel_rfl) (by kernel_rfl) (by kernel_rfl) (fun _ _ _ h => h) (Or.inl ⟨by kernel_rfl, fun X hS => by obtain ⟨e0, e1, e2, e3, e4⟩ := hS; go_simp⟩) SX6 ?_
                    try go_simp
                    refine wpAnyT_take (i := 18) (v := .pointer (some ⟨b3, 1, none⟩)) rfl (by kernel_rfl) (by kernel_rfl) (by kernel_rfl) (by kernel_rfl) (fun _ _ _ h => h) (Or.inl ⟨by kernel_rfl, fun X hS => by obtain ⟨e0, e1, e2, e3, e4⟩ := hS; go_simp⟩) SX6 ?_
                    try go_simp
                    refine wpAnyT_take (i := 19) (v := .string ⟨z.toArray⟩) rfl (by kernel_rfl) (by kernel_rfl) (by kernel_rfl) (by kernel_rfl) (fun _ _ _ h => h) (Or.inl ⟨by kernel_rfl, fun X hS => by obtain ⟨e0, e1, e2, e3, e4⟩ := hS; go_simp⟩) SX6 ?_
                    try go_simp
                    refine wpAnyT_take (i := 21) (v := .pointer (some ⟨w.heap.size + 1, 0, none⟩)) rfl (by kernel_rfl) (by kernel_rfl) (by kernel_rfl) (by kernel_rfl) (fun _ _ _ h => h) (Or.inl ⟨by kernel_rfl, fun X hS => by obtain ⟨e0, e1, e2, e3, e4⟩ := hS; go_simp⟩) SX6 ?_
                    try go_simp
                    refine wpAnyT_take (i := 22) (v := .pointer (some ⟨w.heap.size + 1, 1, none⟩)) rfl (by kernel_rfl) (by kernel_rfl) (by kernel_rfl) (by kernel_rfl) (fun _ _ _ h => h) (Or.inl ⟨by kernel_rfl, fun X hS => by obtain ⟨e0, e1, e2, e3, e4⟩ := hS; go_simp⟩) SX6 ?_
                    try go_simp
                    refine wpAnyT_take (i := 23) (v := .string ⟨t.toArray⟩) rfl (by kernel_rfl) (by kernel_rfl) (by kernel_rfl) (by kernel_rfl) (fun _ _ _ h => h) (Or.inl ⟨by kernel_rfl, fun X hS => by obtain ⟨e0, e1, e2, e3, e4⟩ := hS; go_simp⟩) SX6 ?_
                    try go_simp
                    refine wpAnyT_one 20 rfl (by kernel_rfl) (fun K hK => ?_)
                    go_simp
                    refine (VarsOf_spec z w6 (by omega)).mono ?_
                    rintro e w7 ⟨rfl, hb⟩
                    have HB7 : Hid (Below V.heap.size V w7) := HB6.out.trans (hb.mono HB6.out.size)
                    clear hb
                    have SX7 : w7.cell? ⟨w.heap.size, 0, none⟩ = some (.slice a cs.length cap) ∧ w7.cell? ⟨w.heap.size, 1, none⟩ = some (.slice yi n c1) ∧ w7.cell? ⟨b3, 0, none⟩ = some (.string ⟨y.toArray⟩) ∧ w7.cell? ⟨b3, 1, none⟩ = some (.string ⟨z.toArray⟩) ∧ w7.cell? ⟨w.heap.size + 1, 1, none⟩ = some (.string ⟨t.toArray⟩) := ⟨(keep2 HX1.out (HBV.out.trans ((HB7.out).mono HBV.out.size))).1, (keep2 HX1.out (HBV.out.trans ((HB7.out).mono HBV.out.size))).2, (keep2 HXN.out (HB7.out)).1, (keep2 HXN.out (HB7.out)).2, (keep3 HX2.out (HBV.out.trans ((HB7.out).mono HBV.out.size))).2.1⟩
                    refine hK _ _ (fun _ => SX7) ?_
                    clear hK K
                    clear SX6
                    refine wpAnyT_one 24 rfl (by kernel_rfl) (fun K hK => ?_)
                    go_simp
                    refine (VarsOf_spec t w7 (by omega)).mono ?_
                    rintro e w8 ⟨rfl, hb⟩
                    have HB8 : Hid (Below V.heap.size V w8) := HB7.out.trans (hb.mono HB7.out.size)
                    clear hb
                    have SX8 : w8.cell? ⟨w.heap.size, 0, none⟩ = some (.slice a cs.length cap) ∧ w8.cell? ⟨w.heap.size, 1, none⟩ = some (.slice yi n c1) ∧ w8.cell? ⟨b3, 0, none⟩ = some (.string ⟨y.toArray⟩) ∧ w8.cell? ⟨b3, 1, none⟩ = some (.string ⟨z.toArray⟩) ∧ w8.cell? ⟨w.heap.size + 1, 1, none⟩ = some (.string ⟨t.toArray⟩) := ⟨(keep2 HX1.out (HBV.out.trans ((HB8.out).mono HBV.out.size))).1, (keep2 HX1.out (HBV.out.trans ((HB8.out).mono HBV.out.size))).2, (keep2 HXN.out (HB8.out)).1, (keep2 HXN.out (HB8.out)).2, (keep3 HX2.out (HBV.out.trans ((HB8.out).mono HBV.out.size))).2.1⟩
                    refine hK _ _ (fun _ => SX8) ?_
                    clear hK K
                    clear SX7
                    refine wpAnyT_one 25 rfl (by kernel_rfl) (fun K hK => ?_)
                    go_simp
                    refine (l3Within_any (varsL z) (varsL t) w8 (by omega) (by omega)).mono ?_
                    rintro e w9 ⟨rfl, rfl⟩
                    rw [HW.out]
                    refine hK _ _ (fun _ => SX8) ?_
                    clear hK K
                    refine wpAnyT_take (i := 26) (v := .bool false) rfl (by kernel_rfl) (by kernel_rfl) (by kernel_rfl) (by kernel_rfl) (fun _ _ _ h => h) (Or.inl ⟨by kernel_rfl, fun X hS => by obtain ⟨e0, e1, e2, e3, e4⟩ := hS; go_simp⟩) SX8 ?_
                    try go_simp
                    refine wpAnyT_take (i := 27) (v := .bool false) rfl (by kernel_rfl) (by kernel_rfl) (by kernel_rfl) (by kernel_rfl) (fun _ _ _ h => h) (Or.inl ⟨by kernel_rfl, fun X hS => by obtain ⟨e0, e1, e2, e3, e4⟩ := hS; go_simp⟩) SX8 ?_
                    try go_simp
                    refine wpAnyT_drop _ 28 _ _ _ (by decide) (by kernel_rfl) ?_
                    change wpList _ _ _ [] _ _
                    clear SX8
                    go_wp2
                    go_roundg (ns.length - (k + 1))
                    case measure => omega
                    case rel => exact ⟨k + 1, by omega, by omega, by go_num, HNK.out, HBV.out.trans (HB8.out.mono HBV.out.size)⟩
            · have hke : k = ns.length := by omega
              have HR : Hid (ivB cs (⟨x.toArray⟩, ⟨t.toArray⟩, ns) = true) := iv8 H1.out H2.out H3.out h4 H5.out h6 (by rw [← hke]; exact HGD.out)
              clear hke
              go_wp2_with fail
              go_ret
              exact ⟨ret_bool HR.out.symm, HBW.out.trans (HB.out.mono HBW.out.size)⟩
end IV
end Go.Proofs.YtbdnhcfebgkpdaaDoor
