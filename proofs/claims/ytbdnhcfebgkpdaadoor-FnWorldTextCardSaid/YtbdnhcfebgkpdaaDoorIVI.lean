/- InstanceValid of the program. Conditions: the sizes are those typed. -/
import Derived.Test.YtbdnhcfebgkpdaaDoorIV
set_option linter.unusedVariables false
set_option linter.unusedSimpArgs false
set_option maxRecDepth 100000
namespace Go.Proofs.YtbdnhcfebgkpdaaDoor
open Go.RowKit Known Classes Ty IV
namespace IV
theorem bnd {xs : List BB} (h : tot xs + xs.length ≤ 1048577) (i : Nat) (p : BB) (hp : xs[i]? = some p) : p.1.size ≤ 1048576 ∧ p.2.size ≤ 1048576 := by
  have h3 := (List.getElem?_eq_some_iff.1 hp).1
  have h1 := tot_take xs i p hp
  have h2 := tot_le xs (i + 1)
  omega
theorem of_bytes (x : ByteArray) : ∃ l : List UInt8, x = ⟨l.toArray⟩ ∧ x.size = l.length := ⟨x.data.toList, rfl, by simp⟩
set_option maxHeartbeats 4000000 in
theorem InstanceValid_impl (a d : Option Addr) (cap : Nat) (yi : Option Addr) (n c1 cap3 : Nat) (cs : List BB) (x t : List UInt8) (ns : List BB) (w : World) (h0 : tot cs + cs.length ≤ 1048577) (hcap : cs.length ≤ cap) (hx : x.length ≤ 1048576) (ht : t.length ≤ 1048576) (hns : tot ns + ns.length ≤ 1048576) (hs : SP w (.slice a cs.length cap) cs) (hn : SP w (.slice d ns.length cap3) ns) :
    Calls Tryd.prog 47 #[.agg #[.slice a cs.length cap, .slice yi n c1], .agg #[.string ⟨x.toArray⟩, .string ⟨t.toArray⟩, .slice d ns.length cap3]] w fun e w' => e = .returned (.bool (ivB cs (⟨x.toArray⟩, ⟨t.toArray⟩, ns))) ∧ Below w.heap.size w w' := by
  have HBD : Hid (∀ (i : Nat) (p : BB), ns[i]? = some p → p.1.size ≤ 1048576 ∧ p.2.size ≤ 1048576) := bnd (Nat.le_succ_of_le hns)
  have hnl : ns.length ≤ 1048576 := by omega
  have HS := hid hs
  have HN := hid hn
  have H0 := hid h0
  clear hs hn h0 hns
  go_enter Tryd.func47, Tryd.ntmps47
  go_wp2_with fail
  have HBW : Hid (Below w.heap.size w ((w.alloc (.cells #[.slice a cs.length cap, .slice yi n c1] 42)).alloc (.cells #[.string ⟨x.toArray⟩, .string ⟨t.toArray⟩, .slice d ns.length cap3] 28))) := ((Below.refl _ _).alloc (Nat.le_refl _) _).alloc (by simp) _
  have HX1 : Hid (((w.alloc (.cells #[.slice a cs.length cap, .slice yi n c1] 42)).alloc (.cells #[.string ⟨x.toArray⟩, .string ⟨t.toArray⟩, .slice d ns.length cap3] 28)).heap[w.heap.size]? = some (.cells #[.slice a cs.length cap, .slice yi n c1] 42 (0, 0))) := hb_alloc (heap_alloc_new _ _) _
  have HX2 : Hid (((w.alloc (.cells #[.slice a cs.length cap, .slice yi n c1] 42)).alloc (.cells #[.string ⟨x.toArray⟩, .string ⟨t.toArray⟩, .slice d ns.length cap3] 28)).heap[w.heap.size + 1]? = some (.cells #[.string ⟨x.toArray⟩, .string ⟨t.toArray⟩, .slice d ns.length cap3] 28 (0, 0))) := heap_alloc2_new _ _ _
  generalize (w.alloc (.cells #[.slice a cs.length cap, .slice yi n c1] 42)).alloc (.cells #[.string ⟨x.toArray⟩, .string ⟨t.toArray⟩, .slice d ns.length cap3] 28) = W at *
  have hzb := HBW.out.size
  have hzs := lt_of_heap HX2.out
  refine (classesOk_any a cap yi n c1 cs W H0.out hcap (HS.out.below HBW.out)).mono ?_
  rintro e w1 ⟨rfl, hb⟩
  have HB1 := hid hb
  obtain ⟨p10, p11⟩ := keep2 HX1.out hb
  obtain ⟨q10, q11, q12⟩ := keep3 HX2.out hb
  have hz1 := hb.size
  clear hb
  cases h1 : clB cs with
  | false =>
    have HR : Hid (ivB cs (⟨x.toArray⟩, ⟨t.toArray⟩, ns) = false) := iv1 h1
    clear h1
    go_wp2
    go_ret
    exact ⟨ret_bool HR.out.symm, HBW.out.trans (HB1.out.mono HBW.out.size)⟩
  | true =>
    have H1 := hid h1
    clear h1
    go_wp2_with fail
    refine (known_any _ cs ⟨x.toArray⟩ w1 ((HS.out.below HBW.out).below HB1.out)).mono ?_
    rintro e w2 ⟨rfl, hb⟩
    have HB2 : Hid (Below W.heap.size W w2) := HB1.out.trans (hb.mono HB1.out.size)
    clear hb p10 p11 q10 q11 q12
    obtain ⟨p10, p11⟩ := keep2 HX1.out HB2.out
    obtain ⟨q10, q11, q12⟩ := keep3 HX2.out HB2.out
    have hz2 := HB2.out.size
    cases h2 : knownB cs ⟨x.toArray⟩ with
    | false =>
      have HR : Hid (ivB cs (⟨x.toArray⟩, ⟨t.toArray⟩, ns) = false) := iv2 h2
      clear h2
      go_wp2
      go_ret
      exact ⟨ret_bool HR.out.symm, HBW.out.trans (HB2.out.mono HBW.out.size)⟩
    | true =>
      have H2 := hid h2
      clear h2
      go_wp2_with fail
      refine (TypeValid_impl t w2 (by unfold maxLen; omega)).mono ?_
      rintro e w3 ⟨rfl, hb⟩
      have HB3 : Hid (Below W.heap.size W w3) := HB2.out.trans (hb.mono HB2.out.size)
      clear hb p10 p11 q10 q11 q12
      obtain ⟨p10, p11⟩ := keep2 HX1.out HB3.out
      obtain ⟨q10, q11, q12⟩ := keep3 HX2.out HB3.out
      have hz3 := HB3.out.size
      cases h3 : (ty t).isSome with
      | false =>
        have HR : Hid (ivB cs (⟨x.toArray⟩, ⟨t.toArray⟩, ns) = false) := iv3 h3
        clear h3
        go_wp2
        go_ret
        exact ⟨ret_bool HR.out.symm, HBW.out.trans (HB3.out.mono HBW.out.size)⟩
      | true =>
        have H3 := hid h3
        clear h3
        by_cases h4 : t.length ≤ 20
        case neg =>
          have HR : Hid (ivB cs (⟨x.toArray⟩, ⟨t.toArray⟩, ns) = false) := iv4 (by omega)
          go_wp2
          go_ret
          exact ⟨ret_bool HR.out.symm, HBW.out.trans (HB3.out.mono HBW.out.size)⟩
        go_wp2_with fail
        refine (isVar_impl t w3 (by omega)).mono ?_
        rintro e w4 ⟨rfl, rfl⟩
        cases h5 : isVarL t with
        | true =>
          have HR : Hid (ivB cs (⟨x.toArray⟩, ⟨t.toArray⟩, ns) = false) := iv5 h5
          clear h5
          go_wp2
          go_ret
          exact ⟨ret_bool HR.out.symm, HBW.out.trans (HB3.out.mono HBW.out.size)⟩
        | false =>
          have H5 := hid h5
          clear h5
          by_cases h6 : ns.length ≤ 3
          case neg =>
            have HR : Hid (ivB cs (⟨x.toArray⟩, ⟨t.toArray⟩, ns) = false) := iv6 (by omega)
            go_wp2
            go_ret
            exact ⟨ret_bool HR.out.symm, HBW.out.trans (HB3.out.mono HBW.out.size)⟩
          go_wp2_with fail
          go_loopg [50] ns.length (fun q i wr => ∃ k : Nat, k ≤ ns.length ∧ ns.length - k ≤ q ∧ i = .int .i64 k ∧ Hid (∀ (j : Nat) (p : BB), j < k → ns[j]? = some p → needB cs t p = true) ∧ Below W.heap.size W wr)
          case atStart => exact ⟨0, Nat.zero_le _, by simp, rfl, (fun j p h => by omega), HB3.out⟩
          case round =>
            obtain ⟨k, hk, hq, rfl, hgd, hb⟩ := hrel
            have HB := hid hb
            have HGD := hid hgd
            have hbz := hb.size
            clear hb hgd p10 p11 q10 q11 q12
            by_cases hlt : k < ns.length
            · obtain ⟨⟨y, z⟩, hp⟩ : ∃ p, ns[k]? = some p := ⟨_, List.getElem?_eq_getElem hlt⟩
              obtain ⟨b, off, rfl, k0, k1, z0, z1, hbl⟩ := sp_at ((HN.out.below HBW.out).below HB.out) hp
              obtain ⟨hs1, hs2⟩ := HBD.out k _ hp
              obtain ⟨y, rfl, hyl⟩ := of_bytes y
              obtain ⟨z, rfl, hzl⟩ := of_bytes z
              have HP := hid hp
              dsimp only at hs1 hs2
              have hyl2 : y.length ≤ 1048576 := by omega
              have hzl2 : z.length ≤ 1048576 := by omega
              clear hp hs1 hs2 hyl hzl z0 z1
              obtain ⟨p10, p11⟩ := keep2 HX1.out HB.out
              have hlt1 : w.heap.size < wr.heap.size := by omega
              go_wp2_with fail
              have HBV : Hid (Below W.heap.size W (wr.alloc (.cells #[.string ⟨y.toArray⟩, .string ⟨z.toArray⟩] 25))) := HB.out.alloc (by omega) _
              have HXN : Hid ((wr.alloc (.cells #[.string ⟨y.toArray⟩, .string ⟨z.toArray⟩] 25)).heap[wr.heap.size]? = some (.cells #[.string ⟨y.toArray⟩, .string ⟨z.toArray⟩] 25 (0, 0))) := heap_alloc_new _ _
              clear k0 k1 p10 p11
              generalize wr.alloc (.cells #[.string ⟨y.toArray⟩, .string ⟨z.toArray⟩] 25) = V at *
              generalize wr.heap.size = b3 at *
              have hzv := HBV.out.size
              refine (known_any _ cs ⟨y.toArray⟩ V ((HS.out.below HBW.out).below HBV.out)).mono ?_
              rintro e w5 ⟨rfl, hb⟩
              have HB5 := hid hb
              have hz5 := hb.size
              clear hb
              obtain ⟨p10, p11⟩ := keep2 HX1.out (HBV.out.trans (HB5.out.mono HBV.out.size))
              obtain ⟨r10, r11⟩ := keep2 HXN.out HB5.out
              cases h7 : knownB cs ⟨y.toArray⟩ with
              | false =>
                have HR : Hid (ivB cs (⟨x.toArray⟩, ⟨t.toArray⟩, ns) = false) := iv7 HP.out (nd1 h7)
                clear h7
                go_wp2
                go_ret
                exact ⟨ret_bool HR.out.symm, HBW.out.trans ((HBV.out.trans (HB5.out.mono HBV.out.size)).mono HBW.out.size)⟩
              | true =>
                have H7 := hid h7
                clear h7
                go_wp2_with fail
                refine (TypeValid_impl z w5 (by unfold maxLen; omega)).mono ?_
                rintro e w6 ⟨rfl, hb⟩
                have HB6 : Hid (Below V.heap.size V w6) := HB5.out.trans (hb.mono HB5.out.size)
                have hz6 := HB6.out.size
                clear hb r10 r11 p10 p11
                obtain ⟨r10, r11⟩ := keep2 HXN.out HB6.out
                cases h8 : (ty z).isSome with
                | false =>
                  have HR : Hid (ivB cs (⟨x.toArray⟩, ⟨t.toArray⟩, ns) = false) := iv7 HP.out (nd2 h8)
                  clear h8
                  go_wp2
                  go_ret
                  exact ⟨ret_bool HR.out.symm, HBW.out.trans ((HBV.out.trans (HB6.out.mono HBV.out.size)).mono HBW.out.size)⟩
                | true =>
                  have H8 := hid h8
                  clear h8
                  by_cases h9 : z.length ≤ 20
                  case neg =>
                    have HR : Hid (ivB cs (⟨x.toArray⟩, ⟨t.toArray⟩, ns) = false) := iv7 HP.out (nd3 (by omega))
                    go_wp2
                    go_ret
                    exact ⟨ret_bool HR.out.symm, HBW.out.trans ((HBV.out.trans (HB6.out.mono HBV.out.size)).mono HBW.out.size)⟩
                  go_wp2_with fail
                  refine (vars_any z w6).mono ?_
                  rintro e w7 ⟨g, capg, rfl, hown, hb⟩
                  have HB7 : Hid (Below V.heap.size V w7) := HB6.out.trans (hb.mono HB6.out.size)
                  have HB7W : Hid (Below W.heap.size W w7) := HBV.out.trans (HB7.out.mono HBV.out.size)
                  have HO := hid hown
                  have hvl : (varsI z).length ≤ 6 := List.length_filter_le _ vlist
                  have hz7 := HB7W.out.size
                  clear hb hown r10 r11
                  obtain ⟨q10, q11, q12⟩ := keep3 HX2.out HB7W.out
                  go_wp2_with fail
                  go_loop [76] (fun i => ∃ m : Nat, m ≤ (varsI z).length ∧ i = .int .i64 m ∧ Hid (∀ (j : Nat) (v : UInt8), j < m → (varsI z)[j]? = some v → t.contains v = true)) (fun i => (varsI z).length - (intOf i).toNat)
                  case atStart => exact ⟨0, Nat.zero_le _, rfl, fun j v h => by omega⟩
                  case round =>
                    obtain ⟨m, hm, rfl, hgv⟩ := hrel
                    by_cases hltm : m < (varsI z).length
                    · obtain ⟨v, hv⟩ : ∃ v, (varsI z)[m]? = some v := ⟨_, List.getElem?_eq_getElem hltm⟩
                      have HV := hid hv
                      have kv : w7.cell? ⟨g, m, none⟩ = some (.string ⟨#[v]⟩) := row_cell HO.out m (by simp [chars, hv])
                      have HGV := hid hgv
                      have hgl := lt_of_cell kv
                      dsimp only at hgl
                      clear hv hgv
                      cases h10 : t.contains v with
                      | false =>
                        have HR : Hid (ivB cs (⟨x.toArray⟩, ⟨t.toArray⟩, ns) = false) := iv7 HP.out (nd4 HV.out h10)
                        have H10 := hid h10
                        clear h10
                        go_wp2_with (go_at_call 70; refine (sContains ⟨t.toArray⟩ v _).mono ?_; rintro e w' ⟨rfl, rfl⟩; rw [show (ByteArray.mk t.toArray).data.toList.contains v = false from H10.out])
                        go_ret
                        exact ⟨ret_bool HR.out.symm, HBW.out.trans (HB7W.out.mono HBW.out.size)⟩
                      | true =>
                        have H10 := hid h10
                        have HN2 : Hid (∀ (j : Nat) (u : UInt8), j < m + 1 → (varsI z)[j]? = some u → t.contains u = true) := fun j u hj hu => by
                          by_cases e : j < m
                          · exact HGV.out j u e hu
                          · obtain rfl : j = m := by omega
                            rw [HV.out] at hu; cases hu; exact h10
                        clear h10
                        go_wp2_with (go_at_call 70; refine (sContains ⟨t.toArray⟩ v _).mono ?_; rintro e w' ⟨rfl, rfl⟩; rw [show (ByteArray.mk t.toArray).data.toList.contains v = true from H10.out])
                        go_round
                        case rel => exact ⟨m + 1, by omega, by go_num, HN2.out⟩
                        case measure => simp [intOf]; omega
                    · have hme : m = (varsI z).length := by omega
                      have HNK : Hid (∀ (j : Nat) (p : BB), j < k + 1 → ns[j]? = some p → needB cs t p = true) := fun j p hj hpj => by
                        by_cases e : j < k
                        · exact HGD.out j p e hpj
                        · obtain rfl : j = k := by omega
                          rw [HP.out] at hpj; cases hpj
                          exact nd5 H7.out H8.out h9 (fun i v hv => hgv i v (by have := (List.getElem?_eq_some_iff.1 hv).1; omega) hv)
                      clear hme hgv
                      go_wp2_with fail
                      go_roundg (ns.length - (k + 1))
                      case measure => omega
                      case rel => exact ⟨k + 1, by omega, by omega, by go_num, HNK.out, HB7W.out⟩
            · have hke : k = ns.length := by omega
              have HR : Hid (ivB cs (⟨x.toArray⟩, ⟨t.toArray⟩, ns) = true) := iv8 H1.out H2.out H3.out h4 H5.out h6 (by rw [← hke]; exact HGD.out)
              clear hke
              go_wp2_with fail
              go_ret
              exact ⟨ret_bool HR.out.symm, HBW.out.trans (HB.out.mono HBW.out.size)⟩
end IV
end Go.Proofs.YtbdnhcfebgkpdaaDoor
