/- WorldValid, HasClass and NeedValid, of both sides. Conditions: the sizes are those typed. -/
import Derived.Test.YtbdnhcfebgkpdaaDoorIVI
import Derived.Test.YtbdnhcfebgkpdaaDoorIVS
import Derived.Test.YtbdnhcfebgkpdaaDoorWorldS
set_option linter.unusedVariables false
set_option linter.unusedSimpArgs false
set_option maxRecDepth 100000
namespace Go.Proofs.YtbdnhcfebgkpdaaDoor
open Go.RowKit Known Classes Ty IV
namespace WV
/-- what WorldValid returns -/
noncomputable def wvB (cs : List BB) (is : List II) : Bool := clB cs && (decide (is.length ≤ 10) && is.all (ivB cs))
theorem ibnd {is : List II} (h : itot is + is.length ≤ 1048576) (k : Nat) (p : II) (hp : is[k]? = some p) : p.1.size ≤ 1048576 ∧ p.2.1.size ≤ 1048576 ∧ tot p.2.2 + p.2.2.length ≤ 1048576 := by
  have h1 := itot_take is k p hp
  have h2 := itot_le is (k + 1)
  unfold iw at h1
  omega
theorem all_no {is : List II} {cs : List BB} {k : Nat} {p : II} (hk : is[k]? = some p) (h : ivB cs p = false) : is.all (ivB cs) = false := by
  rw [List.all_eq_false]; exact ⟨p, List.mem_of_getElem? hk, by simp [h]⟩
theorem all_yes {is : List II} {cs : List BB} (h : ∀ (k : Nat) (p : II), k < is.length → is[k]? = some p → ivB cs p = true) : is.all (ivB cs) = true := by
  rw [List.all_eq_true]
  intro p hp
  obtain ⟨k, hk, hh⟩ := List.mem_iff_getElem.1 hp
  exact h k p hk (by rw [List.getElem?_eq_getElem hk, hh])
theorem wv1 {cs : List BB} {is : List II} (h : clB cs = false) : wvB cs is = false := by unfold wvB; rw [h]; rfl
theorem wv2 {cs : List BB} {is : List II} (h : 10 < is.length) : wvB cs is = false := by unfold wvB; simp [show ¬ is.length ≤ 10 by omega]
theorem wv3 {cs : List BB} {is : List II} (h : is.all (ivB cs) = false) : wvB cs is = false := by unfold wvB; rw [h]; simp
theorem wv4 {cs : List BB} {is : List II} (h1 : clB cs = true) (h2 : is.length ≤ 10) (h3 : is.all (ivB cs) = true) : wvB cs is = true := by unfold wvB; rw [h1, h3]; simp [h2]
theorem step_all {cs : List BB} {is : List II} {k : Nat} {p : II} (h : ∀ (j : Nat) (q : II), j < k → is[j]? = some q → ivB cs q = true) (hp : is[k]? = some p) (hv : ivB cs p = true) : ∀ (j : Nat) (q : II), j < k + 1 → is[j]? = some q → ivB cs q = true := fun j q hj hq => by
  by_cases e : j < k
  · exact h j q e hq
  · obtain rfl : j = k := by omega
    rw [hp] at hq; cases hq; exact hv
set_option maxHeartbeats 4000000 in
theorem WorldValid_spec (a b : Option Addr) (cap cap2 : Nat) (cs : List BB) (is : List II) (w : World) (h0 : tot cs + cs.length ≤ 1048577) (h1 : itot is + is.length ≤ 1048576) (hcap : cs.length ≤ cap) (hs : SP w (.slice a cs.length cap) cs) (hi : SI w (.slice b is.length cap2) is) :
    Calls Tryd.prog 23 #[.agg #[.slice a cs.length cap, .slice b is.length cap2]] w fun e w' => e = .returned (.bool (wvB cs is)) ∧ Below w.heap.size w w' := by
  have HBD : Hid (∀ (k : Nat) (p : II), is[k]? = some p → p.1.size ≤ 1048576 ∧ p.2.1.size ≤ 1048576 ∧ tot p.2.2 + p.2.2.length ≤ 1048576) := ibnd h1
  have hil : is.length ≤ 1048576 := by omega
  have HS := hid hs
  have HI := hid hi
  have H0 := hid h0
  clear hs hi h0 h1
  go_enter Tryd.func23, Tryd.ntmps23
  go_wp2_with fail
  have HBW : Hid (Below w.heap.size w (w.alloc (.cells #[.slice a cs.length cap, .slice b is.length cap2] 42))) := (Below.refl _ _).alloc (Nat.le_refl _) _
  have HX1 : Hid ((w.alloc (.cells #[.slice a cs.length cap, .slice b is.length cap2] 42)).heap[w.heap.size]? = some (.cells #[.slice a cs.length cap, .slice b is.length cap2] 42 (0, 0))) := heap_alloc_new _ _
  generalize w.alloc (.cells #[.slice a cs.length cap, .slice b is.length cap2] 42) = W at *
  have hzb := HBW.out.size
  have hzs := lt_of_heap HX1.out
  go_loopg [8] is.length (fun q i wr => ∃ k : Nat, k ≤ is.length ∧ is.length - k ≤ q ∧ i = .int .i64 k ∧ Hid (∀ (j : Nat) (p : II), j < k → is[j]? = some p → ivB cs p = true) ∧ Below W.heap.size W wr)
  case atStart => exact ⟨0, Nat.zero_le _, by simp, rfl, (fun j p h => by omega), Below.refl _ _⟩
  case round =>
    obtain ⟨k, hk, hq, rfl, hgd, hb⟩ := hrel
    have HB := hid hb
    have HGD := hid hgd
    have hbz := hb.size
    clear hb hgd
    obtain ⟨p10, p11⟩ := keep2 HX1.out HB.out
    have hlt1 : w.heap.size < wr.heap.size := by omega
    by_cases hlt : k < is.length
    · obtain ⟨⟨x, y, ns⟩, hp⟩ : ∃ p, is[k]? = some p := ⟨_, List.getElem?_eq_getElem hlt⟩
      obtain ⟨b2, off, an, cn, rfl, k0, k1, k2, hsn, -, -, hbl⟩ := si_at ((HI.out.below HBW.out).below HB.out) hp
      obtain ⟨hs1, hs2, hs3⟩ := HBD.out k _ hp
      obtain ⟨x, rfl, hxl⟩ := of_bytes x
      obtain ⟨y, rfl, hyl⟩ := of_bytes y
      have HP := hid hp
      dsimp only at hs1 hs2 hs3
      have hxl2 : x.length ≤ 1048576 := by omega
      have hyl2 : y.length ≤ 1048576 := by omega
      have HSN := hid hsn
      have HS3 := hid hs3
      clear hp hs1 hs2 hs3 hxl hyl hsn
      go_wp2_with fail
      have HBV : Hid (Below W.heap.size W (wr.alloc (.cells #[.string ⟨x.toArray⟩, .string ⟨y.toArray⟩, .slice an ns.length cn] 28))) := HB.out.alloc (by omega) _
      have HSV : Hid (SP (wr.alloc (.cells #[.string ⟨x.toArray⟩, .string ⟨y.toArray⟩, .slice an ns.length cn] 28)) (.slice an ns.length cn) ns) := HSN.out.below ((Below.refl _ _).alloc (Nat.le_refl _) _)
      clear k0 k1 k2 p10 p11
      generalize wr.alloc (.cells #[.string ⟨x.toArray⟩, .string ⟨y.toArray⟩, .slice an ns.length cn] 28) = V at *
      refine (InstanceValid_spec a an cap (some ⟨b2, off, none⟩) is.length cap2 cn cs x y ns V H0.out hcap hxl2 hyl2 HS3.out ((HS.out.below HBW.out).below HBV.out) HSV.out).mono ?_
      rintro e w5 ⟨rfl, hb⟩
      have HB5 : Hid (Below W.heap.size W w5) := HBV.out.trans (hb.mono HBV.out.size)
      have hz5 := HB5.out.size
      clear hb
      cases hv : ivB cs (⟨x.toArray⟩, ⟨y.toArray⟩, ns) with
      | false =>
        have HR : Hid (wvB cs is = false) := wv3 (all_no HP.out hv)
        clear hv
        go_wp2
        go_ret
        exact ⟨ret_bool HR.out.symm, HBW.out.trans (HB5.out.mono HBW.out.size)⟩
      | true =>
        have HN : Hid (∀ (j : Nat) (p : II), j < k + 1 → is[j]? = some p → ivB cs p = true) := step_all HGD.out HP.out hv
        clear hv
        go_wp2_with fail
        go_roundg (is.length - (k + 1))
        case measure => omega
        case rel => exact ⟨k + 1, by omega, by omega, by go_num, HN.out, HB5.out⟩
    · have hke : k = is.length := by omega
      have HA : Hid (is.all (ivB cs) = true) := all_yes (by rw [← hke]; exact HGD.out)
      clear hke
      go_wp2_with fail
      refine (l3Classes_any a cap cs wr H0.out hcap ((HS.out.below HBW.out).below HB.out)).mono ?_
      rintro e w5 ⟨rfl, hb⟩
      have HB5 : Hid (Below W.heap.size W w5) := HB.out.trans (hb.mono HB.out.size)
      clear hb p10 p11
      obtain ⟨p10, p11⟩ := keep2 HX1.out HB5.out
      cases hv : clB cs with
      | false =>
        have HR : Hid (wvB cs is = false) := wv1 hv
        clear hv
        go_wp2
        go_ret
        exact ⟨ret_bool HR.out.symm, HBW.out.trans (HB5.out.mono HBW.out.size)⟩
      | true =>
        have HV := hid hv
        clear hv
        by_cases h10 : is.length ≤ 10
        · have HR : Hid (wvB cs is = true) := wv4 HV.out h10 HA.out
          go_wp2
          go_ret
          exact ⟨ret_bool (by rw [HR.out]; simp; omega), HBW.out.trans (HB5.out.mono HBW.out.size)⟩
        · have HR : Hid (wvB cs is = false) := wv2 (by omega)
          go_wp2
          go_ret
          exact ⟨ret_bool (by rw [HR.out]; simp; omega), HBW.out.trans (HB5.out.mono HBW.out.size)⟩

set_option maxHeartbeats 2000000 in
theorem cloW_any (a b an : Option Addr) (cap cap2 cn : Nat) (cs : List BB) (n : Nat) (x y : List UInt8) (ns : List BB) (bx : Nat) (w : World) (h0 : tot cs + cs.length ≤ 1048577) (hcap : cs.length ≤ cap) (hx : x.length ≤ 1048576) (hy : y.length ≤ 1048576) (hns : tot ns + ns.length ≤ 1048576)
    (hs : SP w (.slice a cs.length cap) cs) (hn : SP w (.slice an ns.length cn) ns) (hb0 : w.cell? ⟨bx, 0, none⟩ = some (.slice a cs.length cap)) (hb1 : w.cell? ⟨bx, 1, none⟩ = some (.slice b n cap2)) :
    Calls Tryd.prog 46 #[.agg #[.string ⟨x.toArray⟩, .string ⟨y.toArray⟩, .slice an ns.length cn], .pointer (some ⟨bx, 0, none⟩)] w fun e w' => e = .returned (.bool (!ivB cs (⟨x.toArray⟩, ⟨y.toArray⟩, ns))) ∧ Below w.heap.size w w' := by
  have HS := hid hs
  have HN := hid hn
  have H0 := hid h0
  have HNS := hid hns
  have hbl := lt_of_cell hb0
  dsimp only at hbl
  have HB0 : Hid (Below w.heap.size w (w.alloc (.cells #[.string ⟨x.toArray⟩, .string ⟨y.toArray⟩, .slice an ns.length cn] 28))) := (Below.refl _ _).alloc (Nat.le_refl _) _
  clear hs hn h0 hns
  go_enter Tryd.func46, Tryd.ntmps46
  go_wp2_with fail
  refine (InstanceValid_impl a an cap b n cap2 cn cs x y ns _ H0.out hcap hx hy HNS.out (HS.out.below HB0.out) (HN.out.below HB0.out)).mono ?_
  rintro e w5 ⟨rfl, hb⟩
  have HB5 : Hid (Below w.heap.size w w5) := HB0.out.trans (hb.mono HB0.out.size)
  clear hb
  have HV : Hid (∃ v, v = ivB cs (⟨x.toArray⟩, ⟨y.toArray⟩, ns)) := ⟨_, rfl⟩
  obtain ⟨v, hv⟩ := HV.out
  rw [← hv]
  have HVV := hid hv
  clear hv
  go_wp2
  go_ret
  exact ⟨ret_bool (by rw [← HVV.out]), HB5.out⟩
def IxPost (b : Bool) (w : World) (e : Ending) (w' : World) : Prop := ∃ i : Int, e = .returned (.int .i64 i) ∧ decide (0 ≤ i) = b ∧ Below w.heap.size w w'
set_option maxHeartbeats 4000000 in
theorem indexW_any (a b : Option Addr) (cap cap2 : Nat) (cs : List BB) (is : List II) (bx : Nat) (w : World) (h0 : tot cs + cs.length ≤ 1048577) (h1 : itot is + is.length ≤ 1048576) (hcap : cs.length ≤ cap) (hs : SP w (.slice a cs.length cap) cs) (hi : SI w (.slice b is.length cap2) is) (hb0 : w.cell? ⟨bx, 0, none⟩ = some (.slice a cs.length cap)) (hb1 : w.cell? ⟨bx, 1, none⟩ = some (.slice b is.length cap2)) :
    Calls Tryd.prog 67 #[.slice b is.length cap2, .func (.func 46) #[] #[.pointer (some ⟨bx, 0, none⟩)]] w (IxPost (!is.all (ivB cs)) w) := by
  have HBD : Hid (∀ (k : Nat) (p : II), is[k]? = some p → p.1.size ≤ 1048576 ∧ p.2.1.size ≤ 1048576 ∧ tot p.2.2 + p.2.2.length ≤ 1048576) := ibnd h1
  have hil : is.length ≤ 1048576 := by omega
  have HS := hid hs
  have HI := hid hi
  have H0 := hid h0
  have HX0 := hid hb0
  have HX1 := hid hb1
  clear hs hi h0 h1 hb0 hb1
  go_enter Tryd.func67, Tryd.ntmps67
  go_wp2_with fail
  go_loopg [5, 8] is.length (fun q j i wr => ∃ k : Nat, k ≤ is.length ∧ is.length - k ≤ q ∧ i = .int .i64 k ∧ Hid (∀ (j : Nat) (p : II), j < k → is[j]? = some p → ivB cs p = true) ∧ Below w.heap.size w wr)
  case atStart => exact ⟨0, Nat.zero_le _, by simp, rfl, (fun j p h => by omega), Below.refl _ _⟩
  case round =>
    obtain ⟨k, hk, hq, rfl, hgd, hb⟩ := hrel
    have HB := hid hb
    have HGD := hid hgd
    have hbz := hb.size
    clear hb hgd
    by_cases hlt : k < is.length
    · obtain ⟨⟨x, y, ns⟩, hp⟩ : ∃ p, is[k]? = some p := ⟨_, List.getElem?_eq_getElem hlt⟩
      obtain ⟨b2, off, an, cn, rfl, k0, k1, k2, hsn, -, -, hbl⟩ := si_at (HI.out.below HB.out) hp
      obtain ⟨hs1, hs2, hs3⟩ := HBD.out k _ hp
      obtain ⟨x, rfl, hxl⟩ := of_bytes x
      obtain ⟨y, rfl, hyl⟩ := of_bytes y
      have HP := hid hp
      dsimp only at hs1 hs2 hs3
      have hxl2 : x.length ≤ 1048576 := by omega
      have hyl2 : y.length ≤ 1048576 := by omega
      have HSN := hid hsn
      have HS3 := hid hs3
      clear hp hs1 hs2 hs3 hxl hyl hsn
      go_wp2_with fail
      refine (cloW_any a (some ⟨b2, off, none⟩) an cap cap2 cn cs is.length x y ns bx _ H0.out hcap hxl2 hyl2 HS3.out (HS.out.below HB.out) HSN.out ((HB.out.cell (lt_of_cell HX0.out)).trans HX0.out) ((HB.out.cell (lt_of_cell HX1.out)).trans HX1.out)).mono ?_
      rintro e w5 ⟨rfl, hb⟩
      have HB5 : Hid (Below w.heap.size w w5) := HB.out.trans (hb.mono HB.out.size)
      clear hb k0 k1 k2
      cases hv : ivB cs (⟨x.toArray⟩, ⟨y.toArray⟩, ns) with
      | false =>
        have HR : Hid (is.all (ivB cs) = false) := all_no HP.out hv
        clear hv
        go_wp2
        go_ret
        exact ⟨_, rfl, by rw [HR.out]; simp, HB5.out⟩
      | true =>
        have HN : Hid (∀ (j : Nat) (p : II), j < k + 1 → is[j]? = some p → ivB cs p = true) := step_all HGD.out HP.out hv
        clear hv
        go_wp2_with fail
        go_roundg (is.length - (k + 1))
        case measure => omega
        case rel => exact ⟨k + 1, by omega, by omega, by go_num, HN.out, HB5.out⟩
    · have hke : k = is.length := by omega
      have HA : Hid (is.all (ivB cs) = true) := all_yes (by rw [← hke]; exact HGD.out)
      clear hke
      go_wp2_with fail
      go_ret
      exact ⟨_, rfl, by rw [HA.out]; rfl, HB.out⟩
theorem containsW_any (a b : Option Addr) (cap cap2 : Nat) (cs : List BB) (is : List II) (bx : Nat) (w : World) (h0 : tot cs + cs.length ≤ 1048577) (h1 : itot is + is.length ≤ 1048576) (hcap : cs.length ≤ cap) (hs : SP w (.slice a cs.length cap) cs) (hi : SI w (.slice b is.length cap2) is) (hb0 : w.cell? ⟨bx, 0, none⟩ = some (.slice a cs.length cap)) (hb1 : w.cell? ⟨bx, 1, none⟩ = some (.slice b is.length cap2)) :
    Calls Tryd.prog 45 #[.slice b is.length cap2, .func (.func 46) #[] #[.pointer (some ⟨bx, 0, none⟩)]] w fun e w' => e = .returned (.bool (!is.all (ivB cs))) ∧ Below w.heap.size w w' := by
  have HC := hid (indexW_any a b cap cap2 cs is bx w h0 h1 hcap hs hi hb0 hb1)
  clear hs hi h0 h1 hb0 hb1
  go_enter Tryd.func45, Tryd.ntmps45
  go_wp2_with fail
  refine HC.out.mono ?_
  rintro e w1 ⟨i, rfl, hd, hb⟩
  have HD := hid hd
  have HB := hid hb
  clear hb hd
  go_wp2
  go_ret
  exact ⟨ret_bool HD.out, HB.out⟩
set_option maxHeartbeats 2000000 in
theorem WorldValid_impl (a b : Option Addr) (cap cap2 : Nat) (cs : List BB) (is : List II) (w : World) (h0 : tot cs + cs.length ≤ 1048577) (h1 : itot is + is.length ≤ 1048576) (hcap : cs.length ≤ cap) (hs : SP w (.slice a cs.length cap) cs) (hi : SI w (.slice b is.length cap2) is) :
    Calls Tryd.prog 22 #[.agg #[.slice a cs.length cap, .slice b is.length cap2]] w fun e w' => e = .returned (.bool (wvB cs is)) ∧ Below w.heap.size w w' := by
  have HS := hid hs
  have HI := hid hi
  have H0 := hid h0
  have H1 := hid h1
  have hil : is.length ≤ 1048576 := by omega
  have hmf : ∀ (fn : Fn) (first cap : Array Value) (w : World), (Instr.makeFunc fn first cap).run Tryd.prog w = .ok (.func fn first cap) w := fun _ _ _ _ => rfl
  clear hs hi h0 h1
  go_enter Tryd.func22, Tryd.ntmps22
  go_wp2_with fail
  have HBW : Hid (Below w.heap.size w (w.alloc (.cells #[.slice a cs.length cap, .slice b is.length cap2] 42))) := (Below.refl _ _).alloc (Nat.le_refl _) _
  have HX1 : Hid ((w.alloc (.cells #[.slice a cs.length cap, .slice b is.length cap2] 42)).heap[w.heap.size]? = some (.cells #[.slice a cs.length cap, .slice b is.length cap2] 42 (0, 0))) := heap_alloc_new _ _
  generalize w.alloc (.cells #[.slice a cs.length cap, .slice b is.length cap2] 42) = W at *
  have hzb := HBW.out.size
  have hzs := lt_of_heap HX1.out
  refine (classesOk_any a cap b is.length cap2 cs W H0.out hcap (HS.out.below HBW.out)).mono ?_
  rintro e w1 ⟨rfl, hb⟩
  have HB1 := hid hb
  obtain ⟨p10, p11⟩ := keep2 HX1.out hb
  have P10 := hid p10
  have P11 := hid p11
  clear hb
  cases hv : clB cs with
  | false =>
    have HR : Hid (wvB cs is = false) := wv1 hv
    clear hv
    go_wp2
    go_ret
    exact ⟨ret_bool HR.out.symm, HBW.out.trans (HB1.out.mono HBW.out.size)⟩
  | true =>
    have HV := hid hv
    clear hv
    by_cases h10 : is.length ≤ 10
    · go_wp2_with fail
      refine (containsW_any a b cap cap2 cs is w.heap.size w1 H0.out H1.out hcap ((HS.out.below HBW.out).below HB1.out) ((HI.out.below HBW.out).below HB1.out) P10.out P11.out).mono ?_
      rintro e w2 ⟨rfl, hb⟩
      have HB2 : Hid (Below W.heap.size W w2) := HB1.out.trans (hb.mono HB1.out.size)
      clear hb
      cases ha : is.all (ivB cs) with
      | false =>
        have HR : Hid (wvB cs is = false) := wv3 ha
        clear ha
        go_wp2
        go_ret
        exact ⟨ret_bool HR.out.symm, HBW.out.trans (HB2.out.mono HBW.out.size)⟩
      | true =>
        have HR : Hid (wvB cs is = true) := wv4 HV.out h10 ha
        clear ha
        go_wp2
        go_ret
        exact ⟨ret_bool HR.out.symm, HBW.out.trans (HB2.out.mono HBW.out.size)⟩
    · have HR : Hid (wvB cs is = false) := wv2 (by omega)
      go_wp2
      go_ret
      exact ⟨ret_bool HR.out.symm, HBW.out.trans (HB1.out.mono HBW.out.size)⟩
end WV
end Go.Proofs.YtbdnhcfebgkpdaaDoor
