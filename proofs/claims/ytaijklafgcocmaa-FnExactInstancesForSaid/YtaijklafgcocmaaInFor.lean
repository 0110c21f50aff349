/- InstancesFor of both sides. Conditions: the sizes are those typed. -/
import Derived.Test.YtaijklafgcocmaaAmong
set_option linter.unusedVariables false
set_option linter.unusedSimpArgs false
set_option maxRecDepth 100000
namespace Go.Proofs.Ytaijklafgcocmaa
open Go.RowKit Known Classes Ty IV
open WV HC ListS Among
namespace InFor
def all : II → Bool := fun _ => true
/-- what InstancesFor lists -/
noncomputable def inL (cs : List BB) (is : List II) (xc : ByteArray) : List Int := if hcB cs is xc then selB all is xc is.length else []
theorem inL_no {cs : List BB} {is : List II} {x : ByteArray} (h : hcB cs is x = false) : inL cs is x = [] := by unfold inL; rw [h]; rfl
theorem inL_yes {cs : List BB} {is : List II} {x : ByteArray} (h : hcB cs is x = true) : inL cs is x = selB all is x is.length := by unfold inL; rw [h]; rfl
theorem inL_len (cs : List BB) (is : List II) (x : ByteArray) : (inL cs is x).length ≤ is.length := by
  unfold inL
  split
  · exact selB_len _ _ _ _
  · simp
theorem clo_all (x y : ByteArray) (v : Value) (w : World) : Calls Try.prog 67 #[.agg #[.string x, .string y, v]] w fun e w' => e = .returned (.bool true) ∧ Below w.heap.size w w' := by
  go_enter Try.func67, Try.ntmps67
  go_wp2
  go_ret
  exact ⟨rfl, (Below.refl _ _).alloc (Nat.le_refl _) _⟩
set_option maxHeartbeats 8000000 in
theorem InstancesFor_spec (a b : Option Addr) (cap cap2 : Nat) (cs : List BB) (is : List II) (xc : ByteArray) (w : World) (h0 : tot cs + cs.length ≤ 1048576) (h1 : itot is + is.length ≤ 1048576) (hcap : cs.length ≤ cap) (hs : SP w (.slice a cs.length cap) cs) (hi : SI w (.slice b is.length cap2) is) :
    Calls Try.prog 29 #[.agg #[.slice a cs.length cap, .slice b is.length cap2], .string xc] w (LB w (inL cs is xc) (hcB cs is xc)) := by
  have hil : is.length ≤ 1048576 := by omega
  have HS := hid hs
  have HI := hid hi
  have H0 := hid h0
  have H1 := hid h1
  clear hs hi h0 h1
  go_enter Try.func29, Try.ntmps29
  go_wp2_with fail
  have HBW : Hid (Below w.heap.size w ((w.alloc (.cells #[.slice a cs.length cap, .slice b is.length cap2] 37)).alloc (.cells #[] 3))) := ((Below.refl _ _).alloc (Nat.le_refl _) _).alloc (by simp) _
  have HX1 : Hid (((w.alloc (.cells #[.slice a cs.length cap, .slice b is.length cap2] 37)).alloc (.cells #[] 3)).heap[w.heap.size]? = some (.cells #[.slice a cs.length cap, .slice b is.length cap2] 37 (0, 0))) := hb_alloc (heap_alloc_new _ _) _
  have HO0 : Hid (((w.alloc (.cells #[.slice a cs.length cap, .slice b is.length cap2] 37)).alloc (.cells #[] 3)).ownsRow w.heap.size 3 1 (.slice (some ⟨w.heap.size + 1, 0, none⟩) ([] : List Int).length 0) ([] : List Int).length (ints [])) := by
    have := World.ownsRow_made (base := w.heap.size) (e := 3) (size := 1) (w.alloc (.cells #[.slice a cs.length cap, .slice b is.length cap2] 37)) #[] 0 (by simp) (by simp [maxLen]) rfl
    show World.ownsRow _ _ _ _ _ _ _
    simpa [ints] using this
  generalize (w.alloc (.cells #[.slice a cs.length cap, .slice b is.length cap2] 37)).alloc (.cells #[] 3) = W at *
  have hzb := HBW.out.size
  have hzs := lt_of_heap HX1.out
  refine (HasClass_spec a b cap cap2 cs is xc W H0.out H1.out hcap (HS.out.below HBW.out) (HI.out.below HBW.out)).mono ?_
  rintro e w1 ⟨rfl, hb⟩
  have HB1 := hid hb
  have HO1 : Hid (w1.ownsRow w.heap.size 3 1 (.slice (some ⟨w.heap.size + 1, 0, none⟩) ([] : List Int).length 0) ([] : List Int).length (ints [])) := row_below hb HO0.out
  obtain ⟨p10, p11⟩ := keep2 HX1.out hb
  clear hb
  cases hv : hcB cs is xc with
  | false =>
    have HT : Hid (inL cs is xc = []) := inL_no hv
    have HV := hid hv
    clear hv
    go_wp2
    go_ret2
    exact ⟨.slice (some ⟨w.heap.size + 1, 0, none⟩) 0 0, by rw [HV.out]; rfl, by rw [HT.out]; exact HO1.out, HBW.out.trans (HB1.out.mono HBW.out.size)⟩
  | true =>
    have HT : Hid (inL cs is xc = selB all is xc is.length) := inL_yes hv
    have HV := hid hv
    clear hv
    have hwl : w.heap.size ≤ W.heap.size := hzb
    go_wp2_with fail
    clear p10 p11
    go_loopg [6, 18] is.length (fun q o i wr => ∃ (k g cp : Nat) (xv : List Int), k ≤ is.length ∧ is.length - k ≤ q ∧ Hid (selB (all) is xc k = xv) ∧ o = .slice (some ⟨g, 0, none⟩) xv.length cp ∧ i = .int .i64 k ∧ xv.length ≤ k ∧ Hid (wr.ownsRow w.heap.size 3 1 (.slice (some ⟨g, 0, none⟩) xv.length cp) xv.length (ints xv)) ∧ Below w.heap.size w wr)
    case atStart => exact ⟨0, _, 0, [], Nat.zero_le _, by simp, rfl, rfl, rfl, by simp, HO1.out, HBW.out.trans (HB1.out.mono HBW.out.size)⟩
    case round =>
      obtain ⟨k, g, cp, xv, hk, hq, hxv, rfl, rfl, hxl, hO, hb⟩ := hrel
      have HXV := hid hxv.out
      have HO := hid hO.out
      have HB := hid hb
      have hbz := hb.size
      have hxl2 : xv.length ≤ k + 1 := by omega
      clear hxv hO hb
      by_cases hlt : k < is.length
      · obtain ⟨⟨x, y, ns⟩, hp⟩ : ∃ p, is[k]? = some p := ⟨_, List.getElem?_eq_getElem hlt⟩
        obtain ⟨b2, off, an, cn, rfl, k0, k1, k2, hsn, -, -, hbl⟩ := si_at (HI.out.below HB.out) hp
        have HP := hid hp
        have HSN := hid hsn
        clear hp hsn
        have HBA : Hid (Below w.heap.size w (wr.alloc (.cells #[.string x, .string y, .slice an ns.length cn] 42))) := HB.out.alloc (by omega) _
        have HOA : Hid ((wr.alloc (.cells #[.string x, .string y, .slice an ns.length cn] 42)).ownsRow w.heap.size 3 1 (.slice (some ⟨g, 0, none⟩) xv.length cp) xv.length (ints xv)) := World.ownsRow.alloc HO.out _
        by_cases hxe : x = xc
        · have he := str_eq hxe
          have HSX : Hid (selB (all) is xc (k + 1) = xv ++ [(k : Int)]) := by
            show _ = _
            rw [selB_step HP.out, HXV.out]
            simp [hxe, all]
          clear hxe
          go_wp2_with (first
            | (at_builtin; refine app_push_at 56 3 (.int .i64 0) 1 8 Try.underlying56 infoInt rfl (by decide) rfl _ _ rfl w.heap.size (.slice (some ⟨g, 0, none⟩) xv.length cp) xv.length (ints xv) rfl (World.ownsRow.alloc HOA.out _) (wr.heap.size + 1) 1 [.int .i64 (k : Int)] (by simp [go_sem]) rfl (news_one (heap_cell (hb_new2 _ _ _ _ rfl) 0)) (by simp [Value.oneCell']) (by unfold maxLen; omega) (by omega) (by first | omega | (simp; omega)) ?_))
          intro g1 cap1 w8 hown hgr hlie
          simp only [World.size_alloc, Value.ownBlock, Option.some.injEq] at hlie
          have hg0 := (row_block HO.out).1
          have hzz := HBA.out.size
          have HB8 : Hid (Below w.heap.size w w8) := (HBA.out.alloc (by first | omega | (simp; omega)) _).grown hgr (by first | omega | (simp; omega)) (by simp [Value.ownBlock]; omega)
          have HO8 : Hid (w8.ownsRow w.heap.size 3 1 (.slice (some ⟨g1, 0, none⟩) (xv ++ [(k : Int)]).length cap1) (xv ++ [(k : Int)]).length (ints (xv ++ [(k : Int)]))) := by
            show World.ownsRow _ _ _ _ _ _ _
            rw [List.length_append]
            simpa [ints] using hown
          clear hown hgr hzz
          go_wp2_with fail
          go_roundg (is.length - (k + 1))
          case measure => omega
          case rel => exact ⟨k + 1, g1, cap1, xv ++ [(k : Int)], by omega, by omega, HSX, by simp, by go_num, by simp; omega, HO8.out, HB8.out⟩
        · have he := str_ne hxe
          have HSX : Hid (selB (all) is xc (k + 1) = xv) := by
            show _ = _
            rw [selB_step HP.out, HXV.out]
            simp [hxe]
          clear hxe
          go_wp2_with fail
          go_roundg (is.length - (k + 1))
          case measure => omega
          case rel => exact ⟨k + 1, g, cp, xv, by omega, by omega, HSX, rfl, by go_num, hxl2, HOA.out, HBA.out⟩
      · have hke : k = is.length := by omega
        have HR : Hid (selB (all) is xc is.length = xv) := by show _ = _; rw [← HXV.out, hke]
        clear hke
        go_wp2_with fail
        go_ret2
        exact ⟨.slice (some ⟨g, 0, none⟩) xv.length cp, by rw [HV.out]; rfl, by rw [HT.out, HR.out]; exact HO.out, HB.out⟩
def AP (w : World) (xs : List Int) (e : Ending) (w' : World) : Prop := ∃ g cap, e = .returned (.slice (some ⟨g, 0, none⟩) xs.length cap) ∧ w'.ownsRow w.heap.size 3 1 (.slice (some ⟨g, 0, none⟩) xs.length cap) xs.length (ints xs) ∧ Below w.heap.size w w'
set_option maxHeartbeats 8000000 in
theorem among_all (a b : Option Addr) (cap cap2 : Nat) (cs : List BB) (is : List II) (xc : ByteArray) (w : World) (h1 : itot is + is.length ≤ 1048576) (hi : SI w (.slice b is.length cap2) is) :
    Calls Try.prog 66 #[.agg #[.slice a cs.length cap, .slice b is.length cap2], .string xc, .func (.func 67) #[] #[]] w (AP w (selB all is xc is.length)) := by
  have hil : is.length ≤ 1048576 := by omega
  have HI := hid hi
  have H1 := hid h1
  clear hi h1
  go_enter Try.func66, Try.ntmps66
  go_wp2_with fail
  have HBW : Hid (Below w.heap.size w (w.alloc (.cells #[.slice a cs.length cap, .slice b is.length cap2] 37))) := (Below.refl _ _).alloc (Nat.le_refl _) _
  have HX1 : Hid ((w.alloc (.cells #[.slice a cs.length cap, .slice b is.length cap2] 37)).heap[w.heap.size]? = some (.cells #[.slice a cs.length cap, .slice b is.length cap2] 37 (0, 0))) := heap_alloc_new _ _
  have HO0 : Hid (((w.alloc (.cells #[.slice a cs.length cap, .slice b is.length cap2] 37)).alloc (.cells #[] 3)).ownsRow (w.alloc (.cells #[.slice a cs.length cap, .slice b is.length cap2] 37)).heap.size 3 1 (.slice (some ⟨(w.alloc (.cells #[.slice a cs.length cap, .slice b is.length cap2] 37)).heap.size, 0, none⟩) ([] : List Int).length 0) ([] : List Int).length (ints [])) := by
    have := World.ownsRow_made (base := (w.alloc (.cells #[.slice a cs.length cap, .slice b is.length cap2] 37)).heap.size) (e := 3) (size := 1) (w.alloc (.cells #[.slice a cs.length cap, .slice b is.length cap2] 37)) #[] 0 (by simp) (by simp [maxLen]) rfl
    show World.ownsRow _ _ _ _ _ _ _
    simpa [ints] using this
  have hsz1 : w.heap.size + 1 = (w.alloc (.cells #[.slice a cs.length cap, .slice b is.length cap2] 37)).heap.size := by simp
  rw [hsz1]
  clear hsz1
  generalize w.alloc (.cells #[.slice a cs.length cap, .slice b is.length cap2] 37) = W at *
  have hzb := HBW.out.size
  have hzs := lt_of_heap HX1.out
  have HB0 : Hid (Below W.heap.size W (W.alloc (.cells #[] 3))) := (Below.refl _ _).alloc (Nat.le_refl _) _
  go_loopg [7, 14] is.length (fun q o i wr => ∃ (k g cp : Nat) (xv : List Int), k ≤ is.length ∧ is.length - k ≤ q ∧ Hid (selB (all) is xc k = xv) ∧ o = .slice (some ⟨g, 0, none⟩) xv.length cp ∧ i = .int .i64 k ∧ xv.length ≤ k ∧ Hid (wr.ownsRow W.heap.size 3 1 (.slice (some ⟨g, 0, none⟩) xv.length cp) xv.length (ints xv)) ∧ Below W.heap.size W wr)
  case atStart => exact ⟨0, _, 0, [], Nat.zero_le _, by simp, rfl, rfl, rfl, by simp, HO0.out, HB0.out⟩
  case round =>
    obtain ⟨k, g, cp, xv, hk, hq, hxv, rfl, rfl, hxl, hO, hb⟩ := hrel
    have HXV := hid hxv.out
    have HO := hid hO.out
    have HB := hid hb
    have hbz := hb.size
    have hxl2 : xv.length ≤ k + 1 := by omega
    clear hxv hO hb
    by_cases hlt : k < is.length
    · obtain ⟨⟨x, y, ns⟩, hp⟩ : ∃ p, is[k]? = some p := ⟨_, List.getElem?_eq_getElem hlt⟩
      obtain ⟨b2, off, an, cn, rfl, k0, k1, k2, hsn, -, -, hbl⟩ := si_at ((HI.out.below HBW.out).below HB.out) hp
      have HP := hid hp
      have HSN := hid hsn
      clear hp hsn
      have HBA : Hid (Below W.heap.size W (wr.alloc (.cells #[.string x, .string y, .slice an ns.length cn] 42))) := HB.out.alloc (by omega) _
      have HOA : Hid ((wr.alloc (.cells #[.string x, .string y, .slice an ns.length cn] 42)).ownsRow W.heap.size 3 1 (.slice (some ⟨g, 0, none⟩) xv.length cp) xv.length (ints xv)) := World.ownsRow.alloc HO.out _
      by_cases hxe : x = xc
      · have he := str_eq hxe
        have HSX : Hid (selB (all) is xc (k + 1) = xv ++ [(k : Int)]) := by
          show _ = _
          rw [selB_step HP.out, HXV.out]
          simp [hxe, all]
        clear hxe
        have HBV := HBA
        have HOV := HOA
        go_wp2_with fail
        refine (clo_all x y (.slice an ns.length cn) _).mono ?_
        rintro e w5 ⟨rfl, hb⟩
        have HB5 : Hid (Below W.heap.size W w5) := HBA.out.trans (hb.mono HBA.out.size)
        have HO5 : Hid (w5.ownsRow W.heap.size 3 1 (.slice (some ⟨g, 0, none⟩) xv.length cp) xv.length (ints xv)) := row_below hb HOA.out
        clear hb
        have hz5 := HB5.out.size
        go_wp2_with (first
          | (at_builtin; refine app_push_at 56 3 (.int .i64 0) 1 8 Try.underlying56 infoInt rfl (by decide) rfl _ _ rfl W.heap.size (.slice (some ⟨g, 0, none⟩) xv.length cp) xv.length (ints xv) rfl (World.ownsRow.alloc HO5.out _) w5.heap.size 1 [.int .i64 (k : Int)] rfl rfl (news_one (heap_cell (heap_alloc_new _ _) 0)) (by simp [Value.oneCell']) (by unfold maxLen; omega) (by omega) (by first | omega | (simp; omega)) ?_))
        intro g1 cap1 w8 hown hgr hlie
        simp only [World.size_alloc, Value.ownBlock, Option.some.injEq] at hlie
        have hg0 := (row_block HO.out).1
        have hzz := HB5.out.size
        have HB8 : Hid (Below W.heap.size W w8) := (HB5.out.alloc (by first | omega | (simp; omega)) _).grown hgr (by first | omega | (simp; omega)) (by simp [Value.ownBlock]; omega)
        have HO8 : Hid (w8.ownsRow W.heap.size 3 1 (.slice (some ⟨g1, 0, none⟩) (xv ++ [(k : Int)]).length cap1) (xv ++ [(k : Int)]).length (ints (xv ++ [(k : Int)]))) := by
          show World.ownsRow _ _ _ _ _ _ _
          rw [List.length_append]
          simpa [ints] using hown
        clear hown hgr hzz
        go_wp2_with fail
        go_roundg (is.length - (k + 1))
        case measure => omega
        case rel => exact ⟨k + 1, g1, cap1, xv ++ [(k : Int)], by omega, by omega, HSX, by simp, by go_num, by simp; omega, HO8.out, HB8.out⟩
      · have he := str_ne hxe
        have HSX : Hid (selB (all) is xc (k + 1) = xv) := by
          show _ = _
          rw [selB_step HP.out, HXV.out]
          simp [hxe]
        clear hxe
        go_wp2_with fail
        go_roundg (is.length - (k + 1))
        case measure => omega
        case rel => exact ⟨k + 1, g, cp, xv, by omega, by omega, HSX, rfl, by go_num, hxl2, HOA.out, HBA.out⟩
    · have hke : k = is.length := by omega
      have HR : Hid (selB (all) is xc is.length = xv) := by show _ = _; rw [← HXV.out, hke]
      clear hke
      go_wp2_with fail
      go_ret
      exact ⟨g, cp, by rw [HR.out]; rfl, by rw [HR.out]; exact (row_mono HO.out HBW.out.size), HBW.out.trans (HB.out.mono HBW.out.size)⟩
set_option maxHeartbeats 4000000 in
theorem InstancesFor_impl (a b : Option Addr) (cap cap2 : Nat) (cs : List BB) (is : List II) (xc : ByteArray) (w : World) (h0 : tot cs + cs.length ≤ 1048576) (h1 : itot is + is.length ≤ 1048576) (hcap : cs.length ≤ cap) (hs : SP w (.slice a cs.length cap) cs) (hi : SI w (.slice b is.length cap2) is) :
    Calls Try.prog 30 #[.agg #[.slice a cs.length cap, .slice b is.length cap2], .string xc] w (LB w (inL cs is xc) (hcB cs is xc)) := by
  have HS := hid hs
  have HI := hid hi
  have H0 := hid h0
  have H1 := hid h1
  clear hs hi h0 h1
  go_enter Try.func30, Try.ntmps30
  go_wp2_with fail
  have HBW : Hid (Below w.heap.size w (w.alloc (.cells #[.slice a cs.length cap, .slice b is.length cap2] 37))) := (Below.refl _ _).alloc (Nat.le_refl _) _
  have HX1 : Hid ((w.alloc (.cells #[.slice a cs.length cap, .slice b is.length cap2] 37)).heap[w.heap.size]? = some (.cells #[.slice a cs.length cap, .slice b is.length cap2] 37 (0, 0))) := heap_alloc_new _ _
  generalize w.alloc (.cells #[.slice a cs.length cap, .slice b is.length cap2] 37) = W at *
  have hzb := HBW.out.size
  have hzs := lt_of_heap HX1.out
  refine (HasClass_impl a b cap cap2 cs is xc W H0.out H1.out hcap (HS.out.below HBW.out) (HI.out.below HBW.out)).mono ?_
  rintro e w1 ⟨rfl, hb⟩
  have HB1 := hid hb
  obtain ⟨p10, p11⟩ := keep2 HX1.out hb
  clear hb
  cases hv : hcB cs is xc with
  | false =>
    have HT : Hid (inL cs is xc = []) := inL_no hv
    have HV := hid hv
    clear hv
    go_wp2
    go_ret2
    exact ⟨.slice none 0 0, by rw [HV.out]; rfl, by rw [HT.out]; exact row_nil _ _, HBW.out.trans (HB1.out.mono HBW.out.size)⟩
  | true =>
    have HT : Hid (inL cs is xc = selB all is xc is.length) := inL_yes hv
    have HV := hid hv
    clear hv
    go_wp2_with fail
    refine (among_all a b cap cap2 cs is xc w1 H1.out ((HI.out.below HBW.out).below HB1.out)).mono ?_
    rintro e w2 ⟨g, cp, rfl, hr, hb⟩
    have HB2 : Hid (Below W.heap.size W w2) := HB1.out.trans (hb.mono HB1.out.size)
    have HR := hid hr
    have hz1 := HB1.out.size
    clear hb hr
    go_wp2
    go_ret2
    exact ⟨.slice (some ⟨g, 0, none⟩) (selB all is xc is.length).length cp, by rw [HV.out]; rfl, by rw [HT.out]; exact row_mono HR.out (by omega), HBW.out.trans (HB2.out.mono HBW.out.size)⟩
end InFor
end Go.Proofs.Ytaijklafgcocmaa
