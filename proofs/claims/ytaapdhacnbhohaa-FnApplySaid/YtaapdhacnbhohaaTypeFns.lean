/- HeadOf, DepthOf and SizeOf of the program and of the reference. Conditions: the text is at most 2^31 bytes long. -/
import Derived.Test.YtaapdhacnbhohaaImplT
import Derived.Test.YtaapdhacnbhohaaSizes
import Derived.Test.YtaapdhacnbhohaaDepthI
set_option linter.unusedVariables false
set_option linter.unusedSimpArgs false
set_option maxRecDepth 100000
namespace Go.Proofs.Ytaapdhacnbhohaa
open Go.RowKit Ty
attribute [local go_sem] take1

def headL (l : List UInt8) : List UInt8 := match ty l with | some t => [t.head] | none => []
def depthI (l : List UInt8) : Int := match ty l with | some t => t.depth | none => -1
def sizeI (l : List UInt8) : Int := match ty l with | some t => t.size | none => -1
theorem headL_len (l : List UInt8) : (headL l).length ≤ 1 := by unfold headL; split <;> simp

theorem HeadOf_spec (l : List UInt8) (w : World) (hl : l.length ≤ 2147483648) : Calls Try.prog 26 #[.string ⟨l.toArray⟩] w fun e w' => e = .returned (.string ⟨(headL l).toArray⟩) ∧ Below w.heap.size w w' := by
  have ho := TypeValid_spec l w (by unfold maxLen; omega)
  cases h : ty l with
  | none =>
    have hh : Hid (headL l = []) := by show headL l = []; simp [headL, h]
    rw [h] at ho
    clear h
    go_enter Try.func26, Try.ntmps26
    go_wp2_with (first
      | (go_at_call 27; refine ho.mono ?_; rintro e w1 ⟨rfl, hb⟩; have HB := hid hb; clear hb))
    go_ret
    exact ⟨by rw [hh.out]; rfl, HB.out⟩
  | some t =>
    have hh : Hid (headL l = [t.head]) := by show headL l = [t.head]; simp [headL, h]
    rw [h] at ho
    obtain ⟨hl2, _, _⟩ := ty_some h
    obtain ⟨r, hr⟩ := t.text_cons
    obtain rfl : l = t.head :: r := hl2.trans hr
    clear h hl2 hr
    go_enter Try.func26, Try.ntmps26
    go_wp2_with (first
      | (go_at_call 27; refine ho.mono ?_; rintro e w1 ⟨rfl, hb⟩; have HB := hid hb; clear hb))
    go_ret
    exact ⟨by rw [hh.out]; rfl, HB.out⟩

theorem HeadOf_impl (l : List UInt8) (w : World) (hl : l.length ≤ 2147483648) : Calls Try.prog 23 #[.string ⟨l.toArray⟩] w fun e w' => e = .returned (.string ⟨(headL l).toArray⟩) ∧ Below w.heap.size w w' := by
  have ho := TypeValid_impl l w (by unfold maxLen; omega)
  cases h : ty l with
  | none =>
    have hh : Hid (headL l = []) := by show headL l = []; simp [headL, h]
    rw [h] at ho
    clear h
    go_enter Try.func23, Try.ntmps23
    go_wp2_with (first
      | (go_at_call 20; refine ho.mono ?_; rintro e w1 ⟨rfl, hb⟩; have HB := hid hb; clear hb))
    go_ret
    exact ⟨by rw [hh.out]; rfl, HB.out⟩
  | some t =>
    have hh : Hid (headL l = [t.head]) := by show headL l = [t.head]; simp [headL, h]
    rw [h] at ho
    obtain ⟨hl2, _, _⟩ := ty_some h
    obtain ⟨r, hr⟩ := t.text_cons
    obtain rfl : l = t.head :: r := hl2.trans hr
    clear h hl2 hr
    go_enter Try.func23, Try.ntmps23
    go_wp2_with (first
      | (go_at_call 20; refine ho.mono ?_; rintro e w1 ⟨rfl, hb⟩; have HB := hid hb; clear hb))
    go_ret
    exact ⟨by rw [hh.out]; rfl, HB.out⟩

theorem DepthOf_spec (l : List UInt8) (w : World) (hl : l.length ≤ 2147483648) : Calls Try.prog 16 #[.string ⟨l.toArray⟩] w fun e w' => e = .returned (.int .i64 (depthI l)) ∧ Below w.heap.size w w' := by
  cases h : ty l with
  | none =>
    have hh : Hid (depthI l = -1) := by show depthI l = -1; simp [depthI, h]
    have ho := l1Read_none l w (by unfold maxLen; omega) h
    clear h
    go_enter Try.func16, Try.ntmps16
    go_wp2_with (first
      | (go_at_call 54; refine ho.mono ?_; rintro e w1 ⟨rfl, hb⟩; have HB := hid hb; have hsz := hb.size; clear hb))
    go_ret
    exact ⟨ret_int hh.out.symm, HB.out.alloc (by omega) _⟩
  | some t =>
    have hh : Hid (depthI l = t.depth) := by show depthI l = _; simp [depthI, h]
    have ho := l1Read_some l t w h
    have hsize : t.size ≤ 1000 := by
      obtain ⟨e, hw, hl2⟩ := ty_some h
      have := count_size t hw
      rw [e] at hl2
      omega
    clear h
    go_enter Try.func16, Try.ntmps16
    go_wp2_with (first
      | (go_at_call 54; refine ho.mono ?_; rintro e w1 ⟨hd, sl, rfl, hn, hb⟩; obtain ⟨rfl, sa, sn, sc, rfl⟩ := hn.form; have HN := hid (hn.mono (Nat.zero_le _)); have HB := hid hb; have hsz := hb.size; clear hb hn)
      | (go_at_call 57; refine (l1Depth_any t _ _ _ ((keeps_alloc _ _ _).snode HN.out) hsize).mono ?_; rintro e w2 ⟨rfl, hb⟩; have HB2 := hid hb; clear hb))
    go_ret
    exact ⟨ret_int hh.out.symm, (HB.out.alloc (by omega) _).trans (HB2.out.mono (by simp; omega))⟩

theorem SizeOf_spec (l : List UInt8) (w : World) (hl : l.length ≤ 2147483648) : Calls Try.prog 14 #[.string ⟨l.toArray⟩] w fun e w' => e = .returned (.int .i64 (sizeI l)) ∧ Below w.heap.size w w' := by
  cases h : ty l with
  | none =>
    have hh : Hid (sizeI l = -1) := by show sizeI l = -1; simp [sizeI, h]
    have ho := l1Read_none l w (by unfold maxLen; omega) h
    clear h
    go_enter Try.func14, Try.ntmps14
    go_wp2_with (first
      | (go_at_call 54; refine ho.mono ?_; rintro e w1 ⟨rfl, hb⟩; have HB := hid hb; have hsz := hb.size; clear hb))
    go_ret
    exact ⟨ret_int hh.out.symm, HB.out.alloc (by omega) _⟩
  | some t =>
    have hh : Hid (sizeI l = t.size) := by show sizeI l = _; simp [sizeI, h]
    have ho := l1Read_some l t w h
    have hsize : t.size ≤ 1000 := by
      obtain ⟨e, hw, hl2⟩ := ty_some h
      have := count_size t hw
      rw [e] at hl2
      omega
    clear h
    go_enter Try.func14, Try.ntmps14
    go_wp2_with (first
      | (go_at_call 54; refine ho.mono ?_; rintro e w1 ⟨hd, sl, rfl, hn, hb⟩; obtain ⟨rfl, sa, sn, sc, rfl⟩ := hn.form; have HN := hid (hn.mono (Nat.zero_le _)); have HB := hid hb; have hsz := hb.size; clear hb hn)
      | (go_at_call 55; refine (l1Size_any t _ _ _ ((keeps_alloc _ _ _).snode HN.out) hsize).mono ?_; rintro e w2 ⟨rfl, hb⟩; have HB2 := hid hb; clear hb))
    go_ret
    exact ⟨ret_int hh.out.symm, (HB.out.alloc (by omega) _).trans (HB2.out.mono (by simp; omega))⟩

theorem DepthOf_impl (l : List UInt8) (w : World) (hl : l.length ≤ 2147483648) : Calls Try.prog 15 #[.string ⟨l.toArray⟩] w fun e w' => e = .returned (.int .i64 (depthI l)) ∧ Below w.heap.size w w' := by
  have ho := TypeValid_impl l w (by unfold maxLen; omega)
  cases h : ty l with
  | none =>
    have hh : Hid (depthI l = -1) := by show depthI l = -1; simp [depthI, h]
    rw [h] at ho
    clear h
    go_enter Try.func15, Try.ntmps15
    go_wp2_with (first
      | (go_at_call 20; refine ho.mono ?_; rintro e w1 ⟨rfl, hb⟩; have HB := hid hb; clear hb))
    go_ret
    exact ⟨ret_int hh.out.symm, HB.out⟩
  | some t =>
    have hh : Hid ((dscan l).1 = depthI l) := by
      obtain ⟨e, hw, _⟩ := ty_some h
      show _ = depthI l
      simp only [depthI, h]
      rw [e, scan_depth hw]
    rw [h] at ho
    clear h
    go_enter Try.func15, Try.ntmps15
    go_wp2_with (first
      | (go_at_call 20; refine ho.mono ?_; rintro e w1 ⟨rfl, hb⟩; have HB := hid hb; clear hb)
      | (go_at_call 56; refine (depth_any l _ hl).mono ?_; rintro e w1 ⟨rfl, rfl⟩; rw [hh.out]))
    go_ret
    exact ⟨rfl, HB.out⟩

theorem SizeOf_impl (l : List UInt8) (w : World) (hl : l.length ≤ 2147483648) : Calls Try.prog 13 #[.string ⟨l.toArray⟩] w fun e w' => e = .returned (.int .i64 (sizeI l)) ∧ Below w.heap.size w w' := by
  have ho := TypeValid_impl l w (by unfold maxLen; omega)
  cases h : ty l with
  | none =>
    have hh : Hid (sizeI l = -1) := by show sizeI l = -1; simp [sizeI, h]
    rw [h] at ho
    clear h
    go_enter Try.func13, Try.ntmps13
    go_wp2_with (first
      | (go_at_call 20; refine ho.mono ?_; rintro e w1 ⟨rfl, hb⟩; have HB := hid hb; clear hb))
    go_ret
    exact ⟨ret_int hh.out.symm, HB.out⟩
  | some t =>
    have hc : (l.length : Int) - l.count 40 - l.count 41 - l.count 44 = sizeI l ∧ l.count 40 + l.count 41 + l.count 44 ≤ l.length := by
      obtain ⟨e, hw, _⟩ := ty_some h
      have := count_size t hw
      simp only [sizeI, h]
      rw [e]
      omega
    obtain ⟨n40, h40⟩ : ∃ n, n = l.count 40 := ⟨_, rfl⟩
    obtain ⟨n41, h41⟩ : ∃ n, n = l.count 41 := ⟨_, rfl⟩
    obtain ⟨n44, h44⟩ : ∃ n, n = l.count 44 := ⟨_, rfl⟩
    rw [← h40, ← h41, ← h44] at hc
    obtain ⟨hc1, hc2⟩ := hc
    have C1 := hid hc1
    have H40 := hid h40
    have H41 := hid h41
    have H44 := hid h44
    rw [h] at ho
    clear h hc1 h40 h41 h44
    go_enter Try.func13, Try.ntmps13
    go_wp2_with (first
      | (go_at_call 20; refine ho.mono ?_; rintro e w1 ⟨rfl, hb⟩; have HB := hid hb; clear hb)
      | (go_at_call 53; refine (sCount _ _ _).mono ?_; rintro e w1 ⟨rfl, rfl⟩; first | rw [← H40.out] | rw [← H41.out] | rw [← H44.out]))
    go_ret
    exact ⟨ret_int C1.out, HB.out⟩

end Go.Proofs.Ytaapdhacnbhohaa
