/- MakeDict of both sides. Conditions: texts of at most 2^20 bytes together. -/
import Derived.Test.YtaapdhacnbhohaaDoorDText
set_option linter.unusedVariables false
set_option linter.unusedSimpArgs false
set_option maxRecDepth 100000
namespace Go.Proofs.YtaapdhacnbhohaaDoor
open Go.RowKit Dt ListS
namespace MkDict
def chrI (i : Int) : UInt8 := UInt8.ofNat (48 + i.toNat)
theorem chrI_dig {i : Int} (h0 : 0 ≤ i) (h9 : i ≤ 9) : dig (chrI i) ∧ dv (chrI i) = i := by
  have e : (chrI i).toNat = 48 + i.toNat := by unfold chrI; simp; omega
  refine ⟨?_, by unfold dv; omega⟩
  unfold dig
  rw [UInt8.le_iff_toNat_le, UInt8.le_iff_toNat_le, e]
  simp; omega
def okD (x : ByteArray) : Bool := (dt x.data.toList).isSome
/-- what MakeDict makes -/
def md (i : Int) (xs : List ByteArray) : Option (List UInt8) :=
  if 0 ≤ i ∧ i ≤ 9 ∧ xs.length ≤ 3 ∧ xs.all okD = true ∧ (DText.jtext [chrI i] xs).length ≤ 1200 then some (DText.jtext [chrI i] xs) else none
def MPost (w : World) (o : Option (List UInt8)) (e : Ending) (w' : World) : Prop :=
  e = .returned (.tuple #[.string ⟨(o.getD []).toArray⟩, .bool o.isSome]) ∧ Below w.heap.size w w'
theorem md_out {i : Int} {xs : List ByteArray} (h : ¬ (0 ≤ i ∧ i ≤ 9 ∧ xs.length ≤ 3)) : md i xs = none := by
  unfold md; rw [if_neg (fun hh => h ⟨hh.1, hh.2.1, hh.2.2.1⟩)]
theorem md_bad {i : Int} {xs : List ByteArray} {k : Nat} {x : ByteArray} (hk : xs[k]? = some x) (h : okD x = false) : md i xs = none := by
  unfold md; rw [if_neg (fun hh => by
    have := List.all_eq_true.1 hh.2.2.2.1 x (List.mem_of_getElem? hk)
    rw [h] at this; simp at this)]
theorem md_long {i : Int} {xs : List ByteArray} (h : 1200 < (DText.jtext [chrI i] xs).length) : md i xs = none := by
  unfold md; rw [if_neg (fun hh => by have := hh.2.2.2.2; omega)]
theorem md_yes {i : Int} {xs : List ByteArray} (h0 : 0 ≤ i) (h9 : i ≤ 9) (h3 : xs.length ≤ 3) (ha : xs.all okD = true) (h : (DText.jtext [chrI i] xs).length ≤ 1200) : md i xs = some (DText.jtext [chrI i] xs) := by
  unfold md; rw [if_pos ⟨h0, h9, h3, ha, h⟩]
theorem all_take {xs : List ByteArray} {k : Nat} {x : ByteArray} (h : (xs.take k).all okD = true) (hk : xs[k]? = some x) (hx : okD x = true) : (xs.take (k + 1)).all okD = true := by
  obtain ⟨hlt, rfl⟩ := List.getElem?_eq_some_iff.1 hk
  rw [List.take_succ_eq_append_getElem hlt, List.all_append, h]
  simpa using hx
theorem okD_size {x : ByteArray} (h : okD x = true) : x.data.toList.length ≤ 1200 := by
  unfold okD at h
  cases hx : dt x.data.toList with
  | none => rw [hx] at h; simp at h
  | some p => obtain ⟨c, k⟩ := p; exact (dt_some hx).2.2.2.2
/-- the forest of valid parts -/
theorem forest : ∀ (xs : List ByteArray), xs.all okD = true → ∃ A : F, A.len = xs.length ∧ DText.ftexts A = xs ∧ A.WF ∧ A.ct.length ≤ xs.length * 1201 := by
  intro xs
  induction xs with
  | nil => intro _; exact ⟨.nil, rfl, rfl, trivial, by simp [F.ct]⟩
  | cons x xs ih =>
    intro h
    simp only [List.all_cons, Bool.and_eq_true] at h
    obtain ⟨A, h1, h2, h3, h4⟩ := ih h.2
    have hx := h.1
    unfold okD at hx
    cases hd : dt x.data.toList with
    | none => rw [hd] at hx; simp at hx
    | some p =>
      obtain ⟨c, k⟩ := p
      obtain ⟨e1, e2, e3, e4, e5⟩ := dt_some hd
      refine ⟨.cons c k A, by simp [F.len, h1], ?_, ⟨e2, e3, e4, h3⟩, ?_⟩
      · have : x = ⟨(dtext c k).toArray⟩ := by apply ByteArray.ext; rw [← e1]
        simp [DText.ftexts, h2, ← this]
      · have e6 : (dtext c k).length ≤ 1200 := by rw [← e1]; exact e5
        simp only [F.ct, dtext, List.length_cons, List.length_append] at e6 ⊢
        omega
theorem itoa_i {i : Int} (hd : dig (chrI i)) (hv : dv (chrI i) = i) : ∀ w, Calls Tryd.prog 66 #[.int .i64 i] w fun e w' => e = .returned (.string ⟨[chrI i].toArray⟩) ∧ w = w' := fun w => by
  have h := DText.itoa_dig (chrI i) hd w
  rw [hv] at h
  exact h.mono fun e w' ⟨h1, h2⟩ => ⟨h1, h2.symm⟩
theorem jtext_le {i : Int} {xs : List ByteArray} (h3 : xs.length ≤ 3) (ha : xs.all okD = true) : (DText.jtext [chrI i] xs).length ≤ 3605 ∧ (Lib.join (xs.map (·.data.toList)) [44]).length ≤ 3603 := by
  obtain ⟨A, h1, h2, _, h4⟩ := forest xs ha
  have e := DText.jtext_dict (chrI i) A
  rw [h2] at e
  have j := DText.join_le A
  rw [h2] at j
  refine ⟨?_, by omega⟩
  rw [e]
  have := wrap_len A.ct
  simp [dtext]
  omega

set_option maxHeartbeats 4000000 in
theorem MakeDict_impl (i : Int) (xs : List ByteArray) (v : Value) (base : Nat) (w : World) (hi : -9223372036854775808 ≤ i ∧ i ≤ 9223372036854775807) (hlen : xs.length ≤ 1048576) (hsz : ∀ (k : Nat) (x : ByteArray), xs[k]? = some x → x.size ≤ 2147483648) (h : w.ownsRow base 9 1 v xs.length (strs xs)) :
    Calls Tryd.prog 27 #[.int .i64 i, v] w (MPost w (md i xs)) := by
  obtain ⟨a, cap, rfl⟩ := ListS.row_slice h
  have HR := hid h
  have HSZ := hid hsz
  obtain ⟨hi1, hi2⟩ := hi
  clear h hsz
  by_cases h0 : 0 ≤ i
  rotate_left
  · have HN : Hid (md i xs = none) := md_out (fun h => h0 h.1)
    have h0' : i < 0 := by omega
    go_enter Tryd.func27, Tryd.ntmps27
    go_wp2
    go_ret2
    exact ⟨by rw [HN.out]; rfl, Below.refl _ _⟩
  by_cases h9 : i ≤ 9
  rotate_left
  · have HN : Hid (md i xs = none) := md_out (fun h => h9 h.2.1)
    have h9' : 9 < i := by omega
    go_enter Tryd.func27, Tryd.ntmps27
    go_wp2
    go_ret2
    exact ⟨by rw [HN.out]; rfl, Below.refl _ _⟩
  by_cases h3 : xs.length ≤ 3
  rotate_left
  · have HN : Hid (md i xs = none) := md_out (fun h => h3 h.2.2)
    have h3' : decide ((3 : Int) < (xs.length : Int)) = true := decide_eq_true (by omega)
    go_enter Tryd.func27, Tryd.ntmps27
    go_wp2
    go_ret2
    exact ⟨by rw [HN.out]; rfl, Below.refl _ _⟩
  have h3' : decide ((3 : Int) < (xs.length : Int)) = false := decide_eq_false (by omega)
  go_enter Tryd.func27, Tryd.ntmps27
  go_wp2_with fail
  go_loopg [22] xs.length (fun q iv wr => ∃ k : Nat, k ≤ xs.length ∧ xs.length - k ≤ q ∧ iv = .int .i64 k ∧ Hid ((xs.take k).all okD = true) ∧ Below w.heap.size w wr)
  case atStart => exact ⟨0, Nat.zero_le _, by simp, rfl, rfl, Below.refl _ _⟩
  case round =>
    obtain ⟨k, hk, hq, rfl, hall, hb⟩ := hrel
    have HB := hid hb
    clear hb
    by_cases hlt : k < xs.length
    · obtain ⟨x, hx⟩ : ∃ x, xs[k]? = some x := ⟨_, List.getElem?_eq_getElem hlt⟩
      obtain ⟨g0, cap0, e0, -, hg0, cs0, hc0, hd0⟩ := row_at HR.out (by omega)
      cases e0
      have k0 : wr.cell? ⟨g0, k, none⟩ = some (.string x) := (HB.out.cell (p := ⟨g0, k, none⟩) hg0).trans ((heap_cell hc0 _).trans (hd0 _ _ (by simp [strs, hx])))
      have hxs := HSZ.out k x hx
      have HX := hid hx
      obtain ⟨l, hxl⟩ : ∃ l : List UInt8, x = ⟨l.toArray⟩ := ⟨x.data.toList, rfl⟩
      have hll : l.length ≤ 2147483648 := by rw [hxl] at hxs; have hq : l.toArray.size ≤ 2147483648 := hxs; simpa using hq
      clear hd0 hc0 hx
      cases hv : okD x with
      | false =>
        have HN : Hid (md i xs = none) := md_bad HX.out hv
        have hv2 : Hid ((dt l).isSome = false) := by show _ = _; rw [hxl] at hv; exact hv
        subst hxl
        clear hv hxs
        go_wp2_with (first | (go_at_call 21; refine (DictI.DictValid_impl l _ hll).mono ?_; rintro e w1 ⟨rfl, hb⟩; rw [hv2.out]; have HB1 : Hid (Below w.heap.size w w1) := HB.out.trans (hb.mono HB.out.size); clear hb))
        go_ret2
        exact ⟨by rw [HN.out]; rfl, HB1.out⟩
      | true =>
        have hv2 : Hid ((dt l).isSome = true) := by show _ = _; rw [hxl] at hv; exact hv
        have HA1 := hid (all_take hall.out HX.out hv)
        subst hxl
        clear hv hxs
        go_wp2_with (first | (go_at_call 21; refine (DictI.DictValid_impl l _ hll).mono ?_; rintro e w1 ⟨rfl, hb⟩; rw [hv2.out]; have HB1 : Hid (Below w.heap.size w w1) := HB.out.trans (hb.mono HB.out.size); clear hb))
        go_roundg (gk - 1)
        case measure => omega
        case rel => exact ⟨k + 1, by omega, by omega, by go_num, HA1.out, HB1.out⟩
    · obtain rfl : k = xs.length := by omega
      have HALL : Hid (xs.all okD = true) := by have := hall.out; rw [List.take_length] at this; exact this
      obtain ⟨hjl, hjl2⟩ := jtext_le (i := i) h3 HALL.out
      obtain ⟨hdg, hdv⟩ := chrI_dig h0 h9
      have HD := hid hdg
      have HDV := hid hdv
      have hio := itoa_i (i := i) HD.out HDV.out
      have HR1 := hid (row_keptP (P := fun _ => True) (keepsP_below HB.out (Nat.le_refl _)) HR.out (fun g h => trivial))
      have HIO := hid hio
      clear hall hdg hdv hio
      by_cases hl : (DText.jtext [chrI i] xs).length ≤ 1200
      · have HY := hid (md_yes h0 h9 h3 HALL.out hl)
        obtain ⟨d, hd⟩ : ∃ d, DText.jtext [chrI i] xs = d := ⟨_, rfl⟩
        have HDD := hid hd
        rw [hd] at hl hjl
        clear hd
        go_wp2_with (first
          | (go_at_call 66; refine (HIO.out _).mono ?_; rintro e w' ⟨rfl, rfl⟩)
          | (go_at_call 69; refine (DText.joined_any [chrI i] xs (.slice a xs.length cap) base _ HR1.out (by omega) (by simp) (by omega)).mono ?_; rintro e w1 ⟨rfl, hb⟩; rw [HDD.out]; have HB1 : Hid (Below w.heap.size w w1) := HB.out.trans (hb.mono HB.out.size); clear hb))
        go_ret2
        exact ⟨by rw [HY.out, HDD.out]; rfl, HB1.out⟩
      · have HY := hid (md_long (i := i) (xs := xs) (by omega))
        obtain ⟨d, hd⟩ : ∃ d, DText.jtext [chrI i] xs = d := ⟨_, rfl⟩
        have HDD := hid hd
        rw [hd] at hl hjl
        have hl2 : 1200 < d.length := by omega
        clear hd hl
        go_wp2_with (first
          | (go_at_call 66; refine (HIO.out _).mono ?_; rintro e w' ⟨rfl, rfl⟩)
          | (go_at_call 69; refine (DText.joined_any [chrI i] xs (.slice a xs.length cap) base _ HR1.out (by omega) (by simp) (by omega)).mono ?_; rintro e w1 ⟨rfl, hb⟩; rw [HDD.out]; have HB1 : Hid (Below w.heap.size w w1) := HB.out.trans (hb.mono HB.out.size); clear hb))
        go_ret2
        exact ⟨by rw [HY.out]; rfl, HB1.out⟩
def in09 (i : Int) : Bool := decide (0 ≤ i ∧ i ≤ 9)
theorem l1In_09 (i : Int) (w : World) : Calls Tryd.prog 70 #[.int .i64 i, .int .i64 0, .int .i64 9] w fun e w' => e = .returned (.bool (in09 i)) ∧ w = w' := by
  by_cases h1 : 0 ≤ i
  · by_cases h2 : i ≤ 9
    · have E : Hid (in09 i = true) := decide_eq_true ⟨h1, h2⟩
      go_enter Tryd.func70, Tryd.ntmps70
      go_wp2
      go_ret
      exact ⟨by rw [E.out]; rfl, rfl⟩
    · have E : Hid (in09 i = false) := decide_eq_false (by omega)
      go_enter Tryd.func70, Tryd.ntmps70
      go_wp2
      go_ret
      exact ⟨by rw [E.out]; rfl, rfl⟩
  · have E : Hid (in09 i = false) := decide_eq_false (by omega)
    go_enter Tryd.func70, Tryd.ntmps70
    go_wp2
    go_ret
    exact ⟨by rw [E.out]; rfl, rfl⟩
/-- what the loop knows: w the call's world; the node's block is nb -/
def LR (w : World) (i : Int) (xs : List ByteArray) (nb : Nat) (q : Nat) (iv : Value) (wr : World) : Prop :=
  ∃ (A : F) (a : Option Addr) (cap : Nat) (ps : List Value), A.len ≤ xs.length ∧ xs.length - A.len ≤ q ∧ iv = .int .i64 A.len ∧ Hid (xs.take A.len = DText.ftexts A) ∧ A.WF ∧ A.ct.length ≤ A.len * 1201 ∧ Hid ((xs.take A.len).all okD = true) ∧
    wr.heap[nb]? = some (.cells #[.int .i64 i, .slice a A.len cap] 85 (0, 0)) ∧ wr.ownsRow w.heap.size 85 2 (.slice a A.len cap) A.len ps ∧ (∀ p, a = some p → p.block ≠ nb) ∧ SDs (ex (nb + 1) (.slice a A.len cap)) wr A ps ∧ Below w.heap.size w wr ∧ nb < wr.heap.size
set_option maxHeartbeats 4000000 in
theorem MakeDict_spec (i : Int) (xs : List ByteArray) (v : Value) (base : Nat) (w : World) (hi : -9223372036854775808 ≤ i ∧ i ≤ 9223372036854775807) (hlen : xs.length ≤ 1048576) (hsz : ∀ (k : Nat) (x : ByteArray), xs[k]? = some x → x.size ≤ 2147483648) (h : w.ownsRow base 9 1 v xs.length (strs xs)) :
    Calls Tryd.prog 28 #[.int .i64 i, v] w (MPost w (md i xs)) := by
  obtain ⟨a, cap, rfl⟩ := ListS.row_slice h
  have HR := hid h
  have HSZ := hid hsz
  obtain ⟨hi1, hi2⟩ := hi
  clear h hsz
  by_cases h09 : 0 ≤ i ∧ i ≤ 9
  rotate_left
  · have HN : Hid (md i xs = none) := md_out (fun h => h09 ⟨h.1, h.2.1⟩)
    have hin : Hid (in09 i = false) := decide_eq_false h09
    clear h09
    go_enter Tryd.func28, Tryd.ntmps28
    go_wp2_with (first | (go_at_call 70; refine (l1In_09 i _).mono ?_; rintro e w' ⟨rfl, rfl⟩; rw [hin.out]))
    go_ret2
    exact ⟨by rw [HN.out]; rfl, Below.refl _ _⟩
  have hin : Hid (in09 i = true) := decide_eq_true h09
  obtain ⟨h0, h9⟩ := h09
  by_cases h3 : xs.length ≤ 3
  rotate_left
  · have HN : Hid (md i xs = none) := md_out (fun h => h3 h.2.2)
    have h3' : decide ((3 : Int) < (xs.length : Int)) = true := decide_eq_true (by omega)
    go_enter Tryd.func28, Tryd.ntmps28
    go_wp2_with (first | (go_at_call 70; refine (l1In_09 i _).mono ?_; rintro e w' ⟨rfl, rfl⟩; rw [hin.out]))
    go_ret2
    exact ⟨by rw [HN.out]; rfl, Below.refl _ _⟩
  have h3' : decide ((3 : Int) < (xs.length : Int)) = false := decide_eq_false (by omega)
  go_enter Tryd.func28, Tryd.ntmps28
  go_wp2_with (first | (go_at_call 70; refine (l1In_09 i _).mono ?_; rintro e w' ⟨rfl, rfl⟩; rw [hin.out]))
  go_loopg [25] xs.length (fun q iv wr => LR w i xs (w.heap.size + 1) q iv wr)
  case atStart => exact ⟨.nil, some ⟨w.heap.size, 0, none⟩, 0, [], by simp [F.len], by simp [F.len], rfl, rfl, trivial, by simp [F.ct], rfl, hb_new2 w _ _ _ rfl, (World.ownsRow_made w #[] 0 (Nat.le_refl _) (by simp [maxLen]) rfl).alloc _, fun p h => by cases h; show w.heap.size ≠ w.heap.size + 1; omega, rfl, ((Below.refl _ _).alloc (Nat.le_refl _) _).alloc (by simp) _, by simp⟩
  case round =>
    obtain ⟨A, a1, cap1, ps, hk, hq, rfl, htk, hwf, hct, hall, hnb, hrow, hna, hsd, hb, hz⟩ := hrel
    have HB := hid hb
    have HNB := hid hnb
    have HROW := hid hrow
    have HSD := hid hsd
    have HNA := hid hna
    have kn0 := heap_cell hnb 0
    have kn1 := heap_cell hnb 1
    have fn1 := heap_free hnb 1
    clear hb hnb hrow hsd hna
    by_cases hlt : A.len < xs.length
    · obtain ⟨x, hx⟩ : ∃ x, xs[A.len]? = some x := ⟨_, List.getElem?_eq_getElem hlt⟩
      obtain ⟨g0, cap0, e0, -, hg0, cs0, hc0, hd0⟩ := row_at HR.out (by omega)
      cases e0
      have k0 : wr.cell? ⟨g0, A.len, none⟩ = some (.string x) := (HB.out.cell (p := ⟨g0, A.len, none⟩) hg0).trans ((heap_cell hc0 _).trans (hd0 _ _ (by simp [strs, hx])))
      have hxs := HSZ.out A.len x hx
      have HX := hid hx
      obtain ⟨l, hxl⟩ : ∃ l : List UInt8, x = ⟨l.toArray⟩ := ⟨x.data.toList, rfl⟩
      have hll : l.length ≤ 2147483648 := by rw [hxl] at hxs; have hq : l.toArray.size ≤ 2147483648 := hxs; simpa using hq
      clear hd0 hc0 hx
      cases hv : dt l with
      | none =>
        have HN : Hid (md i xs = none) := md_bad HX.out (by unfold okD; rw [hxl]; show (dt l).isSome = false; rw [hv]; rfl)
        have ho := L6.l6Read_none l wr hll hv
        subst hxl
        clear hv hxs
        go_wp2_with fail
        refine ho.mono ?_
        rintro e w1 ⟨rfl, hb⟩
        have HB1 : Hid (Below w.heap.size w w1) := HB.out.trans (hb.mono HB.out.size)
        have hz1 := hb.size
        have hzw := HB.out.size
        clear hb ho kn0 kn1 fn1 k0
        go_wp2
        go_ret2
        exact ⟨by rw [HN.out]; rfl, HB1.out.alloc (by omega) _⟩
      | some pr =>
        obtain ⟨c1, kk1⟩ := pr
        obtain ⟨e1, hd1, hk31, hw1, hl1200⟩ := dt_some hv
        have HOK : Hid (okD x = true) := by show _ = _; unfold okD; rw [hxl]; show (dt l).isSome = true; rw [hv]; rfl
        have ho := L6.l6Read_some l c1 kk1 wr hv
        have hdt : Hid (l = dtext c1 kk1) := e1
        have HWF1 : Hid (dig c1 ∧ kk1.len ≤ 3 ∧ kk1.WF) := ⟨hd1, hk31, hw1⟩
        have hlx : (dtext c1 kk1).length ≤ 1200 := by rw [← e1]; exact hl1200
        subst hxl
        clear hv hxs e1 hd1 hk31 hw1
        go_wp2_with fail
        refine ho.mono ?_
        rintro e w1 ⟨sl, rfl, hn, hb⟩
        obtain ⟨-, p1, n1, c1', rfl⟩ := hn.form
        have HB1 : Hid (Below w.heap.size w w1) := HB.out.trans (hb.mono HB.out.size)
        have hz1 := hb.size
        have hzw := HB.out.size
        have hn1 := below_heap hb hz HNB.out
        have kn1 := heap_cell hn1 1
        have fn1 := heap_free hn1 1
        have hzn : w.heap.size + 1 < w1.heap.size := by omega
        have HN1 := hid hn1
        have HBW := hid hb
        have HN := hid hn
        clear hb hn ho kn0 k0 hn1
        go_wp2_with (first
          | (at_builtin; go_loud (refine app_push_at 83 85 (.agg #[.int .i64 0, .slice .none 0 0]) 2 32 Tryd.underlying83 L6.infoSD rfl (by decide) rfl _ _ rfl w.heap.size (.slice a1 A.len cap1) A.len ps rfl (World.ownsRow.alloc (World.ownsRow.alloc (row_keptP (P := fun _ => True) (keepsP_below HBW.out (Nat.le_refl _)) HROW.out (fun g h => trivial)) _) _) (w1.heap.size + 1) 1 [.int .i64 (dv c1), .slice p1 n1 c1'] rfl rfl (news_two (heap_cell (hb_new2 _ _ _ _ rfl) 0) (heap_cell (hb_new2 _ _ _ _ rfl) 1)) (by simp [Value.oneCell']) (by unfold maxLen; omega) (by omega) (by simp; omega) ?_)))
        intro g4 cap4 w4 hown hg hlie
        (try simp only [World.size_alloc] at hlie)
        have hnr : ∀ g, (Value.ownBlock (.slice a1 A.len cap1)) = some g → w.heap.size ≤ g ∧ g < wr.heap.size ∧ g ≠ w.heap.size + 1 := fun g h => ⟨(Go.Proofs.YtaapdhacnbhohaaDoor.row_own HROW.out g h).1, (Go.Proofs.YtaapdhacnbhohaaDoor.row_own HROW.out g h).2, fun e => by
          cases ha : a1 with
          | none => rw [ha] at h; simp [Value.ownBlock] at h
          | some p => rw [ha] at h; simp [Value.ownBlock] at h; exact HNA.out p ha (by rw [h]; exact e)⟩
        have hn4 := grown_keep hg (hb_alloc (hb_alloc HN1.out _) _) (fun e => (hnr _ e.symm).2.2 rfl)
        have kn1 := heap_cell hn4 1
        have fn1 := heap_free hn4 1
        have hz4 : w1.heap.size + 2 ≤ w4.heap.size := by have := hg.size; simpa using this
        have hg4 : g4 ≠ w.heap.size + 1 := by
          intro e
          rcases hlie with h | h
          · exact (hnr _ h).2.2 e
          · omega
        have HB4 : Hid (Below w.heap.size w w4) := ((HB1.out.alloc (by omega) _).alloc (by simp; omega) _).grown hg (by simp; omega) (fun g h => (hnr g h).1)
        have HP := hid (sds_push (lo := w.heap.size + 1 + 1) (w1' := (w1.alloc (.cells #[.int .i64 (dv c1), .slice p1 n1 c1'] 85)).alloc (.cells #[.int .i64 (dv c1), .slice p1 n1 c1'] 85)) (v' := .slice (some ⟨g4, 0, .none⟩) (A.len + 1) cap4) (row := none) HSD.out (fun g h => (hnr g h).2.1) ⟨HBW.out.os, HBW.out.tape, HBW.out.output, HBW.out.size, fun k hk _ => HBW.out.block k hk⟩ (fun g h => by simp at h) HN.out (by omega) ((keepsP_alloc _ _).trans (keepsP_alloc _ _) (by simp)) (by simp; omega) hg (fun g h => by simp [Value.ownBlock] at h; subst h; rcases hlie with h | h; exact .inl h; exact .inr (by simp; omega)))
        have HO4 := hid hown
        have HN4 := hid hn4
        clear hown hg hn4 hlie hnr
        go_wp2
        go_roundg (gk - 1)
        case measure => omega
        case rel =>
          have e1 : (A.app (.cons c1 kk1 .nil)).len = A.len + 1 := by rw [F.len_app]; rfl
          obtain ⟨q1, q2, q3⟩ := HWF1.out
          have hx1 : xs.take (A.len + 1) = DText.ftexts A ++ [⟨l.toArray⟩] := by
            obtain ⟨hlt2, hxx⟩ := List.getElem?_eq_some_iff.1 HX.out
            rw [List.take_succ_eq_append_getElem hlt2, hxx, htk.out]
          refine ⟨A.app (.cons c1 kk1 .nil), some ⟨g4, 0, .none⟩, cap4, ps ++ [.int .i64 (dv c1), .slice p1 n1 c1'], by omega, by omega, by rw [e1]; go_num, ?_, (F.WF_app _ _).2 ⟨hwf, q1, q2, q3, trivial⟩, ?_, ?_, ?_, ?_, fun p h => by cases h; exact hg4, ?_, HB4.out.setCell (by show w.heap.size ≤ w.heap.size + 1; omega) _, by simp; omega⟩
          · show _ = _
            rw [e1, hx1, DText.ftexts_app, hdt.out]; rfl
          · rw [e1, F.ct_app, List.length_append]
            simp only [F.ct, dtext, List.length_cons, List.append_nil] at hlx ⊢
            omega
          · show _ = _
            rw [e1]; exact all_take hall.out HX.out HOK.out
          · rw [e1]; exact heap_set HN4.out 1 _
          · rw [e1]; exact row_set HO4.out _ (by show g4 ≠ w.heap.size + 1; exact hg4)
          · rw [e1]; exact KeepsP.sds (keepsP_set _ _ _ (fun h => absurd h.1 (by show ¬ (w.heap.size + 1 + 1 ≤ w.heap.size + 1); omega))) HP.out
    · have hke : xs.length ≤ A.len := by omega
      have HXA : Hid (xs = DText.ftexts A) := by
        show _ = _
        have := htk.out
        rw [List.take_of_length_le hke] at this
        exact this
      have HALL : Hid (xs.all okD = true) := by have := hall.out; rw [List.take_of_length_le hke] at this; exact this
      obtain ⟨hjl, -⟩ := jtext_le (i := i) h3 HALL.out
      obtain ⟨hdg, hdv⟩ := chrI_dig h0 h9
      have HJ : Hid (DText.jtext [chrI i] xs = dtext (chrI i) A) := by show _ = _; rw [HXA.out, DText.jtext_dict]
      have hdl : (dtext (chrI i) A).length ≤ 3605 := by rw [← HJ.out]; exact hjl
      have HD := hid hdg
      have HDV := hid hdv
      have hsdd : SD (fun x => w.heap.size + 1 + 1 ≤ x ∨ x < wr.heap.size) wr (chrI i) A (.int .i64 i) (.slice a1 A.len cap1) := ⟨by rw [hdv], ps, rowP_of HROW.out (fun g h => .inr (Go.Proofs.YtaapdhacnbhohaaDoor.row_own HROW.out g h).2), HSD.out.mono (fun k hk h => .inr hk)⟩
      have HSDD := hid hsdd
      have HWF := hid hwf
      clear hall hdg hdv htk hsdd hwf
      have ht := fun wx hx => DText.l6Text_any (A.size + 1) (chrI i) A (.int .i64 i) (.slice a1 A.len cap1) (fun x => w.heap.size + 1 + 1 ≤ x ∨ x < wr.heap.size) wx (by omega) (by omega) HD.out (by omega) HWF.out hx
      have HT := hid ht
      clear ht
      by_cases hl : (DText.jtext [chrI i] xs).length ≤ 1200
      · have HY := hid (md_yes h0 h9 h3 HALL.out hl)
        rw [HJ.out] at hl
        obtain ⟨d, hd⟩ : ∃ d, dtext (chrI i) A = d := ⟨_, rfl⟩
        have HDD := hid hd
        rw [hd] at hl hdl
        clear hd
        go_wp2_with (first
          | (go_at_call 64; refine (HT.out _ HSDD.out).mono ?_; rintro e w1 ⟨rfl, hb⟩; rw [HDD.out]; have HB1 : Hid (Below w.heap.size w w1) := HB.out.trans (hb.mono HB.out.size); clear hb))
        go_ret2
        exact ⟨by rw [HY.out, HJ.out, HDD.out]; rfl, HB1.out⟩
      · have HY := hid (md_long (i := i) (xs := xs) (by omega))
        rw [HJ.out] at hl
        obtain ⟨d, hd⟩ : ∃ d, dtext (chrI i) A = d := ⟨_, rfl⟩
        have HDD := hid hd
        rw [hd] at hl hdl
        have hl2 : 1200 < d.length := by omega
        clear hd hl
        go_wp2_with (first
          | (go_at_call 64; refine (HT.out _ HSDD.out).mono ?_; rintro e w1 ⟨rfl, hb⟩; rw [HDD.out]; have HB1 : Hid (Below w.heap.size w w1) := HB.out.trans (hb.mono HB.out.size); clear hb))
        go_ret2
        exact ⟨by rw [HY.out]; rfl, HB1.out⟩
end MkDict
end Go.Proofs.YtaapdhacnbhohaaDoor
