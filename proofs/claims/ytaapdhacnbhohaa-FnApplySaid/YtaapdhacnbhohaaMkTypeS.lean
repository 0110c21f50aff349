/- The reference's MakeType. Conditions: texts of at most 2^20 bytes together. -/
import Derived.Test.YtaapdhacnbhohaaMkType
set_option linter.unusedVariables false
set_option linter.unusedSimpArgs false
set_option maxRecDepth 100000
namespace Go.Proofs.Ytaapdhacnbhohaa
open Go.RowKit Ty ListS Parts Go.Proofs.Ytaapdhacnbhohaa.Text
namespace MkType
theorem infoSN : (Try.prog.info? 74).map (fun i => (i.zero, i.size, i.bytes)) = some (some (.agg #[.int .u8 0, .slice none 0 0]), 2, 32) := by kernel_rfl
theorem mkT_bad {c : UInt8} {xs : List ByteArray} {k : Nat} {x : ByteArray} (hk : xs[k]? = some x) (h : okT x = false) : mkT [c] xs = none := mkT_no (fun hh => by
  have := List.all_eq_true.1 hh.1 x (List.mem_of_getElem? hk)
  rw [h] at this; simp at this)
theorem all_take {xs : List ByteArray} {k : Nat} {x : ByteArray} (h : (xs.take k).all okT = true) (hk : xs[k]? = some x) (hx : okT x = true) : (xs.take (k + 1)).all okT = true := by
  obtain ⟨hlt, rfl⟩ := List.getElem?_eq_some_iff.1 hk
  rw [List.take_succ_eq_append_getElem hlt, List.all_append, h]
  simpa using hx
theorem pre_le {A : List Ty} (h2 : A.length ≤ 2) (hw : ∀ t ∈ A, t.WF ∧ t.text.length ≤ 60) : (pre A).length ≤ 122 := by
  match A, h2, hw with
  | [], _, _ => simp [pre]
  | [u], _, hw =>
    have := (hw u (by simp)).2
    simp [pre]; omega
  | [u, v], _, hw =>
    have := (hw u (by simp)).2
    have := (hw v (by simp)).2
    simp [pre]; omega
  | u :: v :: y :: r, h, _ => simp at h
theorem mtext_le {c : UInt8} {A : List Ty} (h2 : A.length ≤ 2) (hw : ∀ t ∈ A, t.WF ∧ t.text.length ≤ 60) : (mtext c (texts A)).length ≤ 1000 := by
  unfold mtext
  split
  · simp
  · rename_i h
    have hA : A ≠ [] := by intro e; rw [e] at h; simp [texts] at h
    have j := congrArg List.length (join_pre A hA)
    have j3 := pre_le h2 hw
    simp only [List.length_cons] at j
    simp only [List.length_cons, List.length_append, List.length_nil]
    omega
theorem getc (c : UInt8) (h : 0 < (ByteArray.mk #[c]).size) : (ByteArray.mk #[c])[0]'h = c := rfl
attribute [local go_sem] getc
/-- what the loop knows: w the call's world; the node's block is nb -/
def LR (w : World) (c : UInt8) (xs : List ByteArray) (nb : Nat) (q : Nat) (iv : Value) (wr : World) : Prop :=
  ∃ (A : List Ty) (a : Option Addr) (cap : Nat) (ps : List Value), A.length ≤ xs.length ∧ xs.length - A.length ≤ q ∧ iv = .int .i64 A.length ∧ Hid (xs.take A.length = texts A) ∧ (∀ t ∈ A, t.WF ∧ t.text.length ≤ 60) ∧
    wr.heap[nb]? = some (.cells #[.int .u8 c.toNat, .slice a A.length cap] 74 (0, 0)) ∧ wr.ownsRow w.heap.size 74 2 (.slice a A.length cap) A.length ps ∧ (∀ p, a = some p → p.block ≠ nb) ∧ SNs (ex (nb + 1) (.slice a A.length cap)) wr A ps ∧ Below w.heap.size w wr ∧ nb < wr.heap.size
set_option maxHeartbeats 4000000 in
theorem MakeType_spec (head : List UInt8) (xs : List ByteArray) (v : Value) (base : Nat) (w : World) (hh : head.length ≤ 1048576) (hlen : StrsLen xs) (hsz : ∀ (k : Nat) (x : ByteArray), xs[k]? = some x → x.size ≤ 2147483648) (h : w.ownsRow base 9 1 v xs.length (strs xs)) :
    Calls Try.prog 30 #[.string ⟨head.toArray⟩, v] w (MPost w (mkT head xs)) := by
  obtain ⟨a, cap, rfl⟩ := ListS.row_slice h
  have HR := hid h
  have HSZ := hid hsz
  obtain ⟨hl1, hl2⟩ := hlen
  clear h hsz
  by_cases hone : head.length = 1
  rotate_left
  · have HN : Hid (mkT head xs = none) := mkT_len hone
    have e1 : ((head.length : Int) == 1) = false := by rw [beq_eq_false_iff_ne]; omega
    have e2 : ((head.length : Int) != 1) = true := by rw [bne, e1]; rfl
    clear hone
    go_enter Try.func30, Try.ntmps30
    go_wp2_with fail
    go_ret2
    exact ⟨by rw [HN.out]; rfl, Below.refl _ _⟩
  obtain ⟨c, rfl⟩ : ∃ c, head = [c] := by
    match head, hone with
    | [c], _ => exact ⟨c, rfl⟩
  clear hone hh
  obtain ⟨r, hr⟩ : ∃ r, arI c = r := ⟨_, rfl⟩
  have HAR := hid hr
  by_cases hax : r = (xs.length : Int)
  rotate_left
  · have HN : Hid (mkT [c] xs = none) := mkT_ar (by rw [hr]; exact hax)
    have e1 : (r == (xs.length : Int)) = false := by rw [beq_eq_false_iff_ne]; exact hax
    have e2 : (r != (xs.length : Int)) = true := by rw [bne, e1]; rfl
    clear hr hax
    go_enter Try.func30, Try.ntmps30
    go_wp2_with (first | (go_at_call 67; refine (l1Arity_any c _).mono ?_; rintro e w' ⟨rfl, rfl⟩; rw [HAR.out]))
    go_ret2
    exact ⟨by rw [HN.out]; rfl, Below.refl _ _⟩
  have HAX : Hid (arI c = (xs.length : Int)) := by show _ = _; rw [hr]; exact hax
  have h3 : xs.length ≤ 2 := by
    have := arI_len HAX.out
    rcases ar_cases c with h | h | h | h <;> rw [h] at this <;> simp at this <;> omega
  have e1 : (r == (xs.length : Int)) = true := by rw [hax]; simp
  have e2 : (r != (xs.length : Int)) = false := by rw [bne, e1]; rfl
  clear hr hax
  go_enter Try.func30, Try.ntmps30
  go_wp2_with (first | (go_at_call 67; refine (l1Arity_any c _).mono ?_; rintro e w' ⟨rfl, rfl⟩; rw [HAR.out]))
  go_loopg [29] xs.length (fun q iv wr => LR w c xs (w.heap.size + 1) q iv wr)
  case atStart => exact ⟨[], some ⟨w.heap.size, 0, none⟩, 0, [], by simp, by simp, rfl, rfl, by simp, hb_new2 w _ _ _ rfl, (World.ownsRow_made w #[] 0 (Nat.le_refl _) (by simp [maxLen]) rfl).alloc _, fun p h => by cases h; show w.heap.size ≠ w.heap.size + 1; omega, rfl, ((Below.refl _ _).alloc (Nat.le_refl _) _).alloc (by simp) _, by simp⟩
  case round =>
    obtain ⟨A, a1, cap1, ps, hk, hq, rfl, htk, hwf, hnb, hrow, hna, hsd, hb, hz⟩ := hrel
    have HB := hid hb
    have HNB := hid hnb
    have HROW := hid hrow
    have HSD := hid hsd
    have HNA := hid hna
    have HWF := hid hwf
    have kn0 := heap_cell hnb 0
    have kn1 := heap_cell hnb 1
    have fn1 := heap_free hnb 1
    clear hb hnb hrow hsd hna hwf
    by_cases hlt : A.length < xs.length
    · obtain ⟨x, hx⟩ : ∃ x, xs[A.length]? = some x := ⟨_, List.getElem?_eq_getElem hlt⟩
      obtain ⟨g0, cap0, e0, -, hg0, cs0, hc0, hd0⟩ := row_at HR.out (by omega)
      cases e0
      have k0 : wr.cell? ⟨g0, A.length, none⟩ = some (.string x) := (HB.out.cell (p := ⟨g0, A.length, none⟩) hg0).trans ((heap_cell hc0 _).trans (hd0 _ _ (by simp [strs, hx])))
      have hxs := HSZ.out A.length x hx
      have HX := hid hx
      obtain ⟨l, hxl⟩ : ∃ l : List UInt8, x = ⟨l.toArray⟩ := ⟨x.data.toList, rfl⟩
      have hll : l.length ≤ 2147483648 := by rw [hxl] at hxs; have hq : l.toArray.size ≤ 2147483648 := hxs; simpa using hq
      clear hd0 hc0 hx
      cases hv : ty l with
      | none =>
        have HN : Hid (mkT [c] xs = none) := mkT_bad HX.out (by unfold okT; rw [hxl]; show (ty l).isSome = false; rw [hv]; rfl)
        have ho := l1Read_none l wr (by unfold maxLen; omega) hv
        subst hxl
        clear hv hxs
        go_wp2_with fail
        refine ho.mono ?_
        rintro e w1 ⟨rfl, hb⟩
        have HB1 : Hid (Below w.heap.size w w1) := HB.out.trans (hb.mono HB.out.size)
        have hz1 := hb.size
        have hzw := HB.out.size
        clear hb ho kn0 kn1 fn1 k0
        go_wp2
        go_ret2
        exact ⟨by rw [HN.out]; rfl, HB1.out.alloc (by omega) _⟩
      | some t =>
        obtain ⟨q1, q2, q3⟩ := ty_some hv
        have HOK : Hid (t.WF ∧ t.text.length ≤ 60) := ⟨q2, by rw [← q1]; exact q3⟩
        have ho := l1Read_some l t wr hv
        have hdt : Hid (l = t.text) := q1
        subst hxl
        clear hv hxs q1 q2 q3
        go_wp2_with fail
        refine ho.mono ?_
        rintro e w1 ⟨hd, sl, rfl, hn, hb⟩
        obtain ⟨rfl, p1, n1, c1', rfl⟩ := hn.form
        have HB1 : Hid (Below w.heap.size w w1) := HB.out.trans (hb.mono HB.out.size)
        have hz1 := hb.size
        have hzw := HB.out.size
        have hn1 := below_heap hb hz HNB.out
        have kn1 := heap_cell hn1 1
        have fn1 := heap_free hn1 1
        have hzn : w.heap.size + 1 < w1.heap.size := by omega
        have HN1 := hid hn1
        have HBW := hid hb
        have HN := hid hn
        clear hb hn ho kn0 k0 hn1
        go_wp2_with (first
          | (at_builtin; refine app_push_at 72 74 (.agg #[.int .u8 0, .slice .none 0 0]) 2 32 Try.underlying72 infoSN rfl (by decide) rfl _ _ rfl w.heap.size (.slice a1 A.length cap1) A.length ps rfl (World.ownsRow.alloc (World.ownsRow.alloc (ListS.row_below HBW.out HROW.out) _) _) (w1.heap.size + 1) 1 [.int .u8 t.head.toNat, .slice p1 n1 c1'] rfl rfl (news_two (heap_cell (hb_new2 _ _ _ _ rfl) 0) (heap_cell (hb_new2 _ _ _ _ rfl) 1)) (by simp [Value.oneCell']) (by unfold maxLen; omega) (by omega) (by simp; omega) ?_))
        intro g4 cap4 w4 hown hg hlie
        (try simp only [World.size_alloc] at hlie)
        have hnr : ∀ g, (Value.ownBlock (.slice a1 A.length cap1)) = some g → w.heap.size ≤ g ∧ g < wr.heap.size ∧ g ≠ w.heap.size + 1 := fun g h => ⟨(ListS.row_own HROW.out g h).1, (ListS.row_own HROW.out g h).2, fun e => by
          cases ha : a1 with
          | none => rw [ha] at h; simp [Value.ownBlock] at h
          | some p => rw [ha] at h; simp [Value.ownBlock] at h; exact HNA.out p ha (by rw [h]; exact e)⟩
        have hn4 := grown_keep hg (hb_alloc (hb_alloc HN1.out _) _) (fun e => (hnr _ e.symm).2.2 rfl)
        have kn1 := heap_cell hn4 1
        have fn1 := heap_free hn4 1
        have hz4 : w1.heap.size + 2 ≤ w4.heap.size := by have := hg.size; simpa using this
        have hg4 : g4 ≠ w.heap.size + 1 := by
          intro e
          rcases hlie with h | h
          · exact (hnr _ h).2.2 e
          · omega
        have HB4 : Hid (Below w.heap.size w w4) := ((HB1.out.alloc (by omega) _).alloc (by simp; omega) _).grown hg (by simp; omega) (fun g h => (hnr g h).1)
        have HP := hid (sns_push (lo := w.heap.size + 1 + 1) (w1' := (w1.alloc (.cells #[.int .u8 t.head.toNat, .slice p1 n1 c1'] 74)).alloc (.cells #[.int .u8 t.head.toNat, .slice p1 n1 c1'] 74)) (v' := .slice (some ⟨g4, 0, .none⟩) (A.length + 1) cap4) HSD.out (fun g h => (hnr g h).2.1) HBW.out HN.out (by omega) ((keepsP_alloc _ _).trans (keepsP_alloc _ _) (by simp)) (by simp; omega) hg (fun g h => by simp [Value.ownBlock] at h; subst h; rcases hlie with h | h; exact .inl h; exact .inr (by simp; omega)))
        have HO4 := hid hown
        have HN4 := hid hn4
        clear hown hg hn4 hlie hnr
        go_wp2
        go_roundg (gk - 1)
        case measure => omega
        case rel =>
          have e1 : (A ++ [t]).length = A.length + 1 := by simp
          have hx1 : xs.take (A.length + 1) = texts A ++ [⟨l.toArray⟩] := by
            obtain ⟨hlt2, hxx⟩ := List.getElem?_eq_some_iff.1 HX.out
            rw [List.take_succ_eq_append_getElem hlt2, hxx, htk.out]
          refine ⟨A ++ [t], some ⟨g4, 0, .none⟩, cap4, ps ++ [.int .u8 t.head.toNat, .slice p1 n1 c1'], by omega, by omega, by rw [e1]; go_num, ?_, ?_, ?_, ?_, fun p h => by cases h; exact hg4, ?_, HB4.out.setCell (by show w.heap.size ≤ w.heap.size + 1; omega) _, by simp; omega⟩
          · show _ = _
            rw [e1, hx1, hdt.out]; simp [texts]
          · intro u hu
            rcases List.mem_append.1 hu with h | h
            · exact HWF.out u h
            · simp at h; subst h; exact HOK.out
          · rw [e1]; exact heap_set HN4.out 1 _
          · rw [e1]; exact row_set HO4.out _ (by show g4 ≠ w.heap.size + 1; exact hg4)
          · rw [e1]; exact SNs.keep (keepsP_set _ _ _ (fun h => absurd h.1 (by show ¬ (w.heap.size + 1 + 1 ≤ w.heap.size + 1); omega))) (by simp) HP.out
    · have hke : xs.length ≤ A.length := by omega
      have HXA : Hid (xs = texts A) := by
        show _ = _
        have := htk.out
        rw [List.take_of_length_le hke] at this
        exact this
      have hAl : A.length = xs.length := by omega
      obtain ⟨T, t1, t2, t3⟩ := build (c := c) (ts := A) (by rw [hAl]; exact arI_len HAX.out) (fun t ht => (HWF.out t ht).1)
      have HALL : Hid (xs.all okT = true) := by show _ = _; rw [HXA.out]; exact all_texts HWF.out
      have HTT : Hid (T.text = mtext c xs) := by show _ = _; rw [← text_mtext, t2, t3, ← HXA.out]
      have HTY : Hid (ty T.text = if T.text.length ≤ 60 then some T else none) := by
        show _ = _
        split
        · rename_i hq; exact ty_of t1 hq
        · rename_i hq; exact ty_long (by omega)
      have hsn : SNode 0 wr T (.int .u8 c.toNat) (.slice a1 A.length cap1) := by
        have h1 := HROW.out
        have h2 := HSD.out
        rw [← t3] at h1 h2 ⊢
        have := snode_of h1 h2
        rw [t2] at this
        exact this
      have HSN := hid hsn
      have htl : T.text.length ≤ 1000 := by rw [HTT.out, HXA.out]; exact mtext_le (by omega) HWF.out
      have hT := fun wx hx => l1Text_any (T.size + 1) T (.int .u8 c.toNat) (.slice a1 A.length cap1) 0 wx (by omega) htl hx
      have HT := hid hT
      clear hT hsn htk t1 t2 t3 hAl
      obtain ⟨d, hd⟩ : ∃ d, T.text = d := ⟨_, rfl⟩
      have HDD := hid hd
      rw [hd] at htl
      clear hd
      by_cases hl : d.length ≤ 60
      · have HY : Hid (mkT [c] xs = some d) := by show _ = _; rw [mkT_yes HAX.out HALL.out (by rw [← HTT.out, HDD.out]; exact hl), ← HTT.out, HDD.out]
        have HV : Hid ((ty d).isSome = true) := by show _ = _; have e := HTY.out; rw [HDD.out, if_pos hl] at e; rw [e]; rfl
        go_wp2_with (first
          | (go_at_call 63; refine (HT.out _ HSN.out).mono ?_; rintro e w1 ⟨rfl, hb⟩; rw [HDD.out]; have HB1 : Hid (Below w.heap.size w w1) := HB.out.trans (hb.mono HB.out.size); clear hb)
          | (go_at_call 27; refine (TypeValid_spec d _ (by unfold maxLen; omega)).mono ?_; rintro e w2 ⟨rfl, hb⟩; rw [HV.out]; have HB2 : Hid (Below w.heap.size w w2) := HB1.out.trans (hb.mono HB1.out.size); clear hb))
        go_ret2
        exact ⟨by rw [HY.out]; rfl, HB2.out⟩
      · have HY : Hid (mkT [c] xs = none) := mkT_no (fun hh => hl (by rw [← HDD.out, HTT.out]; exact hh.2))
        have HV : Hid ((ty d).isSome = false) := by show _ = _; have e := HTY.out; rw [HDD.out, if_neg hl] at e; rw [e]; rfl
        go_wp2_with (first
          | (go_at_call 63; refine (HT.out _ HSN.out).mono ?_; rintro e w1 ⟨rfl, hb⟩; rw [HDD.out]; have HB1 : Hid (Below w.heap.size w w1) := HB.out.trans (hb.mono HB.out.size); clear hb)
          | (go_at_call 27; refine (TypeValid_spec d _ (by unfold maxLen; omega)).mono ?_; rintro e w2 ⟨rfl, hb⟩; rw [HV.out]; have HB2 : Hid (Below w.heap.size w w2) := HB1.out.trans (hb.mono HB1.out.size); clear hb))
        go_ret2
        exact ⟨by rw [HY.out]; rfl, HB2.out⟩
end MkType
end Go.Proofs.Ytaapdhacnbhohaa
