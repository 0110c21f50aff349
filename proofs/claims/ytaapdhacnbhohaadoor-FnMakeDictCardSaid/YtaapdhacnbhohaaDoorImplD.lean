/- The program's dictOf, DictValid, InstanceOf, SizeOfDict and DepthOfDict at every text. Conditions: the text is at most 2^31 bytes long. -/
import Derived.Test.YtaapdhacnbhohaaDoorReadD
import Derived.Test.YtaapdhacnbhohaaDoorDepthI
set_option linter.unusedVariables false
set_option linter.unusedSimpArgs false
set_option maxRecDepth 100000
namespace Go.Proofs.YtaapdhacnbhohaaDoor
open Go.RowKit Dt
namespace DictI
/-- dictOf at a dictionary -/
def DOok (w : World) (c : UInt8) (k : F) (e : Ending) (w' : World) : Prop := ∃ b, e = .returned (.pointer (some ⟨b, 0, none⟩)) ∧ ID (fun k => w.heap.size ≤ k) w' c k b ∧ Below w.heap.size w w'
def DOno (w : World) (e : Ending) (w' : World) : Prop := e = .returned (.pointer none) ∧ Below w.heap.size w w'

theorem dictOf_some (l : List UInt8) (c : UInt8) (k : F) (w : World) (h : dt l = some (c, k)) : Calls Tryd.prog 61 #[.string ⟨l.toArray⟩] w (DOok w c k) := by
  obtain ⟨rfl, h1, h2, h3, hl⟩ := dt_some h
  have hp : rD (dtext c k) = some (c, k, []) := by
    have := pD_text h1 h2 h3 (dtext c k).length [] (Nat.le_refl _) (by simp)
    simpa [rD] using this
  have ho := (ReadD.all _ (dtext c k) (Nat.le_refl _) hl).1 _ _ _ hp
  clear hp h h1 h2 h3
  generalize dtext c k = l at *
  go_enter Tryd.func61, Tryd.ntmps61
  go_wp2_with (first
    | (go_at_call 99; refine (ho _).mono ?_; rintro e w1 ⟨b, rfl, hn, hb⟩; have HN := hid hn; have HB := hid hb; clear hn hb))
  go_ret
  exact ⟨_, rfl, HN.out, HB.out⟩

theorem dictOf_none (l : List UInt8) (w : World) (hl : l.length ≤ 2147483648) (h : dt l = none) : Calls Tryd.prog 61 #[.string ⟨l.toArray⟩] w (DOno w) := by
  by_cases hlen : 1200 < l.length
  · clear h
    go_enter Tryd.func61, Tryd.ntmps61
    go_wp2
    go_ret
    exact ⟨rfl, Below.refl _ _⟩
  · obtain ⟨o1, o2⟩ := ReadD.all l.length l (Nat.le_refl _) (by omega)
    cases hp : rD l with
    | none =>
      have ho := o2 hp
      clear o1 o2 hp h
      go_enter Tryd.func61, Tryd.ntmps61
      go_wp2_with (first
        | (go_at_call 99; refine (ho _).mono ?_; rintro e w1 ⟨r, rfl, hb⟩; have HB := hid hb; clear hb))
      all_goals
        go_ret
        exact ⟨rfl, HB.out⟩
    | some x =>
      obtain ⟨c, k, r⟩ := x
      have ho := o1 _ _ _ hp
      cases r with
      | nil => rw [dt_pD_some hp (by omega)] at h; simp at h
      | cons x r =>
        clear o1 o2 hp h
        go_enter Tryd.func61, Tryd.ntmps61
        go_wp2_with (first
          | (go_at_call 99; refine (ho _).mono ?_; rintro e w1 ⟨b, rfl, hn, hb⟩; have HB := hid hb; clear hn hb))
        go_ret
        exact ⟨rfl, HB.out⟩

theorem DictValid_impl (l : List UInt8) (w : World) (hl : l.length ≤ 2147483648) : Calls Tryd.prog 21 #[.string ⟨l.toArray⟩] w fun e w' => e = .returned (.bool (dt l).isSome) ∧ Below w.heap.size w w' := by
  cases h : dt l with
  | none =>
    have ho := dictOf_none l w hl h
    clear h
    go_enter Tryd.func21, Tryd.ntmps21
    go_wp2_with (first
      | (go_at_call 61; refine ho.mono ?_; rintro e w1 ⟨rfl, hb⟩; have HB := hid hb; clear hb))
    go_ret
    exact ⟨rfl, HB.out⟩
  | some t =>
    obtain ⟨c, k⟩ := t
    have ho := dictOf_some l c k w h
    clear h
    go_enter Tryd.func21, Tryd.ntmps21
    go_wp2_with (first
      | (go_at_call 61; refine ho.mono ?_; rintro e w1 ⟨b, rfl, hn, hb⟩; have HB := hid hb; clear hb hn))
    go_ret
    exact ⟨rfl, HB.out⟩

/-- what InstanceOf returns -/
def instI (l : List UInt8) : Int := match dt l with | some (c, _) => dv c | none => -1
theorem InstanceOf_impl (l : List UInt8) (w : World) (hl : l.length ≤ 2147483648) : Calls Tryd.prog 17 #[.string ⟨l.toArray⟩] w fun e w' => e = .returned (.int .i64 (instI l)) ∧ Below w.heap.size w w' := by
  unfold instI
  cases h : dt l with
  | none =>
    have ho := dictOf_none l w hl h
    clear h
    go_enter Tryd.func17, Tryd.ntmps17
    go_wp2_with (first
      | (go_at_call 61; refine ho.mono ?_; rintro e w1 ⟨rfl, hb⟩; have HB := hid hb; clear hb))
    go_ret
    exact ⟨rfl, HB.out⟩
  | some t =>
    obtain ⟨c, k⟩ := t
    have ho := dictOf_some l c k w h
    clear h
    go_enter Tryd.func17, Tryd.ntmps17
    go_wp2_with (first
      | (go_at_call 61; refine ho.mono ?_; rintro e w1 ⟨b, rfl, ⟨v, ps, -, hn, -, -⟩, hb⟩; have k0 := heap_cell hn 0; have HB := hid hb; clear hb hn))
    go_ret
    exact ⟨rfl, HB.out⟩

/-- how many digits a text has -/
def digL (l : List UInt8) : Nat := (l.filter fun c => 48 ≤ c && c ≤ 57).length
theorem digL_snoc (l : List UInt8) (c : UInt8) : digL (l ++ [c]) = digL l + if 48 ≤ (c.toNat : Int) ∧ (c.toNat : Int) ≤ 57 then 1 else 0 := by
  unfold digL
  have e : (48 ≤ c && c ≤ 57) = decide (48 ≤ (c.toNat : Int) ∧ (c.toNat : Int) ≤ 57) := by
    rw [Bool.eq_iff_iff]; simp [UInt8.le_iff_toNat_le]; omega
  rw [List.filter_append]
  by_cases h : 48 ≤ (c.toNat : Int) ∧ (c.toNat : Int) ≤ 57 <;> simp [List.filter_cons, e, h]
theorem digits_bytes (s : ByteArray) (w : World) (hs : s.size ≤ 2147483648) :
    Calls Tryd.prog 71 #[.string s] w fun e w' => e = .returned (.int .i64 (digL s.data.toList)) ∧ w = w' := by
  go_enter Tryd.func71, Tryd.ntmps71
  go_wp2
  go_loop [3, 7] (fun n i => ∃ k d : Nat, k ≤ s.size ∧ i = .int .i64 k ∧ n = .int .i64 d ∧ d ≤ k ∧ Hid (d = digL (s.data.toList.take k))) (fun _ i => s.size - (intOf i).toNat)
  case atStart => exact ⟨0, 0, Nat.zero_le _, rfl, rfl, Nat.le_refl _, rfl⟩
  case round =>
    obtain ⟨k, d, hk, rfl, rfl, hd, HD⟩ := hrel
    by_cases hlt : k < s.size
    · have hsn := digL_snoc (s.data.toList.take k) s[k]
      have hts : s.data.toList.take (k + 1) = s.data.toList.take k ++ [s[k]] := by
        rw [List.take_succ_eq_append_getElem (by simpa using hlt)]; rfl
      have HS : Hid (digL (s.data.toList.take (k + 1)) = d + if 48 ≤ (s[k].toNat : Int) ∧ (s[k].toNat : Int) ≤ 57 then 1 else 0) := by show _ = _; rw [hts, hsn, ← HD.out]
      clear hsn hts
      by_cases h1 : 48 ≤ (s[k].toNat : Int)
      · by_cases h2 : (s[k].toNat : Int) ≤ 57
        · go_wp2
          go_round
          case rel => exact ⟨k + 1, d + 1, by omega, by go_num, by go_num, by omega, by show _ = _; rw [HS.out, if_pos ⟨h1, h2⟩]⟩
          case measure => simp [intOf]; omega
        · go_wp2
          go_round
          case rel => exact ⟨k + 1, d, by omega, by go_num, rfl, by omega, by show _ = _; rw [HS.out, if_neg (by omega)]; rfl⟩
          case measure => simp [intOf]; omega
      · go_wp2
        go_round
        case rel => exact ⟨k + 1, d, by omega, by go_num, rfl, by omega, by show _ = _; rw [HS.out, if_neg (by omega)]; rfl⟩
        case measure => simp [intOf]; omega
    · obtain rfl : k = s.size := by omega
      go_wp2
      go_ret
      exact ⟨ret_int (by rw [HD.out, List.take_of_length_le (by simp)]), rfl⟩
theorem digits_any (l : List UInt8) (w : World) (hs : l.length ≤ 2147483648) :
    Calls Tryd.prog 71 #[.string ⟨l.toArray⟩] w fun e w' => e = .returned (.int .i64 (digL l)) ∧ w = w' := digits_bytes ⟨l.toArray⟩ w hs

theorem digL_app (a b : List UInt8) : digL (a ++ b) = digL a + digL b := by simp [digL]
theorem digL_cons (c : UInt8) (b : List UInt8) : digL (c :: b) = (if dig c then 1 else 0) + digL b := by
  unfold digL
  by_cases h : dig c
  · have e : (48 ≤ c && c ≤ 57) = true := by simpa [dig] using h
    simp [List.filter_cons, e, h]; omega
  · have e : (48 ≤ c && c ≤ 57) = false := by rw [Bool.eq_false_iff]; simpa [dig] using h
    simp [List.filter_cons, e, h]
theorem digL_wrap (l : List UInt8) (h : l.head? ≠ some 48 → True) (hl : ∀ x r, l = x :: r → ¬ dig x) : digL (wrap l) = digL l := by
  cases l with
  | nil => rfl
  | cons x r =>
    have e1 : ¬ dig 40 := by decide
    have e2 : ¬ dig 41 := by decide
    simp [wrap, digL_cons, digL_app, hl x r rfl, e1, e2, show digL [] = 0 from rfl]
theorem digL_ct (f : F) : f.WF → digL f.ct = f.size := by
  induction f with
  | nil => intro _; rfl
  | cons c k r ih1 ih2 =>
    intro ⟨hd, _, hw, hv⟩
    have e1 : ¬ dig 44 := by decide
    have e2 : digL (wrap k.ct) = digL k.ct := digL_wrap _ (fun _ => trivial) (fun x q h => by
      rcases k.ct_cases with ⟨_, h0⟩ | ⟨_, l, h0⟩ <;> rw [h0] at h <;> simp at h
      obtain ⟨rfl, _⟩ := h
      exact e1)
    simp [F.ct, digL_cons, digL_app, e1, hd, e2, ih1 hw, ih2 hv, F.size]
    omega
theorem digL_text {c : UInt8} {k : F} (hd : dig c) (hw : k.WF) : digL (dtext c k) = 1 + k.size := by
  have := digL_ct (.cons c k .nil)
  have e1 : ¬ dig 44 := by decide
  have e2 : digL (wrap k.ct) = digL k.ct := digL_wrap _ (fun _ => trivial) (fun x q h => by
    rcases k.ct_cases with ⟨_, h0⟩ | ⟨_, l, h0⟩ <;> rw [h0] at h <;> simp at h
    obtain ⟨rfl, _⟩ := h
    exact e1)
  simp [dtext, digL_cons, hd, e2, digL_ct k hw]
def sizeI (l : List UInt8) : Int := match dt l with | some (_, k) => 1 + (k.size : Int) | none => -1
theorem SizeOfDict_impl (l : List UInt8) (w : World) (hl : l.length ≤ 2147483648) : Calls Tryd.prog 29 #[.string ⟨l.toArray⟩] w fun e w' => e = .returned (.int .i64 (sizeI l)) ∧ Below w.heap.size w w' := by
  unfold sizeI
  cases h : dt l with
  | none =>
    have hs : Hid ((dt l).isSome = false) := by show _ = _; rw [h]; rfl
    clear h
    go_enter Tryd.func29, Tryd.ntmps29
    go_wp2_with (first
      | (go_at_call 21; refine (DictValid_impl l w hl).mono ?_; rintro e w1 ⟨rfl, hb⟩; rw [hs.out]; have HB := hid hb; clear hb))
    go_ret
    exact ⟨rfl, HB.out⟩
  | some t =>
    obtain ⟨c, k⟩ := t
    have hs : Hid ((dt l).isSome = true) := by show _ = _; rw [h]; rfl
    obtain ⟨rfl, hd, _, hw, _⟩ := dt_some h
    have hz := hid (digL_text hd hw)
    clear h hd hw
    generalize dtext c k = l at *
    go_enter Tryd.func29, Tryd.ntmps29
    go_wp2_with (first
      | (go_at_call 21; refine (DictValid_impl l w hl).mono ?_; rintro e w1 ⟨rfl, hb⟩; rw [hs.out]; have HB := hid hb; clear hb)
      | (go_at_call 71; refine (digits_any l _ hl).mono ?_; rintro e w2 ⟨rfl, rfl⟩))
    go_ret
    exact ⟨ret_int (by rw [hz.out]; simp), HB.out⟩
def F.deep : F → Nat
  | .nil => 0
  | .cons _ k r => max k.depth (deep r)
theorem deep_depth (f : F) : f ≠ .nil → f.depth = 1 + F.deep f := by
  induction f with
  | nil => intro h; exact absurd rfl h
  | cons c k r ih1 ih2 =>
    intro _
    cases r with
    | nil => simp [F.depth, F.deep]
    | cons c' k' r' =>
      have := ih2 (by simp)
      simp only [F.depth] at this ⊢
      simp only [F.deep] at this ⊢
      omega
theorem dig_ne {c : UInt8} (h : dig c) : c ≠ 40 ∧ c ≠ 41 := by
  refine ⟨?_, ?_⟩ <;> rintro rfl <;> revert h <;> decide
theorem scan_ct (f : F) : f.WF → ∀ (m n : Int) (r : List UInt8), n ≤ m → (f.ct ++ r).foldl dstep (m, n) = r.foldl dstep (max m (n + F.deep f), n) := by
  induction f with
  | nil => intro _ m n r h; simp [F.ct, F.deep]; rw [Int.max_eq_left h]
  | cons c k q ih1 ih2 =>
    intro ⟨hd, _, hw, hv⟩ m n r hmn
    obtain ⟨h1, h2⟩ := dig_ne hd
    have e44 : ∀ p, dstep p 44 = p := fun p => by simp [dstep]
    have ec : ∀ p, dstep p c = p := fun p => by simp [dstep, h1, h2]
    have e : (F.cons c k q).ct ++ r = 44 :: c :: (wrap k.ct ++ (q.ct ++ r)) := by simp [F.ct]
    rw [e]
    simp only [List.foldl_cons, e44, ec]
    rcases k.ct_cases with ⟨rfl, h0⟩ | ⟨hk, l, h0⟩
    · simp only [F.ct, wrap, List.nil_append]
      rw [ih2 hv _ _ _ hmn]
      congr 2
      try simp [F.deep, F.depth]
    · have e3 := ih1 hw (max m (n + 1)) (n + 1) (41 :: (q.ct ++ r)) (by omega)
      rw [h0] at e3
      simp only [List.cons_append, List.foldl_cons, e44] at e3
      rw [h0]
      have e5 : wrap (44 :: l) ++ (q.ct ++ r) = 40 :: (l ++ 41 :: (q.ct ++ r)) := by simp [wrap]
      rw [e5]
      simp only [List.foldl_cons]
      rw [show dstep (m, n) 40 = (max m (n + 1), n + 1) by simp [dstep], e3, show ∀ x : Int, dstep (x, n + 1) 41 = (x, n) by intro x; simp [dstep], ih2 hv _ _ _ (by omega)]
      congr 2
      have := deep_depth k hk
      simp only [F.deep]
      omega
theorem depth_text {c : UInt8} {k : F} (hd : dig c) (hw : k.WF) : (dscan (dtext c k)).1 = k.depth := by
  obtain ⟨h1, h2⟩ := dig_ne hd
  have e44 : ∀ p, dstep p 44 = p := fun p => by simp [dstep]
  have ec : ∀ p, dstep p c = p := fun p => by simp [dstep, h1, h2]
  unfold dscan dtext
  simp only [List.foldl_cons, ec]
  rcases k.ct_cases with ⟨rfl, h0⟩ | ⟨hk, l, h0⟩
  · simp [F.ct, wrap, F.depth]
  · have e3 := scan_ct k hw 1 1 [41] (by omega)
    rw [h0] at e3
    simp only [List.cons_append, List.foldl_cons, e44] at e3
    rw [h0]
    simp only [wrap, List.foldl_cons]
    rw [show dstep (0, 0) 40 = (1, 1) from rfl, e3]
    have := deep_depth k hk
    simp [dstep]
    omega
def depthI (l : List UInt8) : Int := match dt l with | some (_, k) => (k.depth : Int) | none => -1
theorem DepthOfDict_impl (l : List UInt8) (w : World) (hl : l.length ≤ 2147483648) : Calls Tryd.prog 30 #[.string ⟨l.toArray⟩] w fun e w' => e = .returned (.int .i64 (depthI l)) ∧ Below w.heap.size w w' := by
  unfold depthI
  cases h : dt l with
  | none =>
    have hs : Hid ((dt l).isSome = false) := by show _ = _; rw [h]; rfl
    clear h
    go_enter Tryd.func30, Tryd.ntmps30
    go_wp2_with (first
      | (go_at_call 21; refine (DictValid_impl l w hl).mono ?_; rintro e w1 ⟨rfl, hb⟩; rw [hs.out]; have HB := hid hb; clear hb))
    go_ret
    exact ⟨rfl, HB.out⟩
  | some t =>
    obtain ⟨c, k⟩ := t
    have hs : Hid ((dt l).isSome = true) := by show _ = _; rw [h]; rfl
    obtain ⟨rfl, hd, _, hw, _⟩ := dt_some h
    have hz := hid (depth_text hd hw)
    clear h hd hw
    generalize dtext c k = l at *
    go_enter Tryd.func30, Tryd.ntmps30
    go_wp2_with (first
      | (go_at_call 21; refine (DictValid_impl l w hl).mono ?_; rintro e w1 ⟨rfl, hb⟩; rw [hs.out]; have HB := hid hb; clear hb)
      | (go_at_call 72; refine (depth_any l _ hl).mono ?_; rintro e w2 ⟨rfl, rfl⟩))
    go_ret
    exact ⟨ret_int (by rw [hz.out]), HB.out⟩
end DictI
end Go.Proofs.YtaapdhacnbhohaaDoor
