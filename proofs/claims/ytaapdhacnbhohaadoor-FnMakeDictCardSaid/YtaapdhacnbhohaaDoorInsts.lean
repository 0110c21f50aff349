/- InstancesIn of both sides. Conditions: a text of at most 2^31 bytes. -/
import Derived.Test.YtaapdhacnbhohaaDoorDText
set_option linter.unusedVariables false
set_option linter.unusedSimpArgs false
set_option maxRecDepth 100000
namespace Go.Proofs.YtaapdhacnbhohaaDoor
open Go.RowKit Dt ListS
namespace Insts
def chr (k : Nat) : UInt8 := UInt8.ofNat (48 + k)
def sel (l : List UInt8) (k : Nat) : List Int := if (dt l).isSome then ((List.range k).filter (fun i => l.contains (chr i))).map Int.ofNat else []
theorem sel_zero (l : List UInt8) : sel l 0 = [] := by unfold sel; split <;> rfl
theorem sel_succ (l : List UInt8) (k : Nat) : sel l (k + 1) = sel l k ++ (if (dt l).isSome && l.contains (chr k) then [(k : Int)] else []) := by
  unfold sel
  cases (dt l).isSome
  · simp
  · simp only [if_true, Bool.true_and, List.range_succ, List.filter_append, List.map_append]
    congr 1
    cases h : l.contains (chr k) with
    | true => rw [List.filter_cons_of_pos (by exact h)]; rfl
    | false => rw [List.filter_cons_of_neg (by rw [h]; simp)]; rfl
theorem sel_len (l : List UInt8) (k : Nat) : (sel l k).length ≤ k := by
  unfold sel
  split
  · simpa using List.length_filter_le (fun i => l.contains (chr i)) (List.range k)
  · simp
def IPost (w : World) (xs : List Int) (e : Ending) (w' : World) : Prop :=
  ∃ g cap, e = .returned (.slice (some ⟨g, 0, none⟩) xs.length cap) ∧ w'.ownsRow w.heap.size 3 1 (.slice (some ⟨g, 0, none⟩) xs.length cap) xs.length (ints xs) ∧ Below w.heap.size w w'
theorem infoInt : (Tryd.prog.info? 3).map (fun i => (i.zero, i.size, i.bytes)) = some (some (.int .i64 0), 1, 8) := by kernel_rfl
theorem chr_nat (k : Nat) (h : k < 10) : (chr k).toNat = 48 + k := by unfold chr; simp; omega
theorem itoa_nat (k : Nat) (h : k < 10) (w : World) : Calls Tryd.prog 66 #[.int .i64 (k : Int)] w fun e w' => e = .returned (.string ⟨#[chr k]⟩) ∧ w = w' := by
  have h1 := Tryd.strconv_Itoa_small k (by omega) w
  rw [DText.dec_ten k h] at h1
  exact h1.mono fun e w' ⟨h2, h3⟩ => ⟨by simpa [chr] using h2, h3.symm⟩
theorem idx_pos {l : List UInt8} {c : UInt8} (h : l.contains c = true) : 0 ≤ Lib.indexByte l c := by
  induction l with
  | nil => simp at h
  | cons x l ih =>
    unfold Lib.indexByte
    by_cases hx : x = c
    · subst hx; simp
    · have e : (x == c) = false := by simpa using hx
      have h2 : l.contains c = true := by
        simp at h ⊢
        rcases h with h | h
        · exact absurd h.symm hx
        · exact h
      have := ih h2
      rw [e]
      have e2 : (Lib.indexByte l c == -1) = false := by rw [beq_eq_false_iff_ne]; omega
      simp [e2]; omega
theorem idx_neg {l : List UInt8} {c : UInt8} (h : l.contains c = false) : Lib.indexByte l c < 0 := by
  rw [indexByte_neg l c (fun j hj e => by
    have : c ∈ l := List.mem_of_getElem? e
    simp [this] at h)]
  decide
set_option maxHeartbeats 4000000 in
theorem InstancesIn_impl (l : List UInt8) (w : World) (hl : l.length ≤ 2147483648) : Calls Tryd.prog 24 #[.string ⟨l.toArray⟩] w (IPost w (sel l 10)) := by
  have ho := fun w => DictI.DictValid_impl l w hl
  cases hv : (dt l).isSome with
  | false =>
    rw [hv] at ho
    have HV := hid hv
    clear hv
    go_enter Tryd.func24, Tryd.ntmps24
    go_wp2_with fail
    go_loopg [3, 6] 10 (fun q o i wr => ∃ (k g cap : Nat), k ≤ 10 ∧ 10 - k ≤ q ∧ i = .int .i64 k ∧ o = .slice (some ⟨g, 0, none⟩) (sel l k).length cap ∧ wr.ownsRow w.heap.size 3 1 (.slice (some ⟨g, 0, none⟩) (sel l k).length cap) (sel l k).length (ints (sel l k)) ∧ Below w.heap.size w wr ∧ w.heap.size ≤ wr.heap.size)
    case atStart =>
      refine ⟨0, w.heap.size, 0, by omega, by omega, rfl, by rw [sel_zero]; rfl, ?_, (Below.refl _ _).alloc (Nat.le_refl _) _, by simp⟩
      rw [sel_zero]
      exact World.ownsRow_made w #[] 0 (Nat.le_refl _) (by simp [maxLen]) rfl
    case round =>
      obtain ⟨k, g, cap, hk, hq, rfl, rfl, hrow, hb, hz⟩ := hrel
      have HB := hid hb
      clear hb
      by_cases hlt : k < 10
      · have hss := hid (sel_succ l k)
        have hsl := sel_len l k
        obtain ⟨xv, hxv⟩ : ∃ xv, ints (sel l k) = xv := ⟨_, rfl⟩
        have HXV := hid hxv
        rw [hxv] at hrow
        have HR := hid hrow
        clear hxv hrow
        have hse : Hid (sel l (k + 1) = sel l k) := by show _ = _; rw [hss.out, HV.out]; simp
        go_wp2_with (first | (go_at_call 21; refine (ho _).mono ?_; rintro e w1 ⟨rfl, hb⟩; have HB1 : Hid (Below w.heap.size w w1) := HB.out.trans (hb.mono hz); have hz1 := hb.size; have HR1 := hid (ListS.row_below hb HR.out); clear hb))
        go_roundg (gk - 1)
        case measure => omega
        case rel => exact ⟨k + 1, g, cap, by omega, by omega, by go_num, by rw [hse.out], by rw [hse.out, HXV.out]; exact HR1.out, HB1.out, by omega⟩
      · obtain rfl : k = 10 := by omega
        have HR2 := hid hrow
        clear hrow hlt
        go_wp2
        go_ret
        exact ⟨g, cap, rfl, HR2.out, HB.out⟩
  | true =>
    rw [hv] at ho
    have HV := hid hv
    clear hv
    go_enter Tryd.func24, Tryd.ntmps24
    go_wp2_with fail
    go_loopg [3, 6] 10 (fun q o i wr => ∃ (k g cap : Nat), k ≤ 10 ∧ 10 - k ≤ q ∧ i = .int .i64 k ∧ o = .slice (some ⟨g, 0, none⟩) (sel l k).length cap ∧ wr.ownsRow w.heap.size 3 1 (.slice (some ⟨g, 0, none⟩) (sel l k).length cap) (sel l k).length (ints (sel l k)) ∧ Below w.heap.size w wr ∧ w.heap.size ≤ wr.heap.size)
    case atStart =>
      refine ⟨0, w.heap.size, 0, by omega, by omega, rfl, by rw [sel_zero]; rfl, ?_, (Below.refl _ _).alloc (Nat.le_refl _) _, by simp⟩
      rw [sel_zero]
      exact World.ownsRow_made w #[] 0 (Nat.le_refl _) (by simp [maxLen]) rfl
    case round =>
      obtain ⟨k, g, cap, hk, hq, rfl, rfl, hrow, hb, hz⟩ := hrel
      have HB := hid hb
      clear hb
      by_cases hlt : k < 10
      · have hss := hid (sel_succ l k)
        have hsl := sel_len l k
        obtain ⟨xv, hxv⟩ : ∃ xv, ints (sel l k) = xv := ⟨_, rfl⟩
        have HXV := hid hxv
        rw [hxv] at hrow
        have HR := hid hrow
        clear hxv hrow
        cases hcc : l.contains (chr k) with
        | true =>
          have hse : Hid (sel l (k + 1) = sel l k ++ [(k : Int)]) := by show _ = _; rw [hss.out, HV.out, hcc]; simp
          have HCC := hid hcc
          clear hcc
          go_wp2_with (first
              | (go_at_call 21; refine (ho _).mono ?_; rintro e w1 ⟨rfl, hb⟩; have HB1 : Hid (Below w.heap.size w w1) := HB.out.trans (hb.mono hz); have hz1 := hb.size; have HR1 := hid (ListS.row_below hb HR.out); clear hb)
              | (go_at_call 66; refine (itoa_nat k hlt _).mono ?_; rintro e w' ⟨rfl, rfl⟩)
              | (go_at_call 65; refine (sContains ⟨l.toArray⟩ (chr k) _).mono ?_; rintro e w' ⟨rfl, rfl⟩; rw [show (ByteArray.mk l.toArray).data.toList.contains (chr k) = true from HCC.out])
              | (at_builtin; refine app_push_at 41 3 (.int .i64 0) 1 8 Tryd.underlying41 infoInt rfl (by decide) rfl _ _ rfl w.heap.size (.slice (some ⟨g, 0, none⟩) (sel l k).length cap) (sel l k).length xv rfl (World.ownsRow.alloc HR1.out _) w1.heap.size 1 [.int .i64 (k : Int)] rfl rfl (news_one (heap_cell (heap_alloc_new _ _) 0)) (by simp [Value.oneCell']) (by unfold maxLen; omega) (by omega) (by simp; omega) ?_))
          intro g1 cap1 w3 hown hgr hlie
          have hz3 := hgr.size
          simp only [World.size_alloc] at hz3
          have HB3 : Hid (Below w.heap.size w w3) := (HB1.out.alloc (by omega) _).grown hgr (by simp; omega) (by have := (row_block HR1.out).1; simp [Value.ownBlock]; omega)
          have HO3 := hid hown
          clear hown hgr hlie
          go_wp2
          go_roundg (gk - 1)
          case measure => omega
          case rel =>
            have e1 : (sel l (k + 1)).length = (sel l k).length + 1 := by rw [hse.out]; simp
            refine ⟨k + 1, g1, cap1, by omega, by omega, by go_num, by rw [e1], ?_, HB3.out, by omega⟩
            rw [e1, hse.out]
            have e2 : ints (sel l k ++ [(k : Int)]) = xv ++ [.int .i64 (k : Int)] := by rw [← HXV.out]; simp [ints]
            rw [e2]
            exact HO3.out
        | false =>
          have hse : Hid (sel l (k + 1) = sel l k) := by show _ = _; rw [hss.out, HV.out, hcc]; simp
          have HCC := hid hcc
          clear hcc
          go_wp2_with (first
              | (go_at_call 21; refine (ho _).mono ?_; rintro e w1 ⟨rfl, hb⟩; have HB1 : Hid (Below w.heap.size w w1) := HB.out.trans (hb.mono hz); have hz1 := hb.size; have HR1 := hid (ListS.row_below hb HR.out); clear hb)
              | (go_at_call 66; refine (itoa_nat k hlt _).mono ?_; rintro e w' ⟨rfl, rfl⟩)
              | (go_at_call 65; refine (sContains ⟨l.toArray⟩ (chr k) _).mono ?_; rintro e w' ⟨rfl, rfl⟩; rw [show (ByteArray.mk l.toArray).data.toList.contains (chr k) = false from HCC.out])
              | fail)
          go_roundg (gk - 1)
          case measure => omega
          case rel => exact ⟨k + 1, g, cap, by omega, by omega, by go_num, by rw [hse.out], by rw [hse.out, HXV.out]; exact HR1.out, HB1.out, by omega⟩
      · obtain rfl : k = 10 := by omega
        have HR2 := hid hrow
        clear hrow hlt
        go_wp2
        go_ret
        exact ⟨g, cap, rfl, HR2.out, HB.out⟩
set_option maxHeartbeats 4000000 in
theorem InstancesIn_spec (l : List UInt8) (w : World) (hl : l.length ≤ 2147483648) : Calls Tryd.prog 25 #[.string ⟨l.toArray⟩] w (IPost w (sel l 10)) := by
  have ho := fun w => L6.DictValid_spec l w hl
  cases hv : (dt l).isSome with
  | false =>
    rw [hv] at ho
    have HV := hid hv
    clear hv
    go_enter Tryd.func25, Tryd.ntmps25
    go_wp2_with fail
    go_loopg [3, 6] 10 (fun q o i wr => ∃ (k g cap : Nat), k ≤ 10 ∧ 10 - k ≤ q ∧ i = .int .i64 k ∧ o = .slice (some ⟨g, 0, none⟩) (sel l k).length cap ∧ wr.ownsRow w.heap.size 3 1 (.slice (some ⟨g, 0, none⟩) (sel l k).length cap) (sel l k).length (ints (sel l k)) ∧ Below w.heap.size w wr ∧ w.heap.size ≤ wr.heap.size)
    case atStart =>
      refine ⟨0, w.heap.size, 0, by omega, by omega, rfl, by rw [sel_zero]; rfl, ?_, (Below.refl _ _).alloc (Nat.le_refl _) _, by simp⟩
      rw [sel_zero]
      exact World.ownsRow_made w #[] 0 (Nat.le_refl _) (by simp [maxLen]) rfl
    case round =>
      obtain ⟨k, g, cap, hk, hq, rfl, rfl, hrow, hb, hz⟩ := hrel
      have HB := hid hb
      clear hb
      by_cases hlt : k < 10
      · have hss := hid (sel_succ l k)
        have hsl := sel_len l k
        obtain ⟨xv, hxv⟩ : ∃ xv, ints (sel l k) = xv := ⟨_, rfl⟩
        have HXV := hid hxv
        rw [hxv] at hrow
        have HR := hid hrow
        clear hxv hrow
        have hse : Hid (sel l (k + 1) = sel l k) := by show _ = _; rw [hss.out, HV.out]; simp
        go_wp2_with (first | (go_at_call 22; refine (ho _).mono ?_; rintro e w1 ⟨rfl, hb⟩; have HB1 : Hid (Below w.heap.size w w1) := HB.out.trans (hb.mono hz); have hz1 := hb.size; have HR1 := hid (ListS.row_below hb HR.out); clear hb))
        go_roundg (gk - 1)
        case measure => omega
        case rel => exact ⟨k + 1, g, cap, by omega, by omega, by go_num, by rw [hse.out], by rw [hse.out, HXV.out]; exact HR1.out, HB1.out, by omega⟩
      · obtain rfl : k = 10 := by omega
        have HR2 := hid hrow
        clear hrow hlt
        go_wp2
        go_ret
        exact ⟨g, cap, rfl, HR2.out, HB.out⟩
  | true =>
    rw [hv] at ho
    have HV := hid hv
    clear hv
    go_enter Tryd.func25, Tryd.ntmps25
    go_wp2_with fail
    go_loopg [3, 6] 10 (fun q o i wr => ∃ (k g cap : Nat), k ≤ 10 ∧ 10 - k ≤ q ∧ i = .int .i64 k ∧ o = .slice (some ⟨g, 0, none⟩) (sel l k).length cap ∧ wr.ownsRow w.heap.size 3 1 (.slice (some ⟨g, 0, none⟩) (sel l k).length cap) (sel l k).length (ints (sel l k)) ∧ Below w.heap.size w wr ∧ w.heap.size ≤ wr.heap.size)
    case atStart =>
      refine ⟨0, w.heap.size, 0, by omega, by omega, rfl, by rw [sel_zero]; rfl, ?_, (Below.refl _ _).alloc (Nat.le_refl _) _, by simp⟩
      rw [sel_zero]
      exact World.ownsRow_made w #[] 0 (Nat.le_refl _) (by simp [maxLen]) rfl
    case round =>
      obtain ⟨k, g, cap, hk, hq, rfl, rfl, hrow, hb, hz⟩ := hrel
      have HB := hid hb
      clear hb
      by_cases hlt : k < 10
      · have hss := hid (sel_succ l k)
        have hsl := sel_len l k
        obtain ⟨xv, hxv⟩ : ∃ xv, ints (sel l k) = xv := ⟨_, rfl⟩
        have HXV := hid hxv
        rw [hxv] at hrow
        have HR := hid hrow
        clear hxv hrow
        have hck : (48 + (k : Int)) = ((chr k).toNat : Int) := by rw [chr_nat k hlt]; omega
        cases hcc : l.contains (chr k) with
        | true =>
          have hse : Hid (sel l (k + 1) = sel l k ++ [(k : Int)]) := by show _ = _; rw [hss.out, HV.out, hcc]; simp
          obtain ⟨ix, hix⟩ : ∃ ix, Lib.indexByte l (chr k) = ix := ⟨_, rfl⟩
          have hixs : 0 ≤ ix := by rw [← hix]; exact idx_pos hcc
          have HIX : Hid (Lib.indexByte (ByteArray.mk l.toArray).data.toList (chr k) = ix) := by show _ = _; exact hix
          clear hix
          have HCC := hid hcc
          clear hcc
          go_wp2_with (first
              | (go_at_call 22; refine (ho _).mono ?_; rintro e w1 ⟨rfl, hb⟩; have HB1 : Hid (Below w.heap.size w w1) := HB.out.trans (hb.mono hz); have hz1 := hb.size; have HR1 := hid (ListS.row_below hb HR.out); clear hb)
              | (go_at_call 67; refine (l13Find ⟨l.toArray⟩ (chr k) _ (by unfold maxLen; show l.toArray.size ≤ _; simp; omega)).mono ?_; rintro e w' ⟨rfl, rfl⟩; rw [show Lib.indexByte (ByteArray.mk l.toArray).data.toList (chr k) = ix from HIX.out])
              | (at_builtin; refine app_push_at 41 3 (.int .i64 0) 1 8 Tryd.underlying41 infoInt rfl (by decide) rfl _ _ rfl w.heap.size (.slice (some ⟨g, 0, none⟩) (sel l k).length cap) (sel l k).length xv rfl (World.ownsRow.alloc HR1.out _) w1.heap.size 1 [.int .i64 (k : Int)] rfl rfl (news_one (heap_cell (heap_alloc_new _ _) 0)) (by simp [Value.oneCell']) (by unfold maxLen; omega) (by omega) (by simp; omega) ?_))
          intro g1 cap1 w3 hown hgr hlie
          have hz3 := hgr.size
          simp only [World.size_alloc] at hz3
          have HB3 : Hid (Below w.heap.size w w3) := (HB1.out.alloc (by omega) _).grown hgr (by simp; omega) (by have := (row_block HR1.out).1; simp [Value.ownBlock]; omega)
          have HO3 := hid hown
          clear hown hgr hlie
          go_wp2
          go_roundg (gk - 1)
          case measure => omega
          case rel =>
            have e1 : (sel l (k + 1)).length = (sel l k).length + 1 := by rw [hse.out]; simp
            refine ⟨k + 1, g1, cap1, by omega, by omega, by go_num, by rw [e1], ?_, HB3.out, by omega⟩
            rw [e1, hse.out]
            have e2 : ints (sel l k ++ [(k : Int)]) = xv ++ [.int .i64 (k : Int)] := by rw [← HXV.out]; simp [ints]
            rw [e2]
            exact HO3.out
        | false =>
          have hse : Hid (sel l (k + 1) = sel l k) := by show _ = _; rw [hss.out, HV.out, hcc]; simp
          obtain ⟨ix, hix⟩ : ∃ ix, Lib.indexByte l (chr k) = ix := ⟨_, rfl⟩
          have hixs : ix < 0 := by rw [← hix]; exact idx_neg hcc
          have HIX : Hid (Lib.indexByte (ByteArray.mk l.toArray).data.toList (chr k) = ix) := by show _ = _; exact hix
          clear hix
          have HCC := hid hcc
          clear hcc
          go_wp2_with (first
              | (go_at_call 22; refine (ho _).mono ?_; rintro e w1 ⟨rfl, hb⟩; have HB1 : Hid (Below w.heap.size w w1) := HB.out.trans (hb.mono hz); have hz1 := hb.size; have HR1 := hid (ListS.row_below hb HR.out); clear hb)
              | (go_at_call 67; refine (l13Find ⟨l.toArray⟩ (chr k) _ (by unfold maxLen; show l.toArray.size ≤ _; simp; omega)).mono ?_; rintro e w' ⟨rfl, rfl⟩; rw [show Lib.indexByte (ByteArray.mk l.toArray).data.toList (chr k) = ix from HIX.out])
              | fail)
          go_roundg (gk - 1)
          case measure => omega
          case rel => exact ⟨k + 1, g, cap, by omega, by omega, by go_num, by rw [hse.out], by rw [hse.out, HXV.out]; exact HR1.out, HB1.out, by omega⟩
      · obtain rfl : k = 10 := by omega
        have HR2 := hid hrow
        clear hrow hlt
        go_wp2
        go_ret
        exact ⟨g, cap, rfl, HR2.out, HB.out⟩
end Insts
end Go.Proofs.YtaapdhacnbhohaaDoor
