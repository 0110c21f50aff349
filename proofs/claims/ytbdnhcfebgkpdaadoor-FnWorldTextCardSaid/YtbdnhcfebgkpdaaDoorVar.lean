/- Variables: isVar, l1Variable and CountVar of both sides. Conditions: the text is at most 2^31 bytes long. -/
import Derived.Test.YtbdnhcfebgkpdaaDoorImplT
import Derived.Test.YtbdnhcfebgkpdaaDoorL1Read
import Derived.Test.YtbdnhcfebgkpdaaDoorDepthI
import Derived.Deep.QuietTactic
import Derived.BigQuiet
set_option linter.unusedVariables false
set_option linter.unusedSimpArgs false
set_option maxRecDepth 100000
namespace Go.Proofs.YtbdnhcfebgkpdaaDoor
open Go.RowKit Ty

/-- a letter that is a variable -/
def isV (c : UInt8) : Bool := ([120, 121, 122, 88, 89, 90] : List UInt8).contains c
/-- a text that is a variable -/
def isVarL (v : List UInt8) : Bool := match v with | [c] => isV c | _ => false

theorem isVar_impl (v : List UInt8) (w : World) (hv : v.length ≤ 2147483648) : Calls Tryd.prog 68 #[.string ⟨v.toArray⟩] w fun e w' => e = .returned (.bool (isVarL v)) ∧ w = w' := by
  match v, hv with
  | [c], _ =>
    obtain ⟨bv, hbv⟩ : ∃ b, b = isV c := ⟨_, rfl⟩
    have HBV := hid hbv
    clear hbv
    go_enter Tryd.func68, Tryd.ntmps68
    go_wp2_with (go_at_call 70; refine (sContains _ _ _).mono ?_; rintro e w' ⟨rfl, rfl⟩; rw [show ({ data := #[120, 121, 122, 88, 89, 90] } : ByteArray).data.toList.contains c = bv from HBV.out.symm])
    go_ret
    exact ⟨ret_bool HBV.out, rfl⟩
  | [], _ =>
    go_enter Tryd.func68, Tryd.ntmps68
    go_wp2
    go_ret
    exact ⟨rfl, rfl⟩
  | a :: b :: v, hv =>
    simp only [List.length_cons] at hv
    have h1 : ((v.length : Int) + 1 + 1 == 1) = false := by rw [beq_eq_false_iff_ne]; omega
    go_enter Tryd.func68, Tryd.ntmps68
    go_wp2
    go_ret
    exact ⟨rfl, rfl⟩

theorem isV_index (c : UInt8) : isV c = decide (6 ≤ Lib.indexByte [105, 98, 117, 108, 109, 112, 120, 121, 122, 88, 89, 90] c) := by
  by_cases h : c ∈ ([105, 98, 117, 108, 109, 112, 120, 121, 122, 88, 89, 90] : List UInt8)
  · simp at h
    rcases h with rfl | rfl | rfl | rfl | rfl | rfl | rfl | rfl | rfl | rfl | rfl | rfl <;> decide
  · have e1 : isV c = false := by
      simp only [List.mem_cons, not_or] at h
      simp [isV, h]
    rw [e1, indexByte_neg]
    · decide
    · intro j hj e
      exact h (List.mem_of_getElem? e)

theorem l1Variable_any (c : UInt8) (w : World) : Calls Tryd.prog 72 #[.int .u8 c.toNat] w fun e w' => e = .returned (.bool (isV c)) ∧ w = w' := by
  rw [isV_index]
  go_enter Tryd.func72, Tryd.ntmps72
  go_wp2_with (go_at_call 88; refine (l13Find _ _ _ (by decide)).mono ?_; rintro e w' ⟨rfl, rfl⟩)
  go_ret
  exact ⟨rfl, rfl⟩

/-- what CountVar returns -/
def countI (l v : List UInt8) : Int := if (ty l).isSome then (match v with | [c] => if isV c then (l.count c : Int) else -1 | _ => -1) else -1


theorem count_take_succ (l : List UInt8) (c : UInt8) (k : Nat) (h : k < l.length) : (l.take (k + 1)).count c = (l.take k).count c + if l[k] = c then 1 else 0 := by
  rw [List.take_succ_eq_append_getElem h, List.count_append]
  by_cases e : l[k] = c <;> simp [e]

set_option maxHeartbeats 1000000 in
theorem CountVar_spec (l v : List UInt8) (w : World) (hl : l.length ≤ 2147483648) (hv : v.length ≤ 2147483648) : Calls Tryd.prog 75 #[.string ⟨l.toArray⟩, .string ⟨v.toArray⟩] w fun e w' => e = .returned (.int .i64 (countI l v)) ∧ Below w.heap.size w w' := by
  have ho := TypeValid_spec l w (by unfold maxLen; omega)
  cases h : (ty l).isSome with
  | false =>
    have hh : Hid (countI l v = -1) := by show countI l v = -1; simp [countI, h]
    rw [h] at ho
    clear h
    go_enter Tryd.func75, Tryd.ntmps75
    go_wp2_with (go_at_call 38; refine ho.mono ?_; rintro e w1 ⟨rfl, hb⟩; have HB := hid hb; clear hb)
    go_ret
    exact ⟨ret_int hh.out.symm, HB.out⟩
  | true =>
    rw [h] at ho
    match v, hv with
    | [], _ =>
      have hh : Hid (countI l [] = -1) := by show countI l [] = -1; simp [countI]
      clear h
      go_enter Tryd.func75, Tryd.ntmps75
      go_wp2_with (go_at_call 38; refine ho.mono ?_; rintro e w1 ⟨rfl, hb⟩; have HB := hid hb; clear hb)
      go_ret
      exact ⟨ret_int hh.out.symm, HB.out⟩
    | a :: b :: v, hv =>
      have hh : Hid (countI l (a :: b :: v) = -1) := by show countI l (a :: b :: v) = -1; simp [countI]
      simp only [List.length_cons] at hv
      have h1 : ((v.length : Int) + 1 + 1 == 1) = false := by rw [beq_eq_false_iff_ne]; omega
      clear h
      go_enter Tryd.func75, Tryd.ntmps75
      go_wp2_with (go_at_call 38; refine ho.mono ?_; rintro e w1 ⟨rfl, hb⟩; have HB := hid hb; clear hb)
      go_ret
      exact ⟨ret_int hh.out.symm, HB.out⟩
    | [c], _ =>
      cases h2 : isV c with
      | false =>
        have hh : Hid (countI l [c] = -1) := by show countI l [c] = -1; simp [countI, h2]
        have H2 := hid h2
        clear h h2
        go_enter Tryd.func75, Tryd.ntmps75
        go_wp2_with (first
          | (go_at_call 38; refine ho.mono ?_; rintro e w1 ⟨rfl, hb⟩; have HB := hid hb; clear hb)
          | (go_at_call 72; refine (l1Variable_any c _).mono ?_; rintro e w2 ⟨rfl, rfl⟩; rw [H2.out]))
        go_ret
        exact ⟨ret_int hh.out.symm, HB.out⟩
      | true =>
        have hh : Hid (countI l [c] = l.count c) := by show countI l [c] = _; simp [countI, h2, h]
        have H2 := hid h2
        clear h h2
        go_enter Tryd.func75, Tryd.ntmps75
        go_wp2_with (first
          | (go_at_call 38; refine ho.mono ?_; rintro e w1 ⟨rfl, hb⟩; have HB := hid hb; clear hb)
          | (go_at_call 72; refine (l1Variable_any c _).mono ?_; rintro e w2 ⟨rfl, rfl⟩; rw [H2.out]))
        go_loopw [5, 23] (fun n i wr => ∃ k m : Nat, k ≤ l.length ∧ i = .int .i64 k ∧ n = .int .i64 m ∧ m ≤ k ∧ Hid (m = (l.take k).count c) ∧ Below w.heap.size w wr) (fun _ i _ => l.length - (intOf i).toNat)
        case atStart => exact ⟨0, 0, Nat.zero_le _, rfl, rfl, Nat.le_refl _, (by simp [Hid]), HB.out⟩
        case round =>
          obtain ⟨k, m, hk, rfl, rfl, hmk, hm, hB⟩ := hrel
          have HBr := hid hB
          clear hB
          by_cases hlt : k < l.length
          · have hs := count_take_succ l c k hlt
            by_cases hc : l[k] = c
            · rw [if_pos hc] at hs
              have HS : Hid (m + 1 = (l.take (k + 1)).count c) := by show _ = _; rw [hs, hm.out]
              have e1 : (((({ data := l.toArray } : ByteArray)[k]'hlt).toNat : Int) == ((({ data := #[c] } : ByteArray)[0]'(by show 0 < 1; omega)).toNat : Int)) = true := by
                show ((l[k].toNat : Int) == (c.toNat : Int)) = true
                rw [hc]; simp
              have hi' : (k : Int) < (l.length : Int) := by omega
              clear hs hc
              go_wp2
              go_quiet (fail)
              go_wp2
              go_roundw
              case rel => exact ⟨k + 1, m + 1, by omega, by go_num, by go_num, by omega, HS, HBr.out.trans ⟨rfl, rfl, rfl, Nat.le_refl _, fun _ _ => rfl⟩⟩
              case measure => simp [intOf]; omega
            · rw [if_neg hc] at hs
              have HS : Hid (m = (l.take (k + 1)).count c) := by show _ = _; rw [hs, hm.out]; rfl
              have e1 : (((({ data := l.toArray } : ByteArray)[k]'hlt).toNat : Int) == ((({ data := #[c] } : ByteArray)[0]'(by show 0 < 1; omega)).toNat : Int)) = false := by
                show ((l[k].toNat : Int) == (c.toNat : Int)) = false
                rw [beq_eq_false_iff_ne]
                intro e
                exact hc (UInt8.toNat_inj.1 (by exact_mod_cast e))
              have hi' : (k : Int) < (l.length : Int) := by omega
              clear hs hc
              go_wp2
              go_quiet (fail)
              go_wp2
              go_roundw
              case rel => exact ⟨k + 1, m, by omega, by go_num, rfl, by omega, HS, HBr.out.trans ⟨rfl, rfl, rfl, Nat.le_refl _, fun _ _ => rfl⟩⟩
              case measure => simp [intOf]; omega
          · have hk2 : k = l.length := by omega
            subst hk2
            have HM : Hid ((m : Int) = countI l [c]) := by
              show _ = _
              rw [hh.out, hm.out, List.take_length]
            go_wp2
            go_ret
            exact ⟨ret_int HM.out, HBr.out⟩

end Go.Proofs.YtbdnhcfebgkpdaaDoor
