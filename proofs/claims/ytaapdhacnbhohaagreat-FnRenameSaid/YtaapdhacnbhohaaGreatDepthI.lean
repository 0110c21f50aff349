/- The program's depth, the library's Count at a byte, and what both tell of a type's text. Conditions: a text of at most 2^31 bytes. -/
import Derived.Test.YtaapdhacnbhohaaGreatStr
import Derived.Test.YtaapdhacnbhohaaGreatTy
set_option linter.unusedVariables false
set_option linter.unusedSimpArgs false
set_option maxRecDepth 100000
namespace Go.Proofs.YtaapdhacnbhohaaGreat
open Go.RowKit

theorem sCount (s : ByteArray) (c : UInt8) (w : World) : Calls Tryz.prog 21 #[.string s, .string ⟨#[c]⟩] w fun e w' => e = .returned (.int .i64 (s.data.toList.count c)) ∧ w = w' := by
  go_enter Tryz.func21, Tryz.ntmps21
  go_wp2
  rw [run_callFunc_extern Tryz.func36 (by kernel_rfl) (by kernel_rfl) (by kernel_rfl) (e := Extern.BytealgCount.count) (by kernel_rfl), Lib.run_countString]
  simp only [Result.andThen]
  rw [Oper.upon_value]
  go_wp2
  go_ret
  exact ⟨rfl, rfl⟩

/-- one byte of the scan: the most brackets, those that are open now -/
def dstep (p : Int × Int) (c : UInt8) : Int × Int := if c = 40 then (max p.1 (p.2 + 1), p.2 + 1) else if c = 41 then (p.1, p.2 - 1) else p
def dscan (l : List UInt8) : Int × Int := l.foldl dstep (0, 0)

theorem dscan_snoc (l : List UInt8) (c : UInt8) : dscan (l ++ [c]) = dstep (dscan l) c := by simp [dscan]
theorem dscan_bd (l : List UInt8) : 0 ≤ (dscan l).1 ∧ (dscan l).1 ≤ l.length ∧ -(l.length : Int) ≤ (dscan l).2 ∧ (dscan l).2 ≤ l.length := by
  induction hl : l.length generalizing l with
  | zero => have := List.eq_nil_of_length_eq_zero hl; subst this; simp [dscan]
  | succ n ih =>
    have hne : l ≠ [] := by intro e; subst e; simp at hl
    obtain ⟨l', c, rfl⟩ : ∃ l' c, l = l' ++ [c] := ⟨l.dropLast, l.getLast hne, (List.dropLast_concat_getLast hne).symm⟩
    have hn : l'.length = n := by simp at hl; exact hl
    have := ih l' hn
    rw [dscan_snoc]
    unfold dstep
    split
    · simp only []; omega
    · split <;> first | omega | (simp only []; omega)
theorem dtake (l : List UInt8) (k : Nat) (h : k < l.length) : l.take (k + 1) = l.take k ++ [l[k]] := List.take_succ_eq_append_getElem h

set_option maxHeartbeats 1000000 in
theorem depth_bytes (s : ByteArray) (w : World) (hs : s.size ≤ 2147483648) :
    Calls Tryz.prog 22 #[.string s] w fun e w' => e = .returned (.int .i64 (dscan s.data.toList).1) ∧ w = w' := by
  go_enter Tryz.func22, Tryz.ntmps22
  go_wp2
  go_loop [3, 4, 8] (fun m n i => ∃ (k : Nat) (a b : Int), k ≤ s.size ∧ i = .int .i64 k ∧ m = .int .i64 a ∧ n = .int .i64 b ∧ 0 ≤ a ∧ a ≤ k ∧ -(k : Int) ≤ b ∧ b ≤ k ∧ Hid (dscan (s.data.toList.take k) = (a, b))) (fun _ _ i => s.size - (intOf i).toNat)
  case atStart => exact ⟨0, 0, 0, Nat.zero_le _, rfl, rfl, rfl, by omega, by omega, by omega, by omega, rfl⟩
  case round =>
    obtain ⟨k, a, b, hk, rfl, rfl, rfl, h1, h2, h3, h4, hd⟩ := hrel
    by_cases hlt : k < s.size
    · have HS : Hid (dscan (s.data.toList.take (k + 1)) = dstep (a, b) s[k]) := by show _ = _; rw [dtake s.data.toList k (by simpa using hlt), dscan_snoc, hd.out]; rfl
      have hbd : Hid (0 ≤ (dscan (s.data.toList.take (k + 1))).1 ∧ (dscan (s.data.toList.take (k + 1))).1 ≤ (k + 1 : Nat) ∧ -((k + 1 : Nat) : Int) ≤ (dscan (s.data.toList.take (k + 1))).2 ∧ (dscan (s.data.toList.take (k + 1))).2 ≤ (k + 1 : Nat)) := by
        have := dscan_bd (s.data.toList.take (k + 1))
        rw [List.length_take, Nat.min_eq_left (by simp; omega)] at this
        exact this
      by_cases hc : s[k] = 40
      · have e1 : ((s[k].toNat : Int) == 40) = true := by rw [hc]; rfl
        have HC := hid hc
        clear hc
        go_wp2
        go_round
        case rel =>
          have hb := hbd.out
          rw [HS.out] at hb
          simp only [dstep, HC.out, if_true] at hb
          refine ⟨k + 1, max a (b + 1), b + 1, by omega, by go_num, ?_, by go_num, by omega, by omega, by omega, by omega, ?_⟩
          · first | rfl | (simp only [Int.max_def]; first | rfl | simp)
          · show _ = _
            rw [HS.out]; simp [dstep, HC.out]
        case measure => simp [intOf]; omega
      · have e1 : ((s[k].toNat : Int) == 40) = false := by
          rw [beq_eq_false_iff_ne]; intro e; exact hc (UInt8.toNat_inj.1 (by exact_mod_cast e))
        have HC := hid hc
        clear hc
        by_cases hc2 : s[k] = 41
        · have e2 : ((s[k].toNat : Int) == 41) = true := by rw [hc2]; rfl
          have HC2 := hid hc2
          clear hc2
          go_wp2
          go_round
          case rel =>
            have hb := hbd.out
            rw [HS.out] at hb
            simp only [dstep, HC2.out] at hb
            simp at hb
            refine ⟨k + 1, a, b - 1, by omega, by go_num, rfl, by go_num, by omega, by omega, by omega, by omega, ?_⟩
            show _ = _
            rw [HS.out]; simp [dstep, HC2.out]
          case measure => simp [intOf]; omega
        · have e2 : ((s[k].toNat : Int) == 41) = false := by
            rw [beq_eq_false_iff_ne]; intro e; exact hc2 (UInt8.toNat_inj.1 (by exact_mod_cast e))
          have HC2 := hid hc2
          clear hc2
          go_wp2
          go_round
          case rel =>
            refine ⟨k + 1, a, b, by omega, by go_num, rfl, rfl, by omega, by omega, by omega, by omega, ?_⟩
            show _ = _
            rw [HS.out]; simp [dstep, HC.out, HC2.out]
          case measure => simp [intOf]; omega
    · have hk2 : k = s.size := by omega
      subst hk2
      rw [List.take_of_length_le (by simp)] at hd
      go_wp2
      go_ret
      exact ⟨ret_int (by rw [hd.out]), rfl⟩

theorem depth_any (l : List UInt8) (w : World) (hs : l.length ≤ 2147483648) :
    Calls Tryz.prog 22 #[.string ⟨l.toArray⟩] w fun e w' => e = .returned (.int .i64 (dscan l).1) ∧ w = w' := depth_bytes ⟨l.toArray⟩ w hs

namespace Ty
theorem leaf_ne {c : UInt8} {k : Nat} (h : ar c = some k) : c ≠ 40 ∧ c ≠ 41 ∧ c ≠ 44 := by
  refine ⟨?_, ?_, ?_⟩ <;> rintro rfl <;> simp [ar] at h
theorem scan_text (t : Ty) : t.WF → ∀ (m n : Int) (r : List UInt8), n ≤ m → (t.text ++ r).foldl dstep (m, n) = r.foldl dstep (max m (n + t.depth), n) := by
  induction t with
  | leaf c =>
    intro h m n r hmn
    obtain ⟨h1, h2, _⟩ := leaf_ne h
    simp [Ty.text, dstep, h1, h2, Ty.depth]
    rw [Int.max_eq_left hmn]
  | one c t ih =>
    intro ⟨h, hw⟩ m n r hmn
    obtain ⟨h1, h2, _⟩ := leaf_ne h
    have e : (Ty.one c t).text ++ r = c :: 40 :: (t.text ++ (41 :: r)) := by simp [Ty.text]
    rw [e]
    simp only [List.foldl_cons]
    rw [show dstep (m, n) c = (m, n) by simp [dstep, h1, h2], show dstep (m, n) 40 = (max m (n + 1), n + 1) by simp [dstep], ih hw _ _ _ (by omega)]
    simp only [List.foldl_cons]
    congr 1
    simp [dstep, Ty.depth]
    omega
  | two c t u ih1 ih2 =>
    intro ⟨h, hw, hv⟩ m n r hmn
    obtain ⟨h1, h2, _⟩ := leaf_ne h
    have e : (Ty.two c t u).text ++ r = c :: 40 :: (t.text ++ (44 :: (u.text ++ (41 :: r)))) := by simp [Ty.text]
    rw [e]
    simp only [List.foldl_cons]
    rw [show dstep (m, n) c = (m, n) by simp [dstep, h1, h2], show dstep (m, n) 40 = (max m (n + 1), n + 1) by simp [dstep], ih1 hw _ _ _ (by omega)]
    simp only [List.foldl_cons]
    rw [show ∀ p, dstep p 44 = p by intro p; simp [dstep], ih2 hv _ _ _ (by omega)]
    simp only [List.foldl_cons]
    congr 1
    simp [dstep, Ty.depth]
    rcases Nat.le_total t.depth u.depth with hle | hle
    · rw [Nat.max_eq_right hle]; omega
    · rw [Nat.max_eq_left hle]; omega
theorem scan_depth {t : Ty} (h : t.WF) : (dscan t.text).1 = t.depth := by
  have := scan_text t h 0 0 [] (by omega)
  simp at this
  unfold dscan
  rw [this]
  first | done | (simp; done) | (simp; omega)
theorem count_size (t : Ty) : t.WF → t.text.count 40 + t.text.count 41 + t.text.count 44 + t.size = t.text.length := by
  induction t with
  | leaf c =>
    intro h
    obtain ⟨h1, h2, h3⟩ := leaf_ne h
    simp [Ty.text, Ty.size, List.count_cons, h1, h2, h3]
  | one c t ih =>
    intro ⟨h, hw⟩
    obtain ⟨h1, h2, h3⟩ := leaf_ne h
    have := ih hw
    simp [Ty.text, Ty.size, List.count_cons, List.count_append, h1, h2, h3]
    omega
  | two c t u ih1 ih2 =>
    intro ⟨h, hw, hv⟩
    obtain ⟨h1, h2, h3⟩ := leaf_ne h
    have a1 := ih1 hw
    have a2 := ih2 hv
    simp [Ty.text, Ty.size, List.count_cons, List.count_append, h1, h2, h3]
    omega
end Ty

end Go.Proofs.YtaapdhacnbhohaaGreat
