/- VarsOf and IsGround of the reference. Conditions: the text is at most 2^31 bytes long. -/
import Derived.Test.YtbdnhcfebgkpdaaDoorVar
set_option linter.unusedVariables false
set_option linter.unusedSimpArgs false
set_option maxRecDepth 100000
namespace Go.Proofs.YtbdnhcfebgkpdaaDoor
open Go.RowKit Ty

/-- the variables in their order -/
def vlist : List UInt8 := [88, 89, 90, 120, 121, 122]
/-- what VarsOf returns -/
def varsL (l : List UInt8) : List UInt8 := vlist.filter (fun v => decide (0 < countI l [v]))
theorem varsL_len (l : List UInt8) : (varsL l).length ≤ 6 := List.length_filter_le _ vlist
theorem filter_take_succ {α : Type} (p : α → Bool) (xs : List α) (k : Nat) (h : k < xs.length) : (xs.take (k + 1)).filter p = (xs.take k).filter p ++ if p xs[k] then [xs[k]] else [] := by
  rw [List.take_succ_eq_append_getElem h, List.filter_append]
  by_cases e : p xs[k] <;> simp [e]
theorem app_lists (x : List UInt8) (c : UInt8) : ({ data := x.toArray } : ByteArray) ++ { data := #[c] } = ⟨(x ++ [c]).toArray⟩ := ByteArray.mk_append_mk x [c]

set_option maxHeartbeats 1000000 in
theorem VarsOf_spec (l : List UInt8) (w : World) (hl : l.length ≤ 2147483648) : Calls Tryd.prog 54 #[.string ⟨l.toArray⟩] w fun e w' => e = .returned (.string ⟨(varsL l).toArray⟩) ∧ Below w.heap.size w w' := by
  go_enter Tryd.func54, Tryd.ntmps54
  go_wp2_with fail
  go_loopw [3, 8] (fun n i wr => ∃ k : Nat, k ≤ 6 ∧ i = .int .i64 k ∧ n = .string ⟨((vlist.take k).filter (fun v => decide (0 < countI l [v]))).toArray⟩ ∧ (∀ (j : Nat) c, vlist[j]? = some c → wr.cell? ⟨w.heap.size, j, none⟩ = some (.string ⟨#[c]⟩)) ∧ Below w.heap.size w wr ∧ w.heap.size < wr.heap.size) (fun _ i _ => 6 - (intOf i).toNat)
  case atStart =>
    refine ⟨0, by omega, rfl, rfl, ?_, (Below.refl _ _).alloc (Nat.le_refl _) _, by simp⟩
    intro j c hj
    rw [heap_cell (heap_alloc_new w _) j]
    match j, hj with
    | 0, h => simp [vlist] at h; subst h; rfl
    | 1, h => simp [vlist] at h; subst h; rfl
    | 2, h => simp [vlist] at h; subst h; rfl
    | 3, h => simp [vlist] at h; subst h; rfl
    | 4, h => simp [vlist] at h; subst h; rfl
    | 5, h => simp [vlist] at h; subst h; rfl
    | n + 6, h => simp [vlist] at h
  case round =>
    obtain ⟨k, hk, rfl, rfl, hcell, hb, hlt0⟩ := hrel
    by_cases hlt : k < 6
    · have hks : k < vlist.length := hlt
      obtain ⟨c, hc⟩ : ∃ c, vlist[k] = c := ⟨_, rfl⟩
      have hc2 : vlist[k]? = some c := by rw [List.getElem?_eq_getElem hks, hc]
      have kc := hcell k c hc2
      have HC := hid hcell
      have HB := hid hb
      have hs := filter_take_succ (fun v => decide (0 < countI l [v])) vlist k hks
      rw [hc] at hs
      have hlen : ((vlist.take k).filter (fun v => decide (0 < countI l [v]))).length ≤ 6 := Nat.le_trans (List.length_filter_le _ _) (by simp [vlist]; omega)
      generalize (vlist.take k).filter (fun v => decide (0 < countI l [v])) = x at *
      clear hcell hb hc hc2
      obtain ⟨ci, hci⟩ : ∃ ci, ci = countI l [c] := ⟨_, rfl⟩
      by_cases hpos : 0 < ci
      · have HS : Hid ((vlist.take (k + 1)).filter (fun v => decide (0 < countI l [v])) = x ++ [c]) := by
          show _ = _
          rw [hs, ← hci]; simp [hpos]
        have HCI := hid hci
        clear hs hci
        go_wp2_with fail
        refine (CountVar_spec l [c] _ hl (by simp)).mono ?_
        rintro e w1 ⟨rfl, hb⟩
        rw [← HCI.out]
        have HB1 : Hid (Below w.heap.size w w1) := HB.out.trans (hb.mono (by omega))
        have HC1 : Hid (∀ (j : Nat) c, vlist[j]? = some c → w1.cell? ⟨w.heap.size, j, none⟩ = some (.string ⟨#[c]⟩)) := fun j c h => (hb.cell (p := ⟨w.heap.size, j, none⟩) hlt0).trans (HC.out j c h)
        have hz := hb.size
        clear hb kc
        go_wp2
        rw [app_lists]
        go_roundw
        case rel => exact ⟨k + 1, by omega, by go_num, by rw [HS.out], HC1.out, HB1.out, by omega⟩
        case measure => simp [intOf]; omega
      · have HS : Hid ((vlist.take (k + 1)).filter (fun v => decide (0 < countI l [v])) = x) := by
          show _ = _
          rw [hs, ← hci]; simp [hpos]
        have HCI := hid hci
        clear hs hci
        go_wp2_with fail
        refine (CountVar_spec l [c] _ hl (by simp)).mono ?_
        rintro e w1 ⟨rfl, hb⟩
        rw [← HCI.out]
        have HB1 : Hid (Below w.heap.size w w1) := HB.out.trans (hb.mono (by omega))
        have HC1 : Hid (∀ (j : Nat) c, vlist[j]? = some c → w1.cell? ⟨w.heap.size, j, none⟩ = some (.string ⟨#[c]⟩)) := fun j c h => (hb.cell (p := ⟨w.heap.size, j, none⟩) hlt0).trans (HC.out j c h)
        have hz := hb.size
        clear hb kc
        go_wp2
        go_roundw
        case rel => exact ⟨k + 1, by omega, by go_num, by rw [HS.out], HC1.out, HB1.out, by omega⟩
        case measure => simp [intOf]; omega
    · have hk6 : k = 6 := by omega
      subst hk6
      have HB := hid hb
      have e6 : Hid ((vlist.take 6).filter (fun v => decide (0 < countI l [v])) = varsL l) := rfl
      generalize (vlist.take 6).filter (fun v => decide (0 < countI l [v])) = x at *
      clear hcell hb
      go_wp2
      go_ret
      exact ⟨by rw [← e6.out]; rfl, HB.out⟩

end Go.Proofs.YtbdnhcfebgkpdaaDoor
