/- l3Sorted of the reference. Conditions: the text is at most 2^20 bytes long. -/
import Derived.Test.YtaijklafgcocmaaSupP
import Derived.Test.YtaijklafgcocmaaHC
import Derived.Test.YtaijklafgcocmaaListS
set_option linter.unusedVariables false
set_option linter.unusedSimpArgs false
set_option maxRecDepth 100000
namespace Go.Proofs.Ytaijklafgcocmaa
open Go.RowKit Known Classes Ty IV
namespace Sup
theorem caps_at (k : Nat) (h : k < 20) : ∃ c : UInt8, SupP.caps[k]? = some c ∧ (c.toNat : Int) = 65 + (k : Int) := by
  have : ∀ k : Fin 20, (SupP.caps[k.1]?).map (·.toNat) = some (65 + k.1) := by decide
  have h1 := this ⟨k, h⟩
  dsimp only at h1
  cases hc : SupP.caps[k]? with
  | none => rw [hc] at h1; simp at h1
  | some c => rw [hc] at h1; simp at h1; exact ⟨c, rfl, by omega⟩
theorem sort_take (s : List UInt8) (k : Nat) (c : UInt8) (h : SupP.caps[k]? = some c) : (SupP.caps.take (k + 1)).filter (fun c => s.contains c) = (SupP.caps.take k).filter (fun c => s.contains c) ++ if s.contains c then [c] else [] := by
  obtain ⟨hl, hg⟩ := List.getElem?_eq_some_iff.1 h
  rw [filter_take_succ _ _ _ hl, hg]
set_option maxHeartbeats 2000000 in
theorem l3Sorted_any (l : List UInt8) (w : World) (hl : l.length ≤ 1048576) :
    Calls Try.prog 65 #[.string ⟨l.toArray⟩] w fun e w' => e = .returned (.string ⟨(SupP.sortL l).toArray⟩) ∧ Below w.heap.size w w' := by
  go_enter Try.func65, Try.ntmps65
  go_wp2_with fail
  go_loopg [3, 4] 20 (fun q o i wr => ∃ (k : Nat) (acc : List UInt8), k ≤ 20 ∧ 20 - k ≤ q ∧ o = .string ⟨acc.toArray⟩ ∧ i = .int .i32 (65 + k) ∧ acc.length ≤ 20 ∧ Hid (acc = (SupP.caps.take k).filter (fun c => l.contains c)) ∧ Below w.heap.size w wr)
  case atStart => exact ⟨0, [], by omega, by omega, rfl, rfl, by simp, rfl, Below.refl _ _⟩
  case round =>
    obtain ⟨k, acc, hk, hq, rfl, rfl, hal, hacc, hb⟩ := hrel
    have HB := hid hb
    have hbz := hb.size
    clear hb
    by_cases hlt : k < 20
    · obtain ⟨c, hc, hcn⟩ := caps_at k hlt
      have HST := hid (sort_take l k c hc)
      have hlen : ((SupP.caps.take (k + 1)).filter (fun c => l.contains c)).length ≤ 20 := Nat.le_trans (List.length_filter_le _ _) (by rw [List.length_take]; show _ ≤ 20; omega)
      obtain ⟨ix, hix⟩ : ∃ ix, ix = Lib.indexByte l c := ⟨_, rfl⟩
      have hcon := Lib.contains_iff_indexByte l c
      rw [← hix] at hcon
      have HIX := hid hix
      have HCN := hid hcn
      have hw8 : IntKind.u8.wrap (65 + (k : Int)) = 65 + (k : Int) := by unfold IntKind.wrap; simp [IntKind.signed, IntKind.bits]; omega
      have hw32 : IntKind.i32.wrap (65 + (k : Int) + 1) = 65 + (k : Int) + 1 := by unfold IntKind.wrap; simp [IntKind.signed, IntKind.bits]; omega
      have hcv := fun W => ListS.run_byte (P := Try.prog) W 109 9 5 Try.underlying109 Try.underlying5 Try.underlying9 c (65 + (k : Int)) HCN.out.symm
      clear hc hix hcn
      cases hb2 : l.contains c with
      | false =>
        have HR : Hid (acc = (SupP.caps.take (k + 1)).filter (fun c => l.contains c)) := by
          show _ = _
          have h := HST.out
          rw [hb2] at h
          rw [h, ← hacc.out]; simp
        rw [hb2] at hcon
        have hneg : ix < 0 := by simpa using hcon.symm
        clear hcon hb2 hacc
        go_wp2_with fail
        have hfd := l13Find ⟨l.toArray⟩ c wr (by unfold maxLen; simp [ByteArray.size]; omega)
        rw [HCN.out] at hfd
        refine hfd.mono ?_
        clear hfd
        rintro e w' ⟨rfl, rfl⟩
        rw [show Lib.indexByte (ByteArray.mk l.toArray).data.toList c = ix from HIX.out.symm]
        go_wp2_with fail
        go_roundg (20 - (k + 1))
        case measure => omega
        case rel => exact ⟨k + 1, acc, by omega, by omega, rfl, by go_num, hal, HR.out, HB.out⟩
      | true =>
        have HR : Hid (acc ++ [c] = (SupP.caps.take (k + 1)).filter (fun c => l.contains c)) := by
          show _ = _
          have h := HST.out
          rw [hb2] at h
          rw [h, ← hacc.out]; simp
        have hal2 : (acc ++ [c]).length ≤ 20 := by have := HR.out; rw [this]; exact hlen
        rw [hb2] at hcon
        have hneg : 0 ≤ ix := by simpa using hcon.symm
        clear hcon hb2 hacc hlen
        go_wp2_with fail
        have hfd := l13Find ⟨l.toArray⟩ c wr (by unfold maxLen; simp [ByteArray.size]; omega)
        rw [HCN.out] at hfd
        refine hfd.mono ?_
        clear hfd
        rintro e w' ⟨rfl, rfl⟩
        rw [show Lib.indexByte (ByteArray.mk l.toArray).data.toList c = ix from HIX.out.symm]
        go_wp2_with fail
        rw [app_lists]
        go_roundg (20 - (k + 1))
        case measure => omega
        case rel => exact ⟨k + 1, acc ++ [c], by omega, by omega, rfl, by go_num, hal2, HR.out, HB.out.alloc (by omega) _⟩
    · have hke : k = 20 := by omega
      have HR : Hid (acc = SupP.sortL l) := by
        show _ = _
        rw [hacc.out, hke]; rfl
      clear hacc
      subst hke
      go_wp2_with fail
      go_ret
      exact ⟨by rw [← HR.out]; rfl, HB.out⟩
end Sup
end Go.Proofs.Ytaijklafgcocmaa
