/- RenameType of both sides. Conditions: the text is at most 2^20 bytes long. -/
import Derived.Test.YtomfppiinhhiaaaRenT
import Derived.Test.YtomfppiinhhiaaaL1Read
set_option linter.unusedVariables false
set_option linter.unusedSimpArgs false
set_option maxRecDepth 100000
namespace Go.Proofs.Ytomfppiinhhiaaa
open Go.RowKit Ty ListS RenP
namespace Ren
set_option maxHeartbeats 4000000 in
theorem RenameType_impl (l : List UInt8) (w : World) (hl : l.length ≤ 1048576) :
    Calls Try.prog 5 #[.string ⟨l.toArray⟩] w fun e w' => e = .returned (.string ⟨(renL l).toArray⟩) ∧ Below w.heap.size w w' := by
  have ho := TypeValid_impl l w (by unfold maxLen; omega)
  cases h : ty l with
  | none =>
    have HR : Hid (renL l = []) := ren_none h
    rw [h] at ho
    clear h
    go_enter Try.func5, Try.ntmps5
    go_wp2_with fail
    refine ho.mono ?_
    rintro e w1 ⟨rfl, hb⟩
    have HB := hid hb
    clear hb ho
    go_wp2
    go_ret
    exact ⟨by rw [HR.out]; rfl, HB.out⟩
  | some t =>
    have HR : Hid (renL l = l.map cap) := (ren_some h).1
    rw [h] at ho
    clear h
    go_enter Try.func5, Try.ntmps5
    go_wp2_with fail
    refine ho.mono ?_
    rintro e w1 ⟨rfl, hb⟩
    have HB := hid hb
    clear hb ho
    go_wp2_with fail
    refine (new_any w1.heap.size _ (heap_alloc_new w1 (.cells six 9))).mono ?_
    rintro e w2 ⟨b, g2, c2, rfl, hh, hs, hbb, hb⟩
    have hz1 : (w1.alloc (.cells six 9)).heap.size = w1.heap.size + 1 := by simp
    have HB1 : Hid (Below w.heap.size w (w1.alloc (.cells six 9))) := HB.out.alloc HB.out.size _
    have HB2 : Hid (Below w.heap.size w w2) := HB1.out.trans (hb.mono HB1.out.size)
    have hwb : w.heap.size ≤ b := by have := HB.out.size; omega
    have HH := hid hh
    have HS := hid hs
    clear hb hh hs
    go_wp2_with fail
    refine (replace_any b g2 c2 l w2 hl HH.out HS.out).mono ?_
    rintro e w3 ⟨rfl, hgr⟩
    have HB3 : Hid (Below w.heap.size w w3) := HB2.out.grown hgr HB2.out.size (fun g hg => by cases hg; exact hwb)
    clear hgr
    go_wp2
    go_ret
    exact ⟨by rw [HR.out]; rfl, HB3.out⟩
theorem l1Capital_any (c : UInt8) (w : World) : Calls Try.prog 6 #[.int .u8 (c.toNat : Nat)] w fun e w' => e = .returned (.int .u8 ((cap c).toNat : Nat)) ∧ Below w.heap.size w w' := by
  by_cases h1 : c = 120
  · subst h1
    go_enter Try.func6, Try.ntmps6
    go_wp2
    go_ret
    exact ⟨rfl, Below.refl _ _⟩
  by_cases h2 : c = 121
  · subst h2
    go_enter Try.func6, Try.ntmps6
    go_wp2
    go_ret
    exact ⟨rfl, Below.refl _ _⟩
  by_cases h3 : c = 122
  · subst h3
    go_enter Try.func6, Try.ntmps6
    go_wp2
    go_ret
    exact ⟨rfl, Below.refl _ _⟩
  have HC := hid (cap_id h1 h2 h3)
  have e : ∀ d : UInt8, c ≠ d → c.toNat ≠ d.toNat := fun d h h' => h (UInt8.toNat_inj.1 h')
  have q1 := e 120 h1
  have q2 := e 121 h2
  have q3 := e 122 h3
  have r1 : (120 : UInt8).toNat = 120 := rfl
  have r2 : (121 : UInt8).toNat = 121 := rfl
  have r3 : (122 : UInt8).toNat = 122 := rfl
  have hlt := c.toNat_lt
  have hor : (c.toNat : Int) < 120 ∨ (122 : Int) < (c.toNat : Int) := by omega
  have hw64 : wrap64 (c.toNat : Int) = (c.toNat : Int) := IntWalk.wrap64_in _ ⟨by omega, by omega⟩
  clear e q1 q2 q3 r1 r2 r3 h1 h2 h3
  rcases hor with h | h
  · go_enter Try.func6, Try.ntmps6
    go_wp2
    go_ret
    exact ⟨by rw [HC.out]; rfl, Below.refl _ _⟩
  · go_enter Try.func6, Try.ntmps6
    go_wp2
    go_ret
    exact ⟨by rw [HC.out]; rfl, Below.refl _ _⟩
set_option maxHeartbeats 4000000 in
theorem RenameType_spec (l : List UInt8) (w : World) (hl : l.length ≤ 1048576) :
    Calls Try.prog 4 #[.string ⟨l.toArray⟩] w fun e w' => e = .returned (.string ⟨(renL l).toArray⟩) ∧ Below w.heap.size w w' := by
  have hsz : (ByteArray.mk l.toArray).size = l.length := by simp [ByteArray.size]
  have HL := hid hl
  go_enter Try.func4, Try.ntmps4
  go_wp2_with fail
  go_loopg [3, 7] l.length (fun q o i wr => ∃ k : Nat, k ≤ l.length ∧ l.length - k ≤ q ∧ i = .int .i64 k ∧ o = .string ⟨((l.take k).map cap).toArray⟩ ∧ Below w.heap.size w wr)
  case atStart => exact ⟨0, Nat.zero_le _, by simp, rfl, rfl, Below.refl _ _⟩
  case round =>
    obtain ⟨k, hk, hq, rfl, rfl, hb⟩ := hrel
    have HB := hid hb
    have hbz := hb.size
    clear hb
    by_cases hlt : k < l.length
    · obtain ⟨c, hc⟩ : ∃ c, l[k]? = some c := ⟨_, List.getElem?_eq_getElem hlt⟩
      have hi2 : ((ByteArray.mk l.toArray)[k]'(by rw [hsz]; exact hlt)) = c := by
        have := (List.getElem?_eq_some_iff.1 hc).2
        rw [← this]
        rfl
      have hi1 : l[k]'hlt = c := hi2
      have HTK : Hid ((l.take (k + 1)).map cap = (l.take k).map cap ++ [cap c]) := by
        show _ = _
        rw [List.take_add_one, hc, List.map_append]
        rfl
      have hol : ((l.take k).map cap).length ≤ 1048576 := by rw [List.length_map, List.length_take]; omega
      clear hc
      generalize (l.take k).map cap = o at *
      go_wp2_with fail
      refine (l1Capital_any c wr).mono ?_
      rintro e w1 ⟨rfl, hb⟩
      have HB1 : Hid (Below w.heap.size w w1) := HB.out.trans (hb.mono hbz)
      have hcv := run_byte (P := Try.prog) w1 25 9 5 Try.underlying25 Try.underlying5 Try.underlying9 (cap c) _ rfl
      clear hb
      go_wp2_with fail
      go_roundg (l.length - (k + 1))
      case measure => omega
      case rel =>
        have hcat : (ByteArray.mk o.toArray ++ ByteArray.mk #[cap c]) = ⟨(o ++ [cap c]).toArray⟩ := by
          apply ByteArray.ext
          simp
        exact ⟨k + 1, by omega, by omega, by go_num, by rw [HTK.out, hcat], HB1.out.alloc HB1.out.size _⟩
    · have hke : k = l.length := by omega
      subst hke
      rw [List.take_length]
      clear hlt hq hk
      have ho := TypeValid_spec l wr (by unfold maxLen; omega)
      cases h : ty l with
      | none =>
        have HR : Hid (renL l = []) := ren_none h
        rw [h] at ho
        clear h
        go_wp2_with fail
        refine ho.mono ?_
        rintro e w1 ⟨rfl, hb⟩
        have HB1 : Hid (Below w.heap.size w w1) := HB.out.trans (hb.mono hbz)
        clear hb ho
        go_wp2
        go_ret
        exact ⟨by rw [HR.out]; rfl, HB1.out⟩
      | some t =>
        have HR : Hid (renL l = l.map cap) := (ren_some h).1
        rw [h] at ho
        clear h
        go_wp2_with fail
        refine ho.mono ?_
        rintro e w1 ⟨rfl, hb⟩
        have HB1 : Hid (Below w.heap.size w w1) := HB.out.trans (hb.mono hbz)
        clear hb ho
        go_wp2
        go_ret
        exact ⟨by rw [HR.out]; rfl, HB1.out⟩
end Ren
end Go.Proofs.Ytomfppiinhhiaaa
