/- The reference's reader of dictionaries: what 'is' returns, and l1In at a digit. Conditions: the text is no longer than 2^31 bytes. -/
import Derived.Test.YtaapdhacnbhohaaDoorKitD
import Derived.Test.YtaapdhacnbhohaaDoorStr
import Derived.Deep.QuietTactic
import Derived.BigQuiet
set_option linter.unusedVariables false
set_option linter.unusedSimpArgs false
set_option maxRecDepth 100000
namespace Go.Proofs.YtaapdhacnbhohaaDoor
open Go.RowKit Dt
namespace L6
/-- block b is a reader of l that stands at i -/
def RD (w : World) (b : Nat) (l : List UInt8) (i : Nat) (bad : Bool) : Prop := w.heap[b]? = some (.cells #[.string ⟨l.toArray⟩, .int .i64 i, .bool bad] 127 (0, 0))
def IsYes (w : World) (b : Nat) (l : List UInt8) (i : Nat) (bad : Bool) (e : Ending) (w' : World) : Prop := e = .returned (.bool true) ∧ RD w' b l (i + 1) bad ∧ w.grownBy w' (some b)
def IsNo (w : World) (b : Nat) (l : List UInt8) (i : Nat) (bad : Bool) (e : Ending) (w' : World) : Prop := e = .returned (.bool false) ∧ RD w' b l i bad ∧ w.grownBy w' (some b)
theorem grownN (w : World) (n : Nat) (row : Option Nat) : w.grownBy (w.drewN n) row := ⟨rfl, rfl, rfl, Nat.le_refl _, fun _ _ _ => rfl⟩
theorem at_get {l : List UInt8} {i : Nat} {c : UInt8} (h : l[i]? = some c) : ∃ hi : i < l.length, ((⟨l.toArray⟩ : ByteArray)[i]'hi) = c := by
  obtain ⟨hlt, rfl⟩ := List.getElem?_eq_some_iff.1 h
  exact ⟨hlt, rfl⟩
theorem is_yes (w : World) (b : Nat) (l : List UInt8) (i : Nat) (bad : Bool) (c : UInt8) (hs : l.length ≤ 2147483648) (hi : l[i]? = some c) (h : RD w b l i bad) : Calls Tryd.prog 118 #[.pointer (some ⟨b, 0, none⟩), .int .u8 c.toNat] w (IsYes w b l i bad) := by
  have k0 : w.cell? ⟨b, 0, none⟩ = some (.string ⟨l.toArray⟩) := heap_cell h 0
  have k1 : w.cell? ⟨b, 1, none⟩ = some (.int .i64 i) := heap_cell h 1
  have f1 : w.frozen? ⟨b, 1, none⟩ = false := heap_free h 1
  have H := hid h
  obtain ⟨hlt, hc⟩ := at_get hi
  clear h hi
  have hsz : (⟨l.toArray⟩ : ByteArray).size = l.length := by show l.toArray.size = _; simp
  obtain ⟨s, hsl⟩ : ∃ s : ByteArray, s = ⟨l.toArray⟩ := ⟨_, rfl⟩
  rw [← hsl] at k0
  have hlt2 : i < s.size := by rw [hsl, hsz]; exact hlt
  have hle : s.size ≤ 2147483648 := by rw [hsl, hsz]; exact hs
  have hc2 : ((s[i].toNat : Int) == (c.toNat : Int)) = true := by subst hsl; rw [hc]; simp
  have hlt3 : decide (i < s.size) = true := by simp; omega
  have HC := hid hc
  have HSL := hid hsl
  clear hc hsl hsz
  go_enter Tryd.func118, Tryd.ntmps118
  go_wp2
  go_quiet (fail)
  go_wp2
  go_ret
  exact ⟨rfl, heap_set (w := w) H.out 1 _, grown_trans (grownN _ _ _) ⟨rfl, rfl, rfl, by simp, fun k hk hne => Below.heap_setCell _ _ _ _ (fun e => hne (by rw [e]))⟩⟩
theorem is_no (w : World) (b : Nat) (l : List UInt8) (i : Nat) (bad : Bool) (c : UInt8) (hs : l.length ≤ 2147483648) (hi : l[i]? ≠ some c) (hl : i ≤ l.length) (h : RD w b l i bad) : Calls Tryd.prog 118 #[.pointer (some ⟨b, 0, none⟩), .int .u8 c.toNat] w (IsNo w b l i bad) := by
  have k0 : w.cell? ⟨b, 0, none⟩ = some (.string ⟨l.toArray⟩) := heap_cell h 0
  have k1 : w.cell? ⟨b, 1, none⟩ = some (.int .i64 i) := heap_cell h 1
  have H := hid h
  clear h
  have hsz : (⟨l.toArray⟩ : ByteArray).size = l.length := by show l.toArray.size = _; simp
  obtain ⟨s, hsl⟩ : ∃ s : ByteArray, s = ⟨l.toArray⟩ := ⟨_, rfl⟩
  rw [← hsl] at k0
  have hle : s.size ≤ 2147483648 := by rw [hsl, hsz]; exact hs
  by_cases hlt : i < l.length
  · have hlt2 : i < s.size := by rw [hsl, hsz]; exact hlt
    have hc2 : ((s[i].toNat : Int) == (c.toNat : Int)) = false := by
      subst hsl
      rw [beq_eq_false_iff_ne]
      intro e
      apply hi
      rw [List.getElem?_eq_getElem hlt]
      have : l[i].toNat = c.toNat := by exact_mod_cast e
      rw [UInt8.toNat_inj.1 this]
    have hlt3 : decide (i < s.size) = true := by simp; omega
    have HSL := hid hsl
    clear hsl hsz hi
    go_enter Tryd.func118, Tryd.ntmps118
    go_wp2
    go_quiet (fail)
    go_wp2
    go_ret
    exact ⟨rfl, H.out, grownN _ _ _⟩
  · have hlt2 : s.size ≤ i := by rw [hsl, hsz]; omega
    have hlt3 : decide (i < s.size) = false := by simp; omega
    have HSL := hid hsl
    clear hsl hsz hi
    go_enter Tryd.func118, Tryd.ntmps118
    go_wp2
    go_quiet (fail)
    go_wp2
    go_ret
    exact ⟨rfl, H.out, grownN _ _ _⟩
theorem l1In_dig (c : UInt8) (w : World) :
    Calls Tryd.prog 70 #[.int .i64 c.toNat, .int .i64 48, .int .i64 57] w fun e w' => e = .returned (.bool (decide (dig c))) ∧ w' = w := by
  have e : (decide (dig c)) = decide (48 ≤ (c.toNat : Int) ∧ (c.toNat : Int) ≤ 57) := by
    unfold dig
    rw [Bool.eq_iff_iff]; simp [UInt8.le_iff_toNat_le]; omega
  by_cases h1 : 48 ≤ (c.toNat : Int)
  · by_cases h2 : (c.toNat : Int) ≤ 57
    · have E : Hid (decide (dig c) = true) := by show _ = _; rw [e]; simp; exact ⟨h1, h2⟩
      clear e
      go_enter Tryd.func70, Tryd.ntmps70
      go_wp2
      go_ret
      exact ⟨by rw [E.out]; rfl, rfl⟩
    · have E : Hid (decide (dig c) = false) := by show _ = _; rw [e]; simp; omega
      clear e
      go_enter Tryd.func70, Tryd.ntmps70
      go_wp2
      go_ret
      exact ⟨by rw [E.out]; rfl, rfl⟩
  · have E : Hid (decide (dig c) = false) := by show _ = _; rw [e]; simp; omega
    clear e
    go_enter Tryd.func70, Tryd.ntmps70
    go_wp2
    go_ret
    exact ⟨by rw [E.out]; rfl, rfl⟩
end L6
end Go.Proofs.YtaapdhacnbhohaaDoor
