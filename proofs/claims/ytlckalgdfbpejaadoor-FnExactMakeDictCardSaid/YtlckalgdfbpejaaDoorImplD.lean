/- The program's dictOf, DictValid, InstanceOf, SizeOfDict and DepthOfDict at every text. Conditions: the text is at most 2^31 bytes long. -/
import Derived.Test.YtlckalgdfbpejaaDoorReadD
set_option linter.unusedVariables false
set_option linter.unusedSimpArgs false
set_option maxRecDepth 100000
namespace Go.Proofs.YtlckalgdfbpejaaDoor
open Go.RowKit Dt
namespace DictI
/-- dictOf at a dictionary -/
def DOok (w : World) (c : UInt8) (k : F) (e : Ending) (w' : World) : Prop := ∃ b, e = .returned (.pointer (some ⟨b, 0, none⟩)) ∧ ID (fun k => w.heap.size ≤ k) w' c k b ∧ Below w.heap.size w w'
def DOno (w : World) (e : Ending) (w' : World) : Prop := e = .returned (.pointer none) ∧ Below w.heap.size w w'

theorem dictOf_some (l : List UInt8) (c : UInt8) (k : F) (w : World) (h : dt l = some (c, k)) : Calls Tryd.prog 39 #[.string ⟨l.toArray⟩] w (DOok w c k) := by
  obtain ⟨rfl, h1, h2, h3, hl⟩ := dt_some h
  have hp : rD (dtext c k) = some (c, k, []) := by
    have := pD_text h1 h2 h3 (dtext c k).length [] (Nat.le_refl _) (by simp)
    simpa [rD] using this
  have ho := (ReadD.all _ (dtext c k) (Nat.le_refl _) hl).1 _ _ _ hp
  clear hp h h1 h2 h3
  generalize dtext c k = l at *
  go_enter Tryd.func39, Tryd.ntmps39
  go_wp2_with (first
    | (go_at_call 66; refine (ho _).mono ?_; rintro e w1 ⟨b, rfl, hn, hb⟩; have HN := hid hn; have HB := hid hb; clear hn hb))
  go_ret
  exact ⟨_, rfl, HN.out, HB.out⟩

theorem dictOf_none (l : List UInt8) (w : World) (hl : l.length ≤ 2147483648) (h : dt l = none) : Calls Tryd.prog 39 #[.string ⟨l.toArray⟩] w (DOno w) := by
  by_cases hlen : 1200 < l.length
  · clear h
    go_enter Tryd.func39, Tryd.ntmps39
    go_wp2
    go_ret
    exact ⟨rfl, Below.refl _ _⟩
  · obtain ⟨o1, o2⟩ := ReadD.all l.length l (Nat.le_refl _) (by omega)
    cases hp : rD l with
    | none =>
      have ho := o2 hp
      clear o1 o2 hp h
      go_enter Tryd.func39, Tryd.ntmps39
      go_wp2_with (first
        | (go_at_call 66; refine (ho _).mono ?_; rintro e w1 ⟨r, rfl, hb⟩; have HB := hid hb; clear hb))
      all_goals
        go_ret
        exact ⟨rfl, HB.out⟩
    | some x =>
      obtain ⟨c, k, r⟩ := x
      have ho := o1 _ _ _ hp
      cases r with
      | nil => rw [dt_pD_some hp (by omega)] at h; simp at h
      | cons x r =>
        clear o1 o2 hp h
        go_enter Tryd.func39, Tryd.ntmps39
        go_wp2_with (first
          | (go_at_call 66; refine (ho _).mono ?_; rintro e w1 ⟨b, rfl, hn, hb⟩; have HB := hid hb; clear hn hb))
        go_ret
        exact ⟨rfl, HB.out⟩

theorem DictValid_impl (l : List UInt8) (w : World) (hl : l.length ≤ 2147483648) : Calls Tryd.prog 34 #[.string ⟨l.toArray⟩] w fun e w' => e = .returned (.bool (dt l).isSome) ∧ Below w.heap.size w w' := by
  cases h : dt l with
  | none =>
    have ho := dictOf_none l w hl h
    clear h
    go_enter Tryd.func34, Tryd.ntmps34
    go_wp2_with (first
      | (go_at_call 39; refine ho.mono ?_; rintro e w1 ⟨rfl, hb⟩; have HB := hid hb; clear hb))
    go_ret
    exact ⟨rfl, HB.out⟩
  | some t =>
    obtain ⟨c, k⟩ := t
    have ho := dictOf_some l c k w h
    clear h
    go_enter Tryd.func34, Tryd.ntmps34
    go_wp2_with (first
      | (go_at_call 39; refine ho.mono ?_; rintro e w1 ⟨b, rfl, hn, hb⟩; have HB := hid hb; clear hb hn))
    go_ret
    exact ⟨rfl, HB.out⟩


end DictI
end Go.Proofs.YtlckalgdfbpejaaDoor
