/- Whether a world has a class, of both sides. Conditions: those typed. -/
import Derived.Test.YtbdnhcfebgkpdaaDoorWorldOpen
import Derived.Test.YtbdnhcfebgkpdaaDoorStr
import Derived.Test.YtbdnhcfebgkpdaaDoorReg
import Derived.Deep.LoopGhost
set_option linter.unusedVariables false
set_option linter.unusedSimpArgs false
set_option maxRecDepth 100000
namespace Go.Proofs.YtbdnhcfebgkpdaaDoor
open Go.RowKit
namespace Known
/-- the number of the first class of that name, or -1 -/
def idxC (cs : List BB) (x : ByteArray) : Int := match cs.findIdx? (fun p => decide (p.1 = x)) with | some k => k | none => -1
def knownB (cs : List BB) (x : ByteArray) : Bool := cs.any (fun p => decide (p.1 = x))
theorem idxC_none {cs : List BB} {x : ByteArray} (h : ∀ p ∈ cs, p.1 ≠ x) : idxC cs x = -1 ∧ knownB cs x = false := by
  have h1 : cs.findIdx? (fun p => decide (p.1 = x)) = none := by
    rw [List.findIdx?_eq_none_iff]
    intro p hp; simpa using h p hp
  refine ⟨by unfold idxC; rw [h1], ?_⟩
  unfold knownB
  rw [List.any_eq_false]
  intro p hp; simpa using h p hp
theorem idxC_some {cs : List BB} {x : ByteArray} {k : Nat} {p : BB} (h : ∀ q ∈ cs.take k, q.1 ≠ x) (hk : cs[k]? = some p) (hp : p.1 = x) : idxC cs x = k ∧ knownB cs x = true := by
  obtain ⟨hlt, rfl⟩ := List.getElem?_eq_some_iff.1 hk
  have h1 : cs.findIdx? (fun p => decide (p.1 = x)) = some k := by
    rw [List.findIdx?_eq_some_iff_getElem]
    refine ⟨hlt, by simpa using hp, fun j hj => ?_⟩
    have : cs[j]'(by omega) ∈ cs.take k := by
      rw [List.mem_take_iff_getElem]
      exact ⟨j, by omega, rfl⟩
    simpa using h _ this
  refine ⟨by unfold idxC; rw [h1], ?_⟩
  unfold knownB
  rw [List.any_eq_true]
  exact ⟨_, List.getElem_mem hlt, by simpa using hp⟩
theorem idx_known (cs : List BB) (x : ByteArray) : knownB cs x = decide (0 ≤ idxC cs x) := by
  by_cases h : ∀ p ∈ cs, p.1 ≠ x
  · obtain ⟨h1, h2⟩ := idxC_none h
    rw [h1, h2]; rfl
  · unfold knownB idxC
    cases hf : cs.findIdx? (fun p => decide (p.1 = x)) with
    | none =>
      rw [List.findIdx?_eq_none_iff] at hf
      exact absurd (fun p hp => by simpa using hf p hp) h
    | some k =>
      obtain ⟨hlt, hk, _⟩ := List.findIdx?_eq_some_iff_getElem.1 hf
      have : cs.any (fun p => decide (p.1 = x)) = true := List.any_eq_true.2 ⟨_, List.getElem_mem hlt, hk⟩
      rw [this]; simp
theorem idx_lt (cs : List BB) (x : ByteArray) : idxC cs x < cs.length ∧ -1 ≤ idxC cs x := by
  unfold idxC
  cases hf : cs.findIdx? (fun p => decide (p.1 = x)) with
  | none => simp; omega
  | some k =>
    obtain ⟨hlt, _⟩ := List.findIdx?_eq_some_iff_getElem.1 hf
    simp; omega
theorem take_step {cs : List BB} {x : ByteArray} {k : Nat} {p : BB} (h : ∀ q ∈ cs.take k, q.1 ≠ x) (hk : cs[k]? = some p) (hp : p.1 ≠ x) : ∀ q ∈ cs.take (k + 1), q.1 ≠ x := by
  obtain ⟨hlt, rfl⟩ := List.getElem?_eq_some_iff.1 hk
  intro q hq
  rw [List.take_succ_eq_append_getElem hlt, List.mem_append] at hq
  rcases hq with hq | hq
  · exact h q hq
  · simp at hq; rw [hq]; exact hp
theorem str_eq {x y : ByteArray} (h : x = y) : (x.toList == y.toList) = true := by rw [h]; simp
theorem str_ne {x y : ByteArray} (h : x ≠ y) : (x.toList == y.toList) = false := by
  rw [beq_eq_false_iff_ne]
  intro e
  rw [ByteArray.toList_eq, ByteArray.toList_eq] at e
  exact h (ByteArray.ext (Array.toList_inj.1 e))

set_option maxHeartbeats 2000000 in
theorem l3Class_any (a : Option Addr) (cap : Nat) (yi : Option Addr) (n c : Nat) (cs : List BB) (x : ByteArray) (w : World) (hs : SP w (.slice a cs.length cap) cs) :
    Calls Tryd.prog 71 #[.agg #[.slice a cs.length cap, .slice yi n c], .string x] w fun e w' => e = .returned (.int .i64 (idxC cs x)) ∧ Below w.heap.size w w' := by
  have hn := hs.sizes.1
  unfold maxLen at hn
  have HS := hid hs
  clear hs
  go_enter Tryd.func71, Tryd.ntmps71
  go_wp2_with fail
  go_loopg [5, 10] cs.length (fun q j i wr => ∃ k : Nat, k ≤ cs.length ∧ cs.length - k ≤ q ∧ i = .int .i64 k ∧ Hid (∀ q ∈ cs.take k, q.1 ≠ x) ∧ Below w.heap.size w wr)
  case atStart => exact ⟨0, Nat.zero_le _, by simp, rfl, by intro q hq; simp at hq, (Below.refl _ _).alloc (Nat.le_refl _) _⟩
  case round =>
    obtain ⟨k, hk, hq, rfl, hno, hb⟩ := hrel
    have HB := hid hb
    have HNO := hid hno
    have hbz := hb.size
    clear hb hno
    by_cases hlt : k < cs.length
    · obtain ⟨⟨p, s⟩, hp⟩ : ∃ p, cs[k]? = some p := ⟨_, List.getElem?_eq_getElem hlt⟩
      obtain ⟨b, off, rfl, k0, k1, z0, z1, hbl⟩ := sp_at (HS.out.below HB.out) hp
      have HP := hid hp
      clear hp
      by_cases hx : p = x
      · have he := str_eq hx
        have HR : Hid (idxC cs x = k) := (idxC_some HNO.out HP.out hx).1
        clear hx
        go_wp2_with fail
        go_ret
        exact ⟨by rw [HR.out]; rfl, HB.out.alloc (by omega) _⟩
      · have he := str_ne hx
        have HT : Hid (∀ q ∈ cs.take (k + 1), q.1 ≠ x) := take_step HNO.out HP.out hx
        clear hx
        go_wp2_with fail
        go_roundg (gk - 1)
        case measure => omega
        case rel => exact ⟨k + 1, by omega, by omega, by go_num, HT.out, HB.out.alloc (by omega) _⟩
    · have hke : k = cs.length := by omega
      have HR : Hid (idxC cs x = -1) := (idxC_none (by have := HNO.out; rw [hke, List.take_length] at this; exact this)).1
      clear hke
      go_wp2_with fail
      go_ret
      exact ⟨by rw [HR.out]; rfl, HB.out⟩

theorem clo_any (p s x : ByteArray) (bx : Nat) (w : World) (hx : w.cell? ⟨bx, 0, none⟩ = some (.string x)) :
    Calls Tryd.prog 87 #[.agg #[.string p, .string s], .pointer (some ⟨bx, 0, none⟩)] w fun e w' => e = .returned (.bool (decide (p = x))) ∧ Below w.heap.size w w' := by
  have hbl := lt_of_cell hx
  dsimp only at hbl
  by_cases h : p = x
  · have he := str_eq h
    have HD : Hid (decide (p = x) = true) := decide_eq_true h
    clear h
    go_enter Tryd.func87, Tryd.ntmps87
    go_wp2_with fail
    go_ret
    exact ⟨by rw [HD.out]; rfl, (Below.refl _ _).alloc (Nat.le_refl _) _⟩
  · have he := str_ne h
    have HD : Hid (decide (p = x) = false) := decide_eq_false h
    clear h
    go_enter Tryd.func87, Tryd.ntmps87
    go_wp2_with fail
    go_ret
    exact ⟨by rw [HD.out]; rfl, (Below.refl _ _).alloc (Nat.le_refl _) _⟩

set_option maxHeartbeats 2000000 in
theorem indexFunc_any (a : Option Addr) (cap : Nat) (cs : List BB) (x : ByteArray) (bx : Nat) (w : World) (hx : w.cell? ⟨bx, 0, none⟩ = some (.string x)) (hs : SP w (.slice a cs.length cap) cs) :
    Calls Tryd.prog 102 #[.slice a cs.length cap, .func (.func 87) #[] #[.pointer (some ⟨bx, 0, none⟩)]] w fun e w' => e = .returned (.int .i64 (idxC cs x)) ∧ Below w.heap.size w w' := by
  have hn := hs.sizes.1
  unfold maxLen at hn
  have HS := hid hs
  have HX := hid hx
  clear hs hx
  go_enter Tryd.func102, Tryd.ntmps102
  go_wp2_with fail
  go_loopg [5, 8] cs.length (fun q j i wr => ∃ k : Nat, k ≤ cs.length ∧ cs.length - k ≤ q ∧ i = .int .i64 k ∧ Hid (∀ q ∈ cs.take k, q.1 ≠ x) ∧ Below w.heap.size w wr)
  case atStart => exact ⟨0, Nat.zero_le _, by simp, rfl, by intro q hq; simp at hq, Below.refl _ _⟩
  case round =>
    obtain ⟨k, hk, hq, rfl, hno, hb⟩ := hrel
    have HB := hid hb
    have HNO := hid hno
    have hbz := hb.size
    clear hb hno
    by_cases hlt : k < cs.length
    · obtain ⟨⟨p, s⟩, hp⟩ : ∃ p, cs[k]? = some p := ⟨_, List.getElem?_eq_getElem hlt⟩
      obtain ⟨b, off, rfl, k0, k1, z0, z1, hbl⟩ := sp_at (HS.out.below HB.out) hp
      have HP := hid hp
      have HXR : Hid (wr.cell? ⟨bx, 0, none⟩ = some (.string x)) := (HB.out.cell (lt_of_cell HX.out)).trans HX.out
      clear hp
      by_cases hx : p = x
      · have HD : Hid (decide (p = x) = true) := decide_eq_true hx
        have HR : Hid (idxC cs x = k) := (idxC_some HNO.out HP.out hx).1
        clear hx
        go_wp2_with (first
          | (go_at_call 87; refine (clo_any p s x bx _ HXR.out).mono ?_; rintro e w1 ⟨rfl, hb⟩; rw [HD.out]; have HB1 : Hid (Below w.heap.size w w1) := HB.out.trans (hb.mono HB.out.size); clear hb))
        go_ret
        exact ⟨by rw [HR.out]; rfl, HB1.out⟩
      · have HD : Hid (decide (p = x) = false) := decide_eq_false hx
        have HT : Hid (∀ q ∈ cs.take (k + 1), q.1 ≠ x) := take_step HNO.out HP.out hx
        clear hx
        go_wp2_with (first
          | (go_at_call 87; refine (clo_any p s x bx _ HXR.out).mono ?_; rintro e w1 ⟨rfl, hb⟩; rw [HD.out]; have HB1 : Hid (Below w.heap.size w w1) := HB.out.trans (hb.mono HB.out.size); clear hb))
        go_roundg (gk - 1)
        case measure => omega
        case rel => exact ⟨k + 1, by omega, by omega, by go_num, HT.out, HB1.out⟩
    · have hke : k = cs.length := by omega
      have HR : Hid (idxC cs x = -1) := (idxC_none (by have := HNO.out; rw [hke, List.take_length] at this; exact this)).1
      clear hke
      go_wp2_with fail
      go_ret
      exact ⟨by rw [HR.out]; rfl, HB.out⟩
theorem containsFunc_any (a : Option Addr) (cap : Nat) (cs : List BB) (x : ByteArray) (bx : Nat) (w : World) (hx : w.cell? ⟨bx, 0, none⟩ = some (.string x)) (hs : SP w (.slice a cs.length cap) cs) :
    Calls Tryd.prog 86 #[.slice a cs.length cap, .func (.func 87) #[] #[.pointer (some ⟨bx, 0, none⟩)]] w fun e w' => e = .returned (.bool (knownB cs x)) ∧ Below w.heap.size w w' := by
  have HR : Hid (knownB cs x = decide (0 ≤ idxC cs x)) := idx_known cs x
  obtain ⟨hl1, hl2⟩ := idx_lt cs x
  have hn := hs.sizes.1
  unfold maxLen at hn
  have HC := hid (indexFunc_any a cap cs x bx w hx hs)
  clear hs hx
  generalize idxC cs x = i at *
  go_enter Tryd.func86, Tryd.ntmps86
  go_wp2_with fail
  refine HC.out.mono ?_
  rintro e w1 ⟨rfl, hb⟩
  have HB := hid hb
  clear hb
  go_wp2
  go_ret
  exact ⟨ret_bool (by rw [HR.out]), HB.out⟩
theorem known_any (v : Value) (cs : List BB) (x : ByteArray) (w : World) (hs : SP w v cs) :
    Calls Tryd.prog 66 #[v, .string x] w fun e w' => e = .returned (.bool (knownB cs x)) ∧ Below w.heap.size w w' := by
  obtain ⟨a, cap, rfl⟩ := sp_slice hs
  have HB0 : Hid (Below w.heap.size w (w.alloc (.cells #[.string x] 9))) := (Below.refl _ _).alloc (Nat.le_refl _) _
  have HC := hid (containsFunc_any a cap cs x w.heap.size _ (heap_cell (heap_alloc_new w (.cells #[.string x] 9)) 0) (hs.below HB0.out))
  clear hs
  have hmf : ∀ (fn : Fn) (first cap : Array Value) (w : World), (Instr.makeFunc fn first cap).run Tryd.prog w = .ok (.func fn first cap) w := fun _ _ _ _ => rfl
  go_enter Tryd.func66, Tryd.ntmps66
  go_wp2_with fail
  refine HC.out.mono ?_
  rintro e w1 ⟨rfl, hb⟩
  have HB : Hid (Below w.heap.size w w1) := HB0.out.trans (hb.mono (by simp))
  clear hb
  go_wp2
  go_ret
  exact ⟨rfl, HB.out⟩
end Known
end Go.Proofs.YtbdnhcfebgkpdaaDoor
