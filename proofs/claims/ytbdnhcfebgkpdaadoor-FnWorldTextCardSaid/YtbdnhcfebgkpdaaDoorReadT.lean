/- What the program's reader of types returns: the node of the type at the begin of a text, and what is behind it. Conditions: the text is shorter than 2^62 bytes. -/
import Derived.Test.YtbdnhcfebgkpdaaDoorArity
import Derived.Test.YtbdnhcfebgkpdaaDoorKit
set_option linter.unusedVariables false
set_option linter.unusedSimpArgs false
set_option maxRecDepth 100000
set_option maxRecDepth 100000
namespace Go.Proofs.YtbdnhcfebgkpdaaDoor
open Go.RowKit Ty

theorem take1 (c : UInt8) (s : List UInt8) : ({ data := (c :: s).toArray } : ByteArray).extract 0 1 = ⟨#[c]⟩ := by rw [ByteArray.extract_mk]; simp
theorem drop1 (c : UInt8) (s : List UInt8) (n : Nat) (h : s.length < n) : ({ data := (c :: s).toArray } : ByteArray).extract 1 n = ⟨s.toArray⟩ := by rw [ByteArray.extract_mk]; simp; exact List.take_of_length_le (by omega)
theorem ex40 : ({ data := #[40, 44] } : ByteArray).extract 0 1 = ⟨#[40]⟩ := rfl
theorem ex44 : ({ data := #[40, 44] } : ByteArray).extract 1 2 = ⟨#[44]⟩ := rfl
attribute [local go_sem] take1 drop1 ex40 ex44

def RTok (w : World) (t : Ty) (r : List UInt8) (e : Ending) (w' : World) : Prop :=
  ∃ b, e = .returned (.tuple #[.pointer (some ⟨b, 0, none⟩), .string ⟨r.toArray⟩]) ∧ INode w.heap.size w' t b ∧ Below w.heap.size w w'
def RTno (w : World) (e : Ending) (w' : World) : Prop :=
  ∃ r, e = .returned (.tuple #[.pointer none, .string r]) ∧ Below w.heap.size w w'

theorem infoPN : (Tryd.prog.info? 65).map (fun i => (i.zero, i.size, i.bytes)) = some (some (.pointer none), 1, 8) := by kernel_rfl

namespace ReadT
abbrev Ok (s : List UInt8) (t : Ty) (r : List UInt8) : Prop := ∀ w, Calls Tryd.prog 64 #[.string ⟨s.toArray⟩] w (RTok w t r)
abbrev No (s : List UInt8) : Prop := ∀ w, Calls Tryd.prog 64 #[.string ⟨s.toArray⟩] w (RTno w)

theorem nil : No [] := by
  intro w
  go_enter Tryd.func64, Tryd.ntmps64
  go_wp2
  go_ret2
  exact ⟨_, rfl, Below.refl _ _⟩

theorem none (c : UInt8) (s : List UInt8) (hs : s.length + 1 ≤ maxLen) (h : ar c = .none) : No (c :: s) := by
  intro w
  have ha : Hid (arI c = -1) := by simp [arI, h, Hid]
  unfold maxLen at hs
  clear h
  go_enter Tryd.func64, Tryd.ntmps64
  go_wp2_with (first
    | (go_at_call 84; refine (arity_any _ _).mono ?_; rintro e w' ⟨rfl, rfl⟩; rw [ha.out])
    | (go_at_call 85; refine (sHasPrefix _ _ _).mono ?_; rintro e w' ⟨rfl, rfl⟩))
  go_ret2
  exact ⟨_, rfl, Below.refl _ _⟩

theorem leaf (c : UInt8) (s : List UInt8) (hs : s.length + 1 ≤ maxLen) (h : ar c = some 0) : Ok (c :: s) (.leaf c) s := by
  intro w
  have ha : Hid (arI c = 0) := by simp [arI, h, Hid]
  unfold maxLen at hs
  clear h
  go_enter Tryd.func64, Tryd.ntmps64
  go_wp2_with (first
    | (go_at_call 84; refine (arity_any _ _).mono ?_; rintro e w' ⟨rfl, rfl⟩; rw [ha.out])
    | (go_at_call 85; refine (sHasPrefix _ _ _).mono ?_; rintro e w' ⟨rfl, rfl⟩))
  refine wp_loop_rounds 1 ?_
  rw [rounds_succ]
  go_wp2_with (first
    | (go_at_call 84; refine (arity_any _ _).mono ?_; rintro e w' ⟨rfl, rfl⟩; rw [ha.out])
    | (go_at_call 85; refine (sHasPrefix _ _ _).mono ?_; rintro e w' ⟨rfl, rfl⟩))
  go_ret2
  exact ⟨_, rfl, ⟨Nat.le_refl _, _, heap_alloc_new _ _, World.ownsRow_nil _ _ _ _⟩, (Below.refl _ _).alloc (Nat.le_refl _) _⟩

theorem noOpen (c : UInt8) (k : Nat) (s : List UInt8) (hs : s.length + 1 ≤ maxLen) (h : ar c = some (k + 1)) (hh : (s.head? == some 40) = false) : No (c :: s) := by
  intro w
  obtain ⟨kk, ha, hk⟩ : ∃ kk : Int, Hid (arI c = kk) ∧ 0 < kk := ⟨_, rfl, by simp [arI, h]⟩
  unfold maxLen at hs
  clear h
  go_enter Tryd.func64, Tryd.ntmps64
  go_wp2_with (first
    | (go_at_call 84; refine (arity_any _ _).mono ?_; rintro e w' ⟨rfl, rfl⟩; rw [ha.out])
    | (go_at_call 85; refine (sHasPrefix _ _ _).mono ?_; rintro e w' ⟨rfl, rfl⟩))
  refine wp_loop_rounds 1 ?_
  rw [rounds_succ]
  go_wp2_with (first
    | (go_at_call 84; refine (arity_any _ _).mono ?_; rintro e w' ⟨rfl, rfl⟩; rw [ha.out])
    | (go_at_call 85; refine (sHasPrefix _ _ _).mono ?_; rintro e w' ⟨rfl, rfl⟩))
  go_ret2
  exact ⟨_, rfl, (Below.refl _ _).alloc (Nat.le_refl _) _⟩

theorem noFirst (c : UInt8) (k : Nat) (s : List UInt8) (hs : s.length + 2 ≤ maxLen) (h : ar c = some (k + 1)) (ih : No s) : No (c :: 40 :: s) := by
  intro w
  obtain ⟨kk, ha, hk⟩ : ∃ kk : Int, Hid (arI c = kk) ∧ 0 < kk := ⟨_, rfl, by simp [arI, h]⟩
  unfold maxLen at hs
  clear h
  go_enter Tryd.func64, Tryd.ntmps64
  go_wp2_with (first
    | (go_at_call 84; refine (arity_any _ _).mono ?_; rintro e w' ⟨rfl, rfl⟩; rw [ha.out])
    | (go_at_call 85; refine (sHasPrefix _ _ _).mono ?_; rintro e w' ⟨rfl, rfl⟩))
  refine wp_loop_rounds 1 ?_
  rw [rounds_succ]
  go_wp2_with (first
    | (go_at_call 84; refine (arity_any _ _).mono ?_; rintro e w' ⟨rfl, rfl⟩; rw [ha.out])
    | (go_at_call 85; refine (sHasPrefix _ _ _).mono ?_; rintro e w' ⟨rfl, rfl⟩))
  refine (ih _).mono ?_
  rintro e w1 ⟨r, rfl, hb⟩
  have HB := hid hb
  clear hb
  go_wp2
  go_ret2
  exact ⟨_, rfl, ((Below.refl _ _).alloc (Nat.le_refl _) _).trans (HB.out.mono (by simp))⟩

theorem one (c : UInt8) (s s2 : List UInt8) (t : Ty) (hs : s.length + 2 ≤ maxLen) (hs2 : s2.length + 1 ≤ maxLen) (h : ar c = some 1) (ih1 : Ok s t (41 :: s2)) : Ok (c :: 40 :: s) (.one c t) s2 := by
  intro w
  have ha : Hid (arI c = 1) := by simp [arI, h, Hid]
  unfold maxLen at hs hs2
  clear h
  go_enter Tryd.func64, Tryd.ntmps64
  go_wp2_with (first
    | (go_at_call 84; refine (arity_any _ _).mono ?_; rintro e w' ⟨rfl, rfl⟩; rw [ha.out])
    | (go_at_call 85; refine (sHasPrefix _ _ _).mono ?_; rintro e w' ⟨rfl, rfl⟩))
  refine wp_loop_rounds 2 ?_
  rw [rounds_succ]
  go_wp2_with (first
    | (go_at_call 84; refine (arity_any _ _).mono ?_; rintro e w' ⟨rfl, rfl⟩; rw [ha.out])
    | (go_at_call 85; refine (sHasPrefix _ _ _).mono ?_; rintro e w' ⟨rfl, rfl⟩))
  refine (ih1 _).mono ?_
  rintro e w1 ⟨b, rfl, hn, hb⟩
  have hB := below_heap hb (by simp) (heap_alloc_new _ _)
  have k1 : w1.cell? ⟨w.heap.size, 1, Option.none⟩ = some (.slice Option.none 0 0) := heap_cell hB 1
  have HB : Hid (Below w.heap.size w w1) := ((Below.refl _ _).alloc (Nat.le_refl _) _).trans (hb.mono (by simp))
  have hsz := hb.size
  simp only [World.size_alloc] at hsz
  have HN : Hid (INode (w.heap.size + 1) w1 t b) := by have := hn; simp only [World.size_alloc] at this; exact this
  have HBB := hid hB
  clear hB hb hn
  go_wp2_with (first
    | (at_builtin; refine app_push 117 65 (.pointer Option.none) 1 8 Tryd.underlying117 infoPN rfl (by decide) rfl _ _ rfl w1.heap.size (.slice Option.none 0 0) 0 [] rfl (World.ownsRow_nil _ _ _ _) w1.heap.size 1 [.pointer (some ⟨b, 0, Option.none⟩)] rfl rfl (news_one (heap_cell (heap_alloc_new _ _) 0)) (by simp [Value.oneCell']) (by decide) (by decide) (by simp) ?_))
  intro g1 cap1 w2 hown hg
  have hB2 := grown_keep hg ((keeps_alloc w1 _ 0).heap (Nat.zero_le _) HBB.out) (by simp [Value.ownBlock])
  have f1 : w2.frozen? ⟨w.heap.size, 1, Option.none⟩ = false := heap_free hB2 1
  have k2 : w2.cell? ⟨w.heap.size, 1, Option.none⟩ = some (.slice Option.none 0 0) := heap_cell hB2 1
  have HB2 := hid hB2
  have HG := hid hg
  have HO := hid hown
  have hsz2 := hg.size
  simp only [World.size_alloc] at hsz2
  clear hB2 hg hown k1
  go_wp2
  have KS := hid (keeps_set w2 (a := ⟨w.heap.size, 1, Option.none⟩) (.slice (some ⟨g1, 0, Option.none⟩) 1 cap1) (lo := w.heap.size + 1) (Nat.lt_succ_self _))
  have BL : Hid (Below w.heap.size w (w2.setCell ⟨w.heap.size, 1, Option.none⟩ (.slice (some ⟨g1, 0, Option.none⟩) 1 cap1))) := ((HB.out.alloc (by omega) _).grown HG.out (by simp; omega) (by simp [Value.ownBlock])).setCell (Nat.le_refl _) _
  have HN2 : Hid (INode (w.heap.size + 1) (w2.setCell ⟨w.heap.size, 1, Option.none⟩ (.slice (some ⟨g1, 0, Option.none⟩) 1 cap1)) t b) := KS.out.inode (Keeps.inode ((keeps_alloc w1 _ _).trans (keeps_grown HG.out (by simp [Value.ownBlock])) (by simp)) HN.out)
  have HB3 : Hid ((w2.setCell ⟨w.heap.size, 1, Option.none⟩ (.slice (some ⟨g1, 0, Option.none⟩) 1 cap1)).heap[w.heap.size]? = some (.cells #[.string ⟨#[c]⟩, .slice (some ⟨g1, 0, Option.none⟩) 1 cap1, .pointer Option.none] 119 (0, 0))) := heap_set HB2.out 1 _
  have HO3 : Hid ((w2.setCell ⟨w.heap.size, 1, Option.none⟩ (.slice (some ⟨g1, 0, Option.none⟩) 1 cap1)).ownsRow w1.heap.size 65 1 (.slice (some ⟨g1, 0, Option.none⟩) 1 cap1) 1 [.pointer (some ⟨b, 0, Option.none⟩)]) := (KS.out.mono hsz).row HO.out
  have KW : Hid (Keeps (w.heap.size + 1) w1 (w2.setCell ⟨w.heap.size, 1, Option.none⟩ (.slice (some ⟨g1, 0, Option.none⟩) 1 cap1))) := (((Keeps.refl _ _).alloc _ (Nat.le_refl _)).grown HG.out (by simp) (by simp [Value.ownBlock])).set _ (.inl (Nat.lt_succ_self _))
  rw [rounds_succ]
  go_wp2_with (first
    | (go_at_call 84; refine (arity_any _ _).mono ?_; rintro e w' ⟨rfl, rfl⟩; rw [ha.out])
    | (go_at_call 85; refine (sHasPrefix _ _ _).mono ?_; rintro e w' ⟨rfl, rfl⟩))
  go_ret2
  exact ⟨_, rfl, ⟨Nat.le_refl _, _, b, HB3.out, row_mono HO3.out (by omega), HN2.out.mono (Nat.le_succ _)⟩, BL.out⟩

theorem oneNoClose (c : UInt8) (s s2 : List UInt8) (t : Ty) (hs : s.length + 2 ≤ maxLen) (hs2 : s2.length + 1 ≤ maxLen) (h : ar c = some 1) (hh : (s2.head? == some 41) = false) (ih1 : Ok s t s2) : No (c :: 40 :: s) := by
  intro w
  have ha : Hid (arI c = 1) := by simp [arI, h, Hid]
  unfold maxLen at hs hs2
  clear h
  go_enter Tryd.func64, Tryd.ntmps64
  go_wp2_with (first
    | (go_at_call 84; refine (arity_any _ _).mono ?_; rintro e w' ⟨rfl, rfl⟩; rw [ha.out])
    | (go_at_call 85; refine (sHasPrefix _ _ _).mono ?_; rintro e w' ⟨rfl, rfl⟩))
  refine wp_loop_rounds 2 ?_
  rw [rounds_succ]
  go_wp2_with (first
    | (go_at_call 84; refine (arity_any _ _).mono ?_; rintro e w' ⟨rfl, rfl⟩; rw [ha.out])
    | (go_at_call 85; refine (sHasPrefix _ _ _).mono ?_; rintro e w' ⟨rfl, rfl⟩))
  refine (ih1 _).mono ?_
  rintro e w1 ⟨b, rfl, hn, hb⟩
  have hB := below_heap hb (by simp) (heap_alloc_new _ _)
  have k1 : w1.cell? ⟨w.heap.size, 1, Option.none⟩ = some (.slice Option.none 0 0) := heap_cell hB 1
  have HB : Hid (Below w.heap.size w w1) := ((Below.refl _ _).alloc (Nat.le_refl _) _).trans (hb.mono (by simp))
  have hsz := hb.size
  simp only [World.size_alloc] at hsz
  have HN : Hid (INode (w.heap.size + 1) w1 t b) := by have := hn; simp only [World.size_alloc] at this; exact this
  have HBB := hid hB
  clear hB hb hn
  go_wp2_with (first
    | (at_builtin; refine app_push 117 65 (.pointer Option.none) 1 8 Tryd.underlying117 infoPN rfl (by decide) rfl _ _ rfl w1.heap.size (.slice Option.none 0 0) 0 [] rfl (World.ownsRow_nil _ _ _ _) w1.heap.size 1 [.pointer (some ⟨b, 0, Option.none⟩)] rfl rfl (news_one (heap_cell (heap_alloc_new _ _) 0)) (by simp [Value.oneCell']) (by decide) (by decide) (by simp) ?_))
  intro g1 cap1 w2 hown hg
  have hB2 := grown_keep hg ((keeps_alloc w1 _ 0).heap (Nat.zero_le _) HBB.out) (by simp [Value.ownBlock])
  have f1 : w2.frozen? ⟨w.heap.size, 1, Option.none⟩ = false := heap_free hB2 1
  have k2 : w2.cell? ⟨w.heap.size, 1, Option.none⟩ = some (.slice Option.none 0 0) := heap_cell hB2 1
  have HB2 := hid hB2
  have HG := hid hg
  have HO := hid hown
  have hsz2 := hg.size
  simp only [World.size_alloc] at hsz2
  clear hB2 hg hown k1
  go_wp2
  have KS := hid (keeps_set w2 (a := ⟨w.heap.size, 1, Option.none⟩) (.slice (some ⟨g1, 0, Option.none⟩) 1 cap1) (lo := w.heap.size + 1) (Nat.lt_succ_self _))
  have BL : Hid (Below w.heap.size w (w2.setCell ⟨w.heap.size, 1, Option.none⟩ (.slice (some ⟨g1, 0, Option.none⟩) 1 cap1))) := ((HB.out.alloc (by omega) _).grown HG.out (by simp; omega) (by simp [Value.ownBlock])).setCell (Nat.le_refl _) _
  have HN2 : Hid (INode (w.heap.size + 1) (w2.setCell ⟨w.heap.size, 1, Option.none⟩ (.slice (some ⟨g1, 0, Option.none⟩) 1 cap1)) t b) := KS.out.inode (Keeps.inode ((keeps_alloc w1 _ _).trans (keeps_grown HG.out (by simp [Value.ownBlock])) (by simp)) HN.out)
  have HB3 : Hid ((w2.setCell ⟨w.heap.size, 1, Option.none⟩ (.slice (some ⟨g1, 0, Option.none⟩) 1 cap1)).heap[w.heap.size]? = some (.cells #[.string ⟨#[c]⟩, .slice (some ⟨g1, 0, Option.none⟩) 1 cap1, .pointer Option.none] 119 (0, 0))) := heap_set HB2.out 1 _
  have HO3 : Hid ((w2.setCell ⟨w.heap.size, 1, Option.none⟩ (.slice (some ⟨g1, 0, Option.none⟩) 1 cap1)).ownsRow w1.heap.size 65 1 (.slice (some ⟨g1, 0, Option.none⟩) 1 cap1) 1 [.pointer (some ⟨b, 0, Option.none⟩)]) := (KS.out.mono hsz).row HO.out
  have KW : Hid (Keeps (w.heap.size + 1) w1 (w2.setCell ⟨w.heap.size, 1, Option.none⟩ (.slice (some ⟨g1, 0, Option.none⟩) 1 cap1))) := (((Keeps.refl _ _).alloc _ (Nat.le_refl _)).grown HG.out (by simp) (by simp [Value.ownBlock])).set _ (.inl (Nat.lt_succ_self _))
  rw [rounds_succ]
  go_wp2_with (first
    | (go_at_call 84; refine (arity_any _ _).mono ?_; rintro e w' ⟨rfl, rfl⟩; rw [ha.out])
    | (go_at_call 85; refine (sHasPrefix _ _ _).mono ?_; rintro e w' ⟨rfl, rfl⟩))
  go_ret2
  exact ⟨_, rfl, BL.out⟩

theorem twoNoComma (c : UInt8) (s s2 : List UInt8) (t : Ty) (hs : s.length + 2 ≤ maxLen) (hs2 : s2.length + 1 ≤ maxLen) (h : ar c = some 2) (hh : (s2.head? == some 44) = false) (ih1 : Ok s t s2) : No (c :: 40 :: s) := by
  intro w
  have ha : Hid (arI c = 2) := by simp [arI, h, Hid]
  unfold maxLen at hs hs2
  clear h
  go_enter Tryd.func64, Tryd.ntmps64
  go_wp2_with (first
    | (go_at_call 84; refine (arity_any _ _).mono ?_; rintro e w' ⟨rfl, rfl⟩; rw [ha.out])
    | (go_at_call 85; refine (sHasPrefix _ _ _).mono ?_; rintro e w' ⟨rfl, rfl⟩))
  refine wp_loop_rounds 3 ?_
  rw [rounds_succ]
  go_wp2_with (first
    | (go_at_call 84; refine (arity_any _ _).mono ?_; rintro e w' ⟨rfl, rfl⟩; rw [ha.out])
    | (go_at_call 85; refine (sHasPrefix _ _ _).mono ?_; rintro e w' ⟨rfl, rfl⟩))
  refine (ih1 _).mono ?_
  rintro e w1 ⟨b, rfl, hn, hb⟩
  have hB := below_heap hb (by simp) (heap_alloc_new _ _)
  have k1 : w1.cell? ⟨w.heap.size, 1, Option.none⟩ = some (.slice Option.none 0 0) := heap_cell hB 1
  have HB : Hid (Below w.heap.size w w1) := ((Below.refl _ _).alloc (Nat.le_refl _) _).trans (hb.mono (by simp))
  have hsz := hb.size
  simp only [World.size_alloc] at hsz
  have HN : Hid (INode (w.heap.size + 1) w1 t b) := by have := hn; simp only [World.size_alloc] at this; exact this
  have HBB := hid hB
  clear hB hb hn
  go_wp2_with (first
    | (at_builtin; refine app_push 117 65 (.pointer Option.none) 1 8 Tryd.underlying117 infoPN rfl (by decide) rfl _ _ rfl w1.heap.size (.slice Option.none 0 0) 0 [] rfl (World.ownsRow_nil _ _ _ _) w1.heap.size 1 [.pointer (some ⟨b, 0, Option.none⟩)] rfl rfl (news_one (heap_cell (heap_alloc_new _ _) 0)) (by simp [Value.oneCell']) (by decide) (by decide) (by simp) ?_))
  intro g1 cap1 w2 hown hg
  have hB2 := grown_keep hg ((keeps_alloc w1 _ 0).heap (Nat.zero_le _) HBB.out) (by simp [Value.ownBlock])
  have f1 : w2.frozen? ⟨w.heap.size, 1, Option.none⟩ = false := heap_free hB2 1
  have k2 : w2.cell? ⟨w.heap.size, 1, Option.none⟩ = some (.slice Option.none 0 0) := heap_cell hB2 1
  have HB2 := hid hB2
  have HG := hid hg
  have HO := hid hown
  have hsz2 := hg.size
  simp only [World.size_alloc] at hsz2
  clear hB2 hg hown k1
  go_wp2
  have KS := hid (keeps_set w2 (a := ⟨w.heap.size, 1, Option.none⟩) (.slice (some ⟨g1, 0, Option.none⟩) 1 cap1) (lo := w.heap.size + 1) (Nat.lt_succ_self _))
  have BL : Hid (Below w.heap.size w (w2.setCell ⟨w.heap.size, 1, Option.none⟩ (.slice (some ⟨g1, 0, Option.none⟩) 1 cap1))) := ((HB.out.alloc (by omega) _).grown HG.out (by simp; omega) (by simp [Value.ownBlock])).setCell (Nat.le_refl _) _
  have HN2 : Hid (INode (w.heap.size + 1) (w2.setCell ⟨w.heap.size, 1, Option.none⟩ (.slice (some ⟨g1, 0, Option.none⟩) 1 cap1)) t b) := KS.out.inode (Keeps.inode ((keeps_alloc w1 _ _).trans (keeps_grown HG.out (by simp [Value.ownBlock])) (by simp)) HN.out)
  have HB3 : Hid ((w2.setCell ⟨w.heap.size, 1, Option.none⟩ (.slice (some ⟨g1, 0, Option.none⟩) 1 cap1)).heap[w.heap.size]? = some (.cells #[.string ⟨#[c]⟩, .slice (some ⟨g1, 0, Option.none⟩) 1 cap1, .pointer Option.none] 119 (0, 0))) := heap_set HB2.out 1 _
  have HO3 : Hid ((w2.setCell ⟨w.heap.size, 1, Option.none⟩ (.slice (some ⟨g1, 0, Option.none⟩) 1 cap1)).ownsRow w1.heap.size 65 1 (.slice (some ⟨g1, 0, Option.none⟩) 1 cap1) 1 [.pointer (some ⟨b, 0, Option.none⟩)]) := (KS.out.mono hsz).row HO.out
  have KW : Hid (Keeps (w.heap.size + 1) w1 (w2.setCell ⟨w.heap.size, 1, Option.none⟩ (.slice (some ⟨g1, 0, Option.none⟩) 1 cap1))) := (((Keeps.refl _ _).alloc _ (Nat.le_refl _)).grown HG.out (by simp) (by simp [Value.ownBlock])).set _ (.inl (Nat.lt_succ_self _))
  have hsz3 : w2.heap.size = (w2.setCell ⟨w.heap.size, 1, Option.none⟩ (.slice (some ⟨g1, 0, Option.none⟩) 1 cap1)).heap.size := by simp
  generalize w2.setCell ⟨w.heap.size, 1, Option.none⟩ (.slice (some ⟨g1, 0, Option.none⟩) 1 cap1) = w3 at *
  have hsz4 : w.heap.size + 1 ≤ w3.heap.size := by omega
  have hsz7 : w1.heap.size ≤ w3.heap.size := by omega
  clear KS HG HO HB HB2 HBB k2 f1 hsz3
  rw [rounds_succ]
  go_wp2_with (first
    | (go_at_call 84; refine (arity_any _ _).mono ?_; rintro e w' ⟨rfl, rfl⟩; rw [ha.out])
    | (go_at_call 85; refine (sHasPrefix _ _ _).mono ?_; rintro e w' ⟨rfl, rfl⟩))
  go_ret2
  exact ⟨_, rfl, BL.out⟩

theorem twoNoSecond (c : UInt8) (s s2 : List UInt8) (t : Ty) (hs : s.length + 2 ≤ maxLen) (hs2 : s2.length + 1 ≤ maxLen) (h : ar c = some 2) (ih1 : Ok s t (44 :: s2)) (ih2 : No s2) : No (c :: 40 :: s) := by
  intro w
  have ha : Hid (arI c = 2) := by simp [arI, h, Hid]
  unfold maxLen at hs hs2
  clear h
  go_enter Tryd.func64, Tryd.ntmps64
  go_wp2_with (first
    | (go_at_call 84; refine (arity_any _ _).mono ?_; rintro e w' ⟨rfl, rfl⟩; rw [ha.out])
    | (go_at_call 85; refine (sHasPrefix _ _ _).mono ?_; rintro e w' ⟨rfl, rfl⟩))
  refine wp_loop_rounds 3 ?_
  rw [rounds_succ]
  go_wp2_with (first
    | (go_at_call 84; refine (arity_any _ _).mono ?_; rintro e w' ⟨rfl, rfl⟩; rw [ha.out])
    | (go_at_call 85; refine (sHasPrefix _ _ _).mono ?_; rintro e w' ⟨rfl, rfl⟩))
  refine (ih1 _).mono ?_
  rintro e w1 ⟨b, rfl, hn, hb⟩
  have hB := below_heap hb (by simp) (heap_alloc_new _ _)
  have k1 : w1.cell? ⟨w.heap.size, 1, Option.none⟩ = some (.slice Option.none 0 0) := heap_cell hB 1
  have HB : Hid (Below w.heap.size w w1) := ((Below.refl _ _).alloc (Nat.le_refl _) _).trans (hb.mono (by simp))
  have hsz := hb.size
  simp only [World.size_alloc] at hsz
  have HN : Hid (INode (w.heap.size + 1) w1 t b) := by have := hn; simp only [World.size_alloc] at this; exact this
  have HBB := hid hB
  clear hB hb hn
  go_wp2_with (first
    | (at_builtin; refine app_push 117 65 (.pointer Option.none) 1 8 Tryd.underlying117 infoPN rfl (by decide) rfl _ _ rfl w1.heap.size (.slice Option.none 0 0) 0 [] rfl (World.ownsRow_nil _ _ _ _) w1.heap.size 1 [.pointer (some ⟨b, 0, Option.none⟩)] rfl rfl (news_one (heap_cell (heap_alloc_new _ _) 0)) (by simp [Value.oneCell']) (by decide) (by decide) (by simp) ?_))
  intro g1 cap1 w2 hown hg
  have hB2 := grown_keep hg ((keeps_alloc w1 _ 0).heap (Nat.zero_le _) HBB.out) (by simp [Value.ownBlock])
  have f1 : w2.frozen? ⟨w.heap.size, 1, Option.none⟩ = false := heap_free hB2 1
  have k2 : w2.cell? ⟨w.heap.size, 1, Option.none⟩ = some (.slice Option.none 0 0) := heap_cell hB2 1
  have HB2 := hid hB2
  have HG := hid hg
  have HO := hid hown
  have hsz2 := hg.size
  simp only [World.size_alloc] at hsz2
  clear hB2 hg hown k1
  go_wp2
  have KS := hid (keeps_set w2 (a := ⟨w.heap.size, 1, Option.none⟩) (.slice (some ⟨g1, 0, Option.none⟩) 1 cap1) (lo := w.heap.size + 1) (Nat.lt_succ_self _))
  have BL : Hid (Below w.heap.size w (w2.setCell ⟨w.heap.size, 1, Option.none⟩ (.slice (some ⟨g1, 0, Option.none⟩) 1 cap1))) := ((HB.out.alloc (by omega) _).grown HG.out (by simp; omega) (by simp [Value.ownBlock])).setCell (Nat.le_refl _) _
  have HN2 : Hid (INode (w.heap.size + 1) (w2.setCell ⟨w.heap.size, 1, Option.none⟩ (.slice (some ⟨g1, 0, Option.none⟩) 1 cap1)) t b) := KS.out.inode (Keeps.inode ((keeps_alloc w1 _ _).trans (keeps_grown HG.out (by simp [Value.ownBlock])) (by simp)) HN.out)
  have HB3 : Hid ((w2.setCell ⟨w.heap.size, 1, Option.none⟩ (.slice (some ⟨g1, 0, Option.none⟩) 1 cap1)).heap[w.heap.size]? = some (.cells #[.string ⟨#[c]⟩, .slice (some ⟨g1, 0, Option.none⟩) 1 cap1, .pointer Option.none] 119 (0, 0))) := heap_set HB2.out 1 _
  have HO3 : Hid ((w2.setCell ⟨w.heap.size, 1, Option.none⟩ (.slice (some ⟨g1, 0, Option.none⟩) 1 cap1)).ownsRow w1.heap.size 65 1 (.slice (some ⟨g1, 0, Option.none⟩) 1 cap1) 1 [.pointer (some ⟨b, 0, Option.none⟩)]) := (KS.out.mono hsz).row HO.out
  have KW : Hid (Keeps (w.heap.size + 1) w1 (w2.setCell ⟨w.heap.size, 1, Option.none⟩ (.slice (some ⟨g1, 0, Option.none⟩) 1 cap1))) := (((Keeps.refl _ _).alloc _ (Nat.le_refl _)).grown HG.out (by simp) (by simp [Value.ownBlock])).set _ (.inl (Nat.lt_succ_self _))
  have hsz3 : w2.heap.size = (w2.setCell ⟨w.heap.size, 1, Option.none⟩ (.slice (some ⟨g1, 0, Option.none⟩) 1 cap1)).heap.size := by simp
  generalize w2.setCell ⟨w.heap.size, 1, Option.none⟩ (.slice (some ⟨g1, 0, Option.none⟩) 1 cap1) = w3 at *
  have hsz4 : w.heap.size + 1 ≤ w3.heap.size := by omega
  have hsz7 : w1.heap.size ≤ w3.heap.size := by omega
  clear KS HG HO HB HB2 HBB k2 f1 hsz3
  rw [rounds_succ]
  go_wp2_with (first
    | (go_at_call 84; refine (arity_any _ _).mono ?_; rintro e w' ⟨rfl, rfl⟩; rw [ha.out])
    | (go_at_call 85; refine (sHasPrefix _ _ _).mono ?_; rintro e w' ⟨rfl, rfl⟩))
  refine (ih2 _).mono ?_
  rintro e w4 ⟨r, rfl, hb⟩
  have HB4 := hid hb
  clear hb
  go_wp2
  go_ret2
  exact ⟨_, rfl, BL.out.trans (HB4.out.mono (by omega))⟩

theorem twoNoClose (c : UInt8) (s s2 s3 : List UInt8) (t u : Ty) (hs : s.length + 2 ≤ maxLen) (hs2 : s2.length + 1 ≤ maxLen) (h : ar c = some 2) (hh : (s3.head? == some 41) = false) (ih1 : Ok s t (44 :: s2)) (ih2 : Ok s2 u s3) : No (c :: 40 :: s) := by
  intro w
  have ha : Hid (arI c = 2) := by simp [arI, h, Hid]
  unfold maxLen at hs hs2
  clear h
  go_enter Tryd.func64, Tryd.ntmps64
  go_wp2_with (first
    | (go_at_call 84; refine (arity_any _ _).mono ?_; rintro e w' ⟨rfl, rfl⟩; rw [ha.out])
    | (go_at_call 85; refine (sHasPrefix _ _ _).mono ?_; rintro e w' ⟨rfl, rfl⟩))
  refine wp_loop_rounds 3 ?_
  rw [rounds_succ]
  go_wp2_with (first
    | (go_at_call 84; refine (arity_any _ _).mono ?_; rintro e w' ⟨rfl, rfl⟩; rw [ha.out])
    | (go_at_call 85; refine (sHasPrefix _ _ _).mono ?_; rintro e w' ⟨rfl, rfl⟩))
  refine (ih1 _).mono ?_
  rintro e w1 ⟨b, rfl, hn, hb⟩
  have hB := below_heap hb (by simp) (heap_alloc_new _ _)
  have k1 : w1.cell? ⟨w.heap.size, 1, Option.none⟩ = some (.slice Option.none 0 0) := heap_cell hB 1
  have HB : Hid (Below w.heap.size w w1) := ((Below.refl _ _).alloc (Nat.le_refl _) _).trans (hb.mono (by simp))
  have hsz := hb.size
  simp only [World.size_alloc] at hsz
  have HN : Hid (INode (w.heap.size + 1) w1 t b) := by have := hn; simp only [World.size_alloc] at this; exact this
  have HBB := hid hB
  clear hB hb hn
  go_wp2_with (first
    | (at_builtin; refine app_push 117 65 (.pointer Option.none) 1 8 Tryd.underlying117 infoPN rfl (by decide) rfl _ _ rfl w1.heap.size (.slice Option.none 0 0) 0 [] rfl (World.ownsRow_nil _ _ _ _) w1.heap.size 1 [.pointer (some ⟨b, 0, Option.none⟩)] rfl rfl (news_one (heap_cell (heap_alloc_new _ _) 0)) (by simp [Value.oneCell']) (by decide) (by decide) (by simp) ?_))
  intro g1 cap1 w2 hown hg
  have hB2 := grown_keep hg ((keeps_alloc w1 _ 0).heap (Nat.zero_le _) HBB.out) (by simp [Value.ownBlock])
  have f1 : w2.frozen? ⟨w.heap.size, 1, Option.none⟩ = false := heap_free hB2 1
  have k2 : w2.cell? ⟨w.heap.size, 1, Option.none⟩ = some (.slice Option.none 0 0) := heap_cell hB2 1
  have HB2 := hid hB2
  have HG := hid hg
  have HO := hid hown
  have hsz2 := hg.size
  simp only [World.size_alloc] at hsz2
  clear hB2 hg hown k1
  go_wp2
  have KS := hid (keeps_set w2 (a := ⟨w.heap.size, 1, Option.none⟩) (.slice (some ⟨g1, 0, Option.none⟩) 1 cap1) (lo := w.heap.size + 1) (Nat.lt_succ_self _))
  have BL : Hid (Below w.heap.size w (w2.setCell ⟨w.heap.size, 1, Option.none⟩ (.slice (some ⟨g1, 0, Option.none⟩) 1 cap1))) := ((HB.out.alloc (by omega) _).grown HG.out (by simp; omega) (by simp [Value.ownBlock])).setCell (Nat.le_refl _) _
  have HN2 : Hid (INode (w.heap.size + 1) (w2.setCell ⟨w.heap.size, 1, Option.none⟩ (.slice (some ⟨g1, 0, Option.none⟩) 1 cap1)) t b) := KS.out.inode (Keeps.inode ((keeps_alloc w1 _ _).trans (keeps_grown HG.out (by simp [Value.ownBlock])) (by simp)) HN.out)
  have HB3 : Hid ((w2.setCell ⟨w.heap.size, 1, Option.none⟩ (.slice (some ⟨g1, 0, Option.none⟩) 1 cap1)).heap[w.heap.size]? = some (.cells #[.string ⟨#[c]⟩, .slice (some ⟨g1, 0, Option.none⟩) 1 cap1, .pointer Option.none] 119 (0, 0))) := heap_set HB2.out 1 _
  have HO3 : Hid ((w2.setCell ⟨w.heap.size, 1, Option.none⟩ (.slice (some ⟨g1, 0, Option.none⟩) 1 cap1)).ownsRow w1.heap.size 65 1 (.slice (some ⟨g1, 0, Option.none⟩) 1 cap1) 1 [.pointer (some ⟨b, 0, Option.none⟩)]) := (KS.out.mono hsz).row HO.out
  have KW : Hid (Keeps (w.heap.size + 1) w1 (w2.setCell ⟨w.heap.size, 1, Option.none⟩ (.slice (some ⟨g1, 0, Option.none⟩) 1 cap1))) := (((Keeps.refl _ _).alloc _ (Nat.le_refl _)).grown HG.out (by simp) (by simp [Value.ownBlock])).set _ (.inl (Nat.lt_succ_self _))
  have hsz3 : w2.heap.size = (w2.setCell ⟨w.heap.size, 1, Option.none⟩ (.slice (some ⟨g1, 0, Option.none⟩) 1 cap1)).heap.size := by simp
  generalize w2.setCell ⟨w.heap.size, 1, Option.none⟩ (.slice (some ⟨g1, 0, Option.none⟩) 1 cap1) = w3 at *
  have hsz4 : w.heap.size + 1 ≤ w3.heap.size := by omega
  have hsz7 : w1.heap.size ≤ w3.heap.size := by omega
  clear KS HG HO HB HB2 HBB k2 f1 hsz3
  rw [rounds_succ]
  go_wp2_with (first
    | (go_at_call 84; refine (arity_any _ _).mono ?_; rintro e w' ⟨rfl, rfl⟩; rw [ha.out])
    | (go_at_call 85; refine (sHasPrefix _ _ _).mono ?_; rintro e w' ⟨rfl, rfl⟩))
  refine (ih2 _).mono ?_
  rintro e w4 ⟨b2, rfl, hn, hb⟩
  have hB := below_heap hb (by omega) HB3.out
  have k1 : w4.cell? ⟨w.heap.size, 1, Option.none⟩ = some (.slice (some ⟨g1, 0, Option.none⟩) 1 cap1) := heap_cell hB 1
  have BL4 : Hid (Below w.heap.size w w4) := BL.out.trans (hb.mono (by omega))
  have hsz5 := hb.size
  have HNu := hid hn
  have KW4 : Hid (Keeps (w.heap.size + 1) w1 w4) := KW.out.below hb (by omega)
  have hlt := lt_of_heap (row_block HO3.out).2.choose_spec
  have HO4 : Hid (w4.ownsRow w1.heap.size 65 1 (.slice (some ⟨g1, 0, Option.none⟩) 1 cap1) 1 [.pointer (some ⟨b, 0, Option.none⟩)]) := (keeps_of hb _).row HO3.out
  have HBB := hid hB
  clear hB hb hn BL HN2 HO3 HB3 KW
  go_wp2_with (first
    | (at_builtin; refine app_push 117 65 (.pointer Option.none) 1 8 Tryd.underlying117 infoPN rfl (by decide) rfl _ _ rfl w1.heap.size (.slice (some ⟨g1, 0, Option.none⟩) 1 cap1) 1 [.pointer (some ⟨b, 0, Option.none⟩)] rfl (World.ownsRow.alloc HO4.out _) w4.heap.size 1 [.pointer (some ⟨b2, 0, Option.none⟩)] rfl rfl (news_one (heap_cell (heap_alloc_new _ _) 0)) (by simp [Value.oneCell']) (by decide) (by decide) (by simp; omega) ?_))
  intro g2 cap2 w5 hown hg
  have hg1 := (row_block HO4.out).1
  have hB5 := grown_keep hg ((keeps_alloc w4 _ 0).heap (Nat.zero_le _) HBB.out) (by simp [Value.ownBlock]; omega)
  have f1 : w5.frozen? ⟨w.heap.size, 1, Option.none⟩ = false := heap_free hB5 1
  have k2 : w5.cell? ⟨w.heap.size, 1, Option.none⟩ = some (.slice (some ⟨g1, 0, Option.none⟩) 1 cap1) := heap_cell hB5 1
  have HB5 := hid hB5
  have HG := hid hg
  have HO5 := hid hown
  have hsz6 := hg.size
  simp only [World.size_alloc] at hsz6
  clear hB5 hg hown k1
  go_wp2
  rw [rounds_succ]
  go_wp2_with (first
    | (go_at_call 84; refine (arity_any _ _).mono ?_; rintro e w' ⟨rfl, rfl⟩; rw [ha.out])
    | (go_at_call 85; refine (sHasPrefix _ _ _).mono ?_; rintro e w' ⟨rfl, rfl⟩))
  go_ret2
  exact ⟨_, rfl, ((BL4.out.alloc (by omega) _).grown HG.out (by simp; omega) (by simp [Value.ownBlock]; omega)).setCell (Nat.le_refl _) _⟩

theorem two (c : UInt8) (s s2 s3 : List UInt8) (t u : Ty) (hs : s.length + 2 ≤ maxLen) (hs2 : s2.length + 1 ≤ maxLen) (hs3 : s3.length + 1 ≤ maxLen) (h : ar c = some 2) (ih1 : Ok s t (44 :: s2)) (ih2 : Ok s2 u (41 :: s3)) : Ok (c :: 40 :: s) (.two c t u) s3 := by
  intro w
  have ha : Hid (arI c = 2) := by simp [arI, h, Hid]
  unfold maxLen at hs hs2
  clear h
  go_enter Tryd.func64, Tryd.ntmps64
  go_wp2_with (first
    | (go_at_call 84; refine (arity_any _ _).mono ?_; rintro e w' ⟨rfl, rfl⟩; rw [ha.out])
    | (go_at_call 85; refine (sHasPrefix _ _ _).mono ?_; rintro e w' ⟨rfl, rfl⟩))
  refine wp_loop_rounds 3 ?_
  rw [rounds_succ]
  go_wp2_with (first
    | (go_at_call 84; refine (arity_any _ _).mono ?_; rintro e w' ⟨rfl, rfl⟩; rw [ha.out])
    | (go_at_call 85; refine (sHasPrefix _ _ _).mono ?_; rintro e w' ⟨rfl, rfl⟩))
  refine (ih1 _).mono ?_
  rintro e w1 ⟨b, rfl, hn, hb⟩
  have hB := below_heap hb (by simp) (heap_alloc_new _ _)
  have k1 : w1.cell? ⟨w.heap.size, 1, Option.none⟩ = some (.slice Option.none 0 0) := heap_cell hB 1
  have HB : Hid (Below w.heap.size w w1) := ((Below.refl _ _).alloc (Nat.le_refl _) _).trans (hb.mono (by simp))
  have hsz := hb.size
  simp only [World.size_alloc] at hsz
  have HN : Hid (INode (w.heap.size + 1) w1 t b) := by have := hn; simp only [World.size_alloc] at this; exact this
  have HBB := hid hB
  clear hB hb hn
  go_wp2_with (first
    | (at_builtin; refine app_push 117 65 (.pointer Option.none) 1 8 Tryd.underlying117 infoPN rfl (by decide) rfl _ _ rfl w1.heap.size (.slice Option.none 0 0) 0 [] rfl (World.ownsRow_nil _ _ _ _) w1.heap.size 1 [.pointer (some ⟨b, 0, Option.none⟩)] rfl rfl (news_one (heap_cell (heap_alloc_new _ _) 0)) (by simp [Value.oneCell']) (by decide) (by decide) (by simp) ?_))
  intro g1 cap1 w2 hown hg
  have hB2 := grown_keep hg ((keeps_alloc w1 _ 0).heap (Nat.zero_le _) HBB.out) (by simp [Value.ownBlock])
  have f1 : w2.frozen? ⟨w.heap.size, 1, Option.none⟩ = false := heap_free hB2 1
  have k2 : w2.cell? ⟨w.heap.size, 1, Option.none⟩ = some (.slice Option.none 0 0) := heap_cell hB2 1
  have HB2 := hid hB2
  have HG := hid hg
  have HO := hid hown
  have hsz2 := hg.size
  simp only [World.size_alloc] at hsz2
  clear hB2 hg hown k1
  go_wp2
  have KS := hid (keeps_set w2 (a := ⟨w.heap.size, 1, Option.none⟩) (.slice (some ⟨g1, 0, Option.none⟩) 1 cap1) (lo := w.heap.size + 1) (Nat.lt_succ_self _))
  have BL : Hid (Below w.heap.size w (w2.setCell ⟨w.heap.size, 1, Option.none⟩ (.slice (some ⟨g1, 0, Option.none⟩) 1 cap1))) := ((HB.out.alloc (by omega) _).grown HG.out (by simp; omega) (by simp [Value.ownBlock])).setCell (Nat.le_refl _) _
  have HN2 : Hid (INode (w.heap.size + 1) (w2.setCell ⟨w.heap.size, 1, Option.none⟩ (.slice (some ⟨g1, 0, Option.none⟩) 1 cap1)) t b) := KS.out.inode (Keeps.inode ((keeps_alloc w1 _ _).trans (keeps_grown HG.out (by simp [Value.ownBlock])) (by simp)) HN.out)
  have HB3 : Hid ((w2.setCell ⟨w.heap.size, 1, Option.none⟩ (.slice (some ⟨g1, 0, Option.none⟩) 1 cap1)).heap[w.heap.size]? = some (.cells #[.string ⟨#[c]⟩, .slice (some ⟨g1, 0, Option.none⟩) 1 cap1, .pointer Option.none] 119 (0, 0))) := heap_set HB2.out 1 _
  have HO3 : Hid ((w2.setCell ⟨w.heap.size, 1, Option.none⟩ (.slice (some ⟨g1, 0, Option.none⟩) 1 cap1)).ownsRow w1.heap.size 65 1 (.slice (some ⟨g1, 0, Option.none⟩) 1 cap1) 1 [.pointer (some ⟨b, 0, Option.none⟩)]) := (KS.out.mono hsz).row HO.out
  have KW : Hid (Keeps (w.heap.size + 1) w1 (w2.setCell ⟨w.heap.size, 1, Option.none⟩ (.slice (some ⟨g1, 0, Option.none⟩) 1 cap1))) := (((Keeps.refl _ _).alloc _ (Nat.le_refl _)).grown HG.out (by simp) (by simp [Value.ownBlock])).set _ (.inl (Nat.lt_succ_self _))
  have hsz3 : w2.heap.size = (w2.setCell ⟨w.heap.size, 1, Option.none⟩ (.slice (some ⟨g1, 0, Option.none⟩) 1 cap1)).heap.size := by simp
  generalize w2.setCell ⟨w.heap.size, 1, Option.none⟩ (.slice (some ⟨g1, 0, Option.none⟩) 1 cap1) = w3 at *
  have hsz4 : w.heap.size + 1 ≤ w3.heap.size := by omega
  have hsz7 : w1.heap.size ≤ w3.heap.size := by omega
  clear KS HG HO HB HB2 HBB k2 f1 hsz3
  rw [rounds_succ]
  go_wp2_with (first
    | (go_at_call 84; refine (arity_any _ _).mono ?_; rintro e w' ⟨rfl, rfl⟩; rw [ha.out])
    | (go_at_call 85; refine (sHasPrefix _ _ _).mono ?_; rintro e w' ⟨rfl, rfl⟩))
  unfold maxLen at hs3
  refine (ih2 _).mono ?_
  rintro e w4 ⟨b2, rfl, hn, hb⟩
  have hB := below_heap hb (by omega) HB3.out
  have k1 : w4.cell? ⟨w.heap.size, 1, Option.none⟩ = some (.slice (some ⟨g1, 0, Option.none⟩) 1 cap1) := heap_cell hB 1
  have BL4 : Hid (Below w.heap.size w w4) := BL.out.trans (hb.mono (by omega))
  have hsz5 := hb.size
  have HNu := hid hn
  have KW4 : Hid (Keeps (w.heap.size + 1) w1 w4) := KW.out.below hb (by omega)
  have hlt := lt_of_heap (row_block HO3.out).2.choose_spec
  have HO4 : Hid (w4.ownsRow w1.heap.size 65 1 (.slice (some ⟨g1, 0, Option.none⟩) 1 cap1) 1 [.pointer (some ⟨b, 0, Option.none⟩)]) := (keeps_of hb _).row HO3.out
  have HBB := hid hB
  clear hB hb hn BL HN2 HO3 HB3 KW
  go_wp2_with (first
    | (at_builtin; refine app_push 117 65 (.pointer Option.none) 1 8 Tryd.underlying117 infoPN rfl (by decide) rfl _ _ rfl w1.heap.size (.slice (some ⟨g1, 0, Option.none⟩) 1 cap1) 1 [.pointer (some ⟨b, 0, Option.none⟩)] rfl (World.ownsRow.alloc HO4.out _) w4.heap.size 1 [.pointer (some ⟨b2, 0, Option.none⟩)] rfl rfl (news_one (heap_cell (heap_alloc_new _ _) 0)) (by simp [Value.oneCell']) (by decide) (by decide) (by simp; omega) ?_))
  intro g2 cap2 w5 hown hg
  have hg1 := (row_block HO4.out).1
  have hB5 := grown_keep hg ((keeps_alloc w4 _ 0).heap (Nat.zero_le _) HBB.out) (by simp [Value.ownBlock]; omega)
  have f1 : w5.frozen? ⟨w.heap.size, 1, Option.none⟩ = false := heap_free hB5 1
  have k2 : w5.cell? ⟨w.heap.size, 1, Option.none⟩ = some (.slice (some ⟨g1, 0, Option.none⟩) 1 cap1) := heap_cell hB5 1
  have HB5 := hid hB5
  have HG := hid hg
  have HO5 := hid hown
  have hsz6 := hg.size
  simp only [World.size_alloc] at hsz6
  clear hB5 hg hown k1
  go_wp2
  rw [rounds_succ]
  go_wp2_with (first
    | (go_at_call 84; refine (arity_any _ _).mono ?_; rintro e w' ⟨rfl, rfl⟩; rw [ha.out])
    | (go_at_call 85; refine (sHasPrefix _ _ _).mono ?_; rintro e w' ⟨rfl, rfl⟩))
  go_ret2
  refine ⟨_, rfl, ⟨Nat.le_refl _, .slice (some ⟨g2, 0, Option.none⟩) 2 cap2, b, b2, heap_set HB5.out 1 _, ?_, ?_, ?_⟩, ?_⟩
  · exact row_mono ((keeps_set w5 (a := ⟨w.heap.size, 1, Option.none⟩) _ (lo := w1.heap.size) (by show w.heap.size < _; omega)).row HO5.out) (by omega)
  · exact (Keeps.inode (((KW4.out.alloc _ (by omega)).grown HG.out (by simp; omega) (by simp [Value.ownBlock]; omega)).set _ (.inl (Nat.lt_succ_self _))) HN.out).mono (Nat.le_succ _)
  · exact (Keeps.inode ((((Keeps.refl _ _).alloc _ (Nat.le_refl _)).grown HG.out (by simp) (by simp [Value.ownBlock]; omega)).set _ (.inl (by show w.heap.size < _; omega))) HNu.out).mono (by omega)
  · exact ((BL4.out.alloc (by omega) _).grown HG.out (by simp; omega) (by simp [Value.ownBlock]; omega)).setCell (Nat.le_refl _) _

end ReadT
end Go.Proofs.YtbdnhcfebgkpdaaDoor
