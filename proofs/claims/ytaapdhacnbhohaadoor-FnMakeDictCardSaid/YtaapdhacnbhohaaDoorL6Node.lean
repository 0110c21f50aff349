/- The reference's reader of dictionaries: what 'node' returns, and what it leaves of the reader. Conditions: the text is no longer than 2^31 bytes. -/
import Derived.Test.YtaapdhacnbhohaaDoorL6Next
import Derived.Test.YtaapdhacnbhohaaDoorReg2
import Derived.Deep.DeepCutAuto
import Derived.Deep.LoopGhost
set_option linter.unusedVariables false
set_option linter.unusedSimpArgs false
set_option maxRecDepth 100000
namespace Go.Proofs.YtaapdhacnbhohaaDoor
open Go.RowKit Dt
namespace L6
theorem infoSD : (Tryd.prog.info? 85).map (fun i => (i.zero, i.size, i.bytes)) = some (some (.agg #[.int .i64 0, .slice none 0 0]), 2, 32) := by kernel_rfl
theorem grown_todrew {w w' : World} {row : Option Nat} (h : w.grownBy w' row) : w.grownBy w'.drew row := ⟨h.os, h.tape, h.output, h.size, h.block⟩
theorem drop_cons {l s : List UInt8} {i : Nat} {c : UInt8} (h : l.drop i = c :: s) : l[i]? = some c ∧ l.drop (i + 1) = s := by
  have h1 : l[i]? = some c := by
    have : (l.drop i)[0]? = some c := by rw [h]; rfl
    simpa using this
  refine ⟨h1, ?_⟩
  rw [← List.drop_drop, h]
  rfl
theorem at_drop (l : List UInt8) (i : Nat) : l[i]? = (l.drop i).head? := by
  cases h : l.drop i with
  | nil =>
    have : l.length ≤ i := by simpa using h
    simp [List.getElem?_eq_none this]
  | cons c s => exact (drop_cons h).1
theorem cons_drop {l : List UInt8} {i : Nat} {c : UInt8} (h : l[i]? = some c) : l.drop i = c :: l.drop (i + 1) := by
  have := at_drop l i
  cases h2 : l.drop i with
  | nil => rw [h2] at this; rw [h] at this; simp at this
  | cons x s => rw [(drop_cons h2).2]; rw [h2, h] at this; simp at this; rw [this]

def NOk (w : World) (b : Nat) (l : List UInt8) (c : UInt8) (k : F) (j : Nat) (e : Ending) (w' : World) : Prop :=
  ∃ h s, e = .returned (.agg #[h, s]) ∧ SD (fun k => w.heap.size ≤ k) w' c k h s ∧ RD w' b l j false ∧ w.grownBy w' (some b)
def NNo (w : World) (b : Nat) (l : List UInt8) (e : Ending) (w' : World) : Prop :=
  ∃ h a n cap j, e = .returned (.agg #[.int .i64 h, .slice a n cap]) ∧ j ≤ l.length ∧ RD w' b l j true ∧ w.grownBy w' (some b)
def NPost (w : World) (b : Nat) (l : List UInt8) (i : Nat) (e : Ending) (w' : World) : Prop :=
  (∀ c k r, rD (l.drop i) = some (c, k, r) → ∃ j, j ≤ l.length ∧ l.drop j = r ∧ NOk w b l c k j e w') ∧ (rD (l.drop i) = none → NNo w b l e w')
theorem NPost.none {w : World} {b : Nat} {l : List UInt8} {i : Nat} {e : Ending} {w' : World} (h : rD (l.drop i) = .none) (hp : NNo w b l e w') : NPost w b l i e w' := ⟨fun c k r h' => by rw [h] at h'; simp at h', fun _ => hp⟩
theorem NPost.some {w : World} {b : Nat} {l : List UInt8} {i : Nat} {e : Ending} {w' : World} {c : UInt8} {k : F} {j : Nat} (h : rD (l.drop i) = .some (c, k, l.drop j)) (hj : j ≤ l.length) (hp : NOk w b l c k j e w') : NPost w b l i e w' :=
  ⟨fun c' k' r' h' => by rw [h] at h'; simp at h'; obtain ⟨rfl, rfl, rfl⟩ := h'; exact ⟨j, hj, rfl, hp⟩, fun h' => by rw [h] at h'; simp at h'⟩

/-- the reader, the result's cells, the node's cells -/
def St (w : World) (b nb : Nat) (l : List UInt8) (i : Nat) (bad : Bool) (c : UInt8) (pt : Value) (W : World) : Prop :=
  RD W b l i bad ∧ W.heap[w.heap.size]? = some (.cells #[.int .i64 0, .slice none 0 0] 85 (0, 0)) ∧ W.heap[nb]? = some (.cells #[.int .i64 (dv c), pt] 85 (0, 0)) ∧ w.grownBy W (some b) ∧ b < w.heap.size ∧ w.heap.size < nb
/-- a row that is not the node's block -/
def Row (w : World) (nb : Nat) (a : Option Addr) (n cap : Nat) (ps : List Value) (W : World) : Prop :=
  W.ownsRow (w.heap.size + 1) 85 2 (.slice a n cap) n ps ∧ ∀ p, a = some p → p.block ≠ nb
/-- what holds at the loop's head: all is well, or a part was none -/
def LRel (w : World) (b nb : Nat) (l : List UInt8) (i0 : Nat) (c : UInt8) (k : Nat) (W : World) : Prop :=
  (∃ (i : Nat) (A : F) (a : Option Addr) (cap : Nat) (ps : List Value), i ≤ l.length ∧ l.length - i ≤ k ∧ i0 + A.len ≤ i ∧ 0 < A.len ∧ St w b nb l i false c (.slice a A.len cap) W ∧ Row w nb a A.len cap ps W ∧ SDs (ex (nb + 1) (.slice a A.len cap)) W A ps ∧ rT (44 :: l.drop i0) = cont A (rT (l.drop i))) ∨
  (∃ (i : Nat) (a : Option Addr) (n cap : Nat), i ≤ l.length ∧ n ≤ l.length + 1 ∧ St w b nb l i true c (.slice a n cap) W ∧ rT (44 :: l.drop i0) = .none)

theorem atEnd (l : List UInt8) (i : Nat) (hs : l.length ≤ 2147483648) (hil : i ≤ l.length) (hi : l.length ≤ i) (w : World) (b : Nat) (h : RD w b l i false) : Calls Tryd.prog 100 #[.pointer (some ⟨b, 0, none⟩)] w (NNo w b l) := by
  have hlt0 := lt_of_heap h
  have k0 : w.cell? ⟨b, 0, .none⟩ = some (.string ⟨l.toArray⟩) := heap_cell h 0
  have k1 : w.cell? ⟨b, 1, .none⟩ = some (.int .i64 i) := heap_cell h 1
  have f2 : w.frozen? ⟨b, 2, .none⟩ = false := heap_free h 2
  have kb2 : w.cell? ⟨b, 2, .none⟩ = some (.bool false) := heap_cell h 2
  have H := hid h
  have hsz : (⟨l.toArray⟩ : ByteArray).size = l.length := by show l.toArray.size = _; simp
  obtain ⟨s, hsl⟩ : ∃ s : ByteArray, s = ⟨l.toArray⟩ := ⟨_, rfl⟩
  rw [← hsl] at k0
  have hle : s.size ≤ 2147483648 := by rw [hsl, hsz]; exact hs
  have hlt2 : s.size ≤ i := by rw [hsl, hsz]; exact hi
  have hlt3 : decide (s.size ≤ i) = true := by simpa using hlt2
  have HSL := hid hsl
  clear hsl hsz h
  go_enter Tryd.func100, Tryd.ntmps100
  go_wp2
  go_quiet (fail)
  go_wp2
  refine bodyPost_ret (results_cell_row rfl _ _ w.heap.size 85 #[.int .i64 0, .slice .none 0 0] (0, 0) _ rfl (heap_set (heap_set (hb_set_ne (heap_alloc_new w _) _ _ (by show w.heap.size ≠ b; omega)) 0 _) 1 _) Tryd.underlying85 rfl (by kernel_rfl)) rfl ?_
  exact ⟨_, _, _, _, i, rfl, hil, hb_set_ne (hb_set_ne (heap_set (hb_alloc H.out _) 2 _) _ _ (by show b ≠ w.heap.size; omega)) _ _ (by show b ≠ w.heap.size; omega), grown_new (grown_trans (World.grownBy_alloc w _ _) (grown_trans (grownN _ _ _) (grown_set _ _ _ _))) (grown_trans (grown_set _ _ _ _) (grown_set _ _ _ _)) (fun i h => .inr (by simp at h; omega))⟩
theorem noDig (l : List UInt8) (i : Nat) (c : UInt8) (hs : l.length ≤ 2147483648) (hi : l[i]? = some c) (hd : ¬ dig c) (w : World) (b : Nat) (h : RD w b l i false) : Calls Tryd.prog 100 #[.pointer (some ⟨b, 0, none⟩)] w (NNo w b l) := by
  obtain ⟨hlt, hc⟩ := at_get hi
  have hil : i ≤ l.length := by omega
  have hlt0 := lt_of_heap h
  have k0 : w.cell? ⟨b, 0, .none⟩ = some (.string ⟨l.toArray⟩) := heap_cell h 0
  have k1 : w.cell? ⟨b, 1, .none⟩ = some (.int .i64 i) := heap_cell h 1
  have f2 : w.frozen? ⟨b, 2, .none⟩ = false := heap_free h 2
  have kb2 : w.cell? ⟨b, 2, .none⟩ = some (.bool false) := heap_cell h 2
  have H := hid h
  have hsz : (⟨l.toArray⟩ : ByteArray).size = l.length := by show l.toArray.size = _; simp
  obtain ⟨s, hsl⟩ : ∃ s : ByteArray, s = ⟨l.toArray⟩ := ⟨_, rfl⟩
  rw [← hsl] at k0
  have hle : s.size ≤ 2147483648 := by rw [hsl, hsz]; exact hs
  have hlt2 : i < s.size := by rw [hsl, hsz]; exact hlt
  have hc2 : s[i] = c := by subst hsl; exact hc
  have hlt3 : decide (s.size ≤ i) = false := by simp; omega
  have hdd : decide (dig c) = false := by simpa using hd
  have hw64 : wrap64 (c.toNat : Int) = (c.toNat : Int) := IntWalk.wrap64_in _ ⟨by omega, by have := c.toNat_lt; omega⟩
  have HSL := hid hsl
  clear hsl hsz hd hc hi h
  go_enter Tryd.func100, Tryd.ntmps100
  go_wp2
  go_quiet ((go_at_call 70; exact Calls.quiet_of_same (l1In_dig _ _)))
  go_wp2
  refine bodyPost_ret (results_cell_row rfl _ _ w.heap.size 85 #[.int .i64 0, .slice .none 0 0] (0, 0) _ rfl (heap_set (heap_set (hb_set_ne (heap_alloc_new w _) _ _ (by show w.heap.size ≠ b; omega)) 0 _) 1 _) Tryd.underlying85 rfl (by kernel_rfl)) rfl ?_
  exact ⟨_, _, _, _, i, rfl, hil, hb_set_ne (hb_set_ne (heap_set (hb_alloc H.out _) 2 _) _ _ (by show b ≠ w.heap.size; omega)) _ _ (by show b ≠ w.heap.size; omega), grown_new (grown_trans (World.grownBy_alloc w _ _) (grown_trans (grownN _ _ _) (grown_set _ _ _ _))) (grown_trans (grown_set _ _ _ _) (grown_set _ _ _ _)) (fun i h => .inr (by simp at h; omega))⟩
set_option maxHeartbeats 4000000 in
theorem digit (l : List UInt8) (i : Nat) (c : UInt8) (hs : l.length ≤ 1200) (hi : l[i]? = some c) (hd : dig c) (ih : ∀ i', i < i' → i' ≤ l.length → ∀ w b, RD w b l i' false → Calls Tryd.prog 100 #[.pointer (some ⟨b, 0, none⟩)] w (NPost w b l i')) (w : World) (b : Nat) (h : RD w b l i false) : Calls Tryd.prog 100 #[.pointer (some ⟨b, 0, none⟩)] w (NPost w b l i) := by
  have IH := hid ih
  clear ih
  obtain ⟨hlt, hc⟩ := at_get hi
  have HC : Hid (l[i] = c) := hc
  have hlt0 := lt_of_heap h
  have k0 : w.cell? ⟨b, 0, .none⟩ = some (.string ⟨l.toArray⟩) := heap_cell h 0
  have k1 : w.cell? ⟨b, 1, .none⟩ = some (.int .i64 i) := heap_cell h 1
  have f2 : w.frozen? ⟨b, 2, .none⟩ = false := heap_free h 2
  have kb2 : w.cell? ⟨b, 2, .none⟩ = some (.bool false) := heap_cell h 2
  have H := hid h
  have hsz : (⟨l.toArray⟩ : ByteArray).size = l.length := by show l.toArray.size = _; simp
  obtain ⟨s, hsl⟩ : ∃ s : ByteArray, s = ⟨l.toArray⟩ := ⟨_, rfl⟩
  rw [← hsl] at k0
  have hle : s.size ≤ 1200 := by rw [hsl, hsz]; exact hs
  have hlt2 : i < s.size := by rw [hsl, hsz]; exact hlt
  have hc2 : s[i] = c := by subst hsl; exact hc
  have hlt3 : decide (s.size ≤ i) = false := by simp; omega
  have hdn : 48 ≤ (c.toNat : Int) ∧ (c.toNat : Int) ≤ 57 := by
    unfold dig at hd
    rw [UInt8.le_iff_toNat_le, UInt8.le_iff_toNat_le] at hd
    simp at hd
    omega
  have hdd : decide (dig c) = true := by simpa using hd
  have HD := hid hd
  have hw64 : wrap64 (c.toNat : Int) = (c.toNat : Int) := IntWalk.wrap64_in _ ⟨by omega, by have := c.toNat_lt; omega⟩
  have HSL := hid hsl
  clear hsl hsz hd hc hi h
  go_enter Tryd.func100, Tryd.ntmps100
  go_wp2
  go_quiet ((go_at_call 70; exact Calls.quiet_of_same (l1In_dig _ _)))
  go_wp2
  refine forget_world (fun W => RD W b l i false ∧ W.heap[w.heap.size]? = some (.cells #[.int .i64 0, .slice .none 0 0] 85 (0, 0)) ∧ w.grownBy W (some b) ∧ W.heap.size = w.heap.size + 1) ⟨(hb_alloc H.out _), heap_alloc_new _ _, grown_trans (World.grownBy_alloc w _ _) (grownN _ _ _), by simp⟩ ?_
  clear k0 k1 kb2 f2
  intro W ⟨s1, s2, s3, s4⟩
  have k0 : W.cell? ⟨b, 0, .none⟩ = some (.string s) := by rw [HSL.out]; exact heap_cell s1 0
  have k1 : W.cell? ⟨b, 1, .none⟩ = some (.int .i64 i) := heap_cell s1 1
  have S1 := hid s1
  have S2 := hid s2
  have S3 := hid s3
  have hz : W.heap.size ≤ w.heap.size + 1 := Nat.le_of_eq s4
  have hz' : w.heap.size + 1 ≤ W.heap.size := Nat.le_of_eq s4.symm
  clear s1 s2 s3 s4
  go_cut [3] (fun p wr => ∃ g0 nb : Nat, p = .pointer (some ⟨nb, 0, none⟩) ∧ St w b nb l i false c (.slice (some ⟨g0, 0, .none⟩) 0 0) wr ∧ Row w nb (some ⟨g0, 0, .none⟩) 0 0 [] wr)
  case first =>
    refine wp_region_any (by kernel_rfl) ?_
    change wpAny _ _ _ _ _ _ _ (World.drew _)
    refine wpAny_take (i := 0) (v := .pointer (some ⟨b, 0, none⟩)) rfl (by kernel_rfl) (by kernel_rfl) (by kernel_rfl) (fun _ _ _ h => h) (Or.inl ⟨by rfl, fun _ => by go_simp⟩) ?_
    refine wpAny_take (i := 1) (v := .pointer (some ⟨b, 0, none⟩)) rfl (by kernel_rfl) (by kernel_rfl) (by kernel_rfl) (fun _ _ _ h => h) (Or.inl ⟨by rfl, fun _ => by go_simp⟩) ?_
    refine wpAny_take (i := 2) (v := .pointer (some ⟨b, 0, none⟩)) rfl (by kernel_rfl) (by kernel_rfl) (by kernel_rfl) (fun _ _ _ h => h) (Or.inl ⟨by rfl, fun _ => by go_simp⟩) ?_
    refine wpAny_take (i := 4) (v := .pointer (some ⟨b, 0, none⟩)) rfl (by kernel_rfl) (by kernel_rfl) (by kernel_rfl) (fun _ _ _ h => h) (Or.inl ⟨by rfl, fun _ => by go_simp⟩) ?_
    refine wpAny_take (i := 5) (v := .pointer (some ⟨b, 0, none⟩)) rfl (by kernel_rfl) (by kernel_rfl) (by kernel_rfl) (fun _ _ _ h => h) (Or.inl ⟨by rfl, fun _ => by go_simp⟩) ?_
    refine wpAny_take (i := 6) (v := .pointer (some ⟨b, 1, none⟩)) rfl (by kernel_rfl) (by kernel_rfl) (by kernel_rfl) (fun _ _ _ h => h) (Or.inl ⟨by rfl, fun _ => by go_simp⟩) ?_
    refine wpAny_of_T (S := fun X => X.cell? ⟨b, 0, none⟩ = some (.string s) ∧ X.cell? ⟨b, 1, none⟩ = some (.int .i64 i)) (m := 15) _ _ _ _ ?_
    have HS0 := (⟨k0, k1⟩ : W.drew.cell? ⟨b, 0, none⟩ = some (.string s) ∧ W.drew.cell? ⟨b, 1, none⟩ = some (.int .i64 i))
    refine wpAnyT_take (i := 3) (v := .string s) rfl (by kernel_rfl) (by kernel_rfl) (by kernel_rfl) (by kernel_rfl) (fun _ _ _ h => h) (Or.inl ⟨by rfl, fun X hS => by obtain ⟨e0, e1⟩ := hS; go_simp⟩) HS0 ?_
    refine wpAnyT_take (i := 7) (v := .int .i64 i) rfl (by kernel_rfl) (by kernel_rfl) (by kernel_rfl) (by kernel_rfl) (fun _ _ _ h => h) (Or.inl ⟨by rfl, fun X hS => by obtain ⟨e0, e1⟩ := hS; go_simp⟩) HS0 ?_
    refine wpAnyT_take (i := 8) (v := .int .u8 c.toNat) rfl (by kernel_rfl) (by kernel_rfl) (by kernel_rfl) (by kernel_rfl) (fun _ _ _ h => h) (Or.inl ⟨by rfl, fun X hS => by obtain ⟨e0, e1⟩ := hS; go_simp⟩) HS0 ?_
    refine wpAnyT_take (i := 9) (v := .int .i64 c.toNat) rfl (by kernel_rfl) (by kernel_rfl) (by kernel_rfl) (by kernel_rfl) (fun _ _ _ h => h) (Or.inl ⟨by rfl, fun X hS => by obtain ⟨e0, e1⟩ := hS; go_simp; exact IntWalk.i64_in _ (by omega)⟩) HS0 ?_
    refine wpAnyT_take (i := 10) (v := .int .i64 (c.toNat - 48)) rfl (by kernel_rfl) (by kernel_rfl) (by kernel_rfl) (by kernel_rfl) (fun _ _ _ h => h) (Or.inl ⟨by rfl, fun X hS => by obtain ⟨e0, e1⟩ := hS; go_simp; exact IntWalk.i64_in _ (by omega)⟩) HS0 ?_
    have SS : ∀ X : World, W.grownBy X none → X.cell? ⟨b, 0, none⟩ = some (.string s) ∧ X.cell? ⟨b, 1, none⟩ = some (.int .i64 i) := fun X hX => by
      have h1 : X.heap[b]? = W.heap[b]? := hX.block b (by omega) (by simp)
      exact ⟨(World.cell?_of_block (a := ⟨b, 0, none⟩) (w := W) (w' := X) h1).trans k0, (World.cell?_of_block (a := ⟨b, 1, none⟩) (w := W) (w' := X) h1).trans k1⟩
    refine wpAnyT_two 11 13 rfl rfl (by kernel_rfl) (fun K hK => ?_) (fun K hK => ?_)
    · go_simp
      refine hK _ _ (fun _ => SS _ (grown_undrew (World.grownBy_alloc _ _ _))) ?_
      clear hK K
      have HS0 := SS _ (grown_undrew (World.grownBy_alloc W.drew (.cells #[] 85) none))
      refine wpAnyT_take (i := 12) (v := .agg #[.int .i64 (c.toNat - 48), .slice (some ⟨W.heap.size, 0, .none⟩) 0 0]) rfl (by kernel_rfl) (by kernel_rfl) (by kernel_rfl) (by kernel_rfl) (fun _ _ _ h => h) (Or.inl ⟨by rfl, fun X hS => by obtain ⟨e0, e1⟩ := hS; go_simp⟩) HS0 ?_
      try go_simp
      refine wpAnyT_one 13 rfl (by kernel_rfl) (fun K hK => ?_)
      go_simp
      refine hK _ _ (fun _ => SS _ (grown_undrew (grown_trans (World.grownBy_alloc _ _ _) (World.grownBy_alloc _ _ _)))) ?_
      clear hK K
      refine wpAnyT_one 14 rfl (by kernel_rfl) (fun K hK => ?_)
      go_simp
      refine hK _ _ (fun _ => SS _ (grown_todrew (grown_trans (World.grownBy_alloc _ _ _) (World.grownBy_alloc _ _ _)))) ?_
      clear hK K
      refine wpAnyT_end (by kernel_rfl) ?_
      go_wp2
      go_meet
      case rel => exact ⟨W.heap.size, W.heap.size + 1, rfl, ⟨hb_alloc (hb_alloc S1.out _) _, hb_alloc (hb_alloc S2.out _) _, hb_new2 _ _ _ _ (by simp), grown_todrew (grown_trans S3.out (grown_trans (World.grownBy_alloc _ _ _) (World.grownBy_alloc _ _ _))), hlt0, by omega⟩, (World.ownsRow.drew ((World.ownsRow_made (base := w.heap.size + 1) (e := 85) (size := 2) W #[] 0 hz' (by simp [maxLen]) rfl).alloc _)), fun p h => by cases h; show W.heap.size ≠ W.heap.size + 1; omega⟩
    · go_simp
      refine hK _ _ (fun _ => SS _ (grown_undrew (World.grownBy_alloc _ _ _))) ?_
      clear hK K
      refine wpAnyT_one 11 rfl (by kernel_rfl) (fun K hK => ?_)
      go_simp
      refine hK _ _ (fun _ => SS _ (grown_undrew (grown_trans (World.grownBy_alloc _ _ _) (World.grownBy_alloc _ _ _)))) ?_
      clear hK K
      have HS0 := SS _ (grown_undrew (grown_trans (World.grownBy_alloc W.drew (.cells #[.int .i64 0, .slice none 0 0] 85) none) (World.grownBy_alloc _ (.cells #[] 85) _)))
      refine wpAnyT_take (i := 12) (v := .agg #[.int .i64 (c.toNat - 48), .slice (some ⟨W.heap.size + 1, 0, .none⟩) 0 0]) rfl (by kernel_rfl) (by kernel_rfl) (by kernel_rfl) (by kernel_rfl) (fun _ _ _ h => h) (Or.inl ⟨by rfl, fun X hS => by obtain ⟨e0, e1⟩ := hS; go_simp⟩) HS0 ?_
      try go_simp
      refine wpAnyT_one 14 rfl (by kernel_rfl) (fun K hK => ?_)
      go_simp
      refine hK _ _ (fun _ => SS _ (grown_todrew (grown_trans (World.grownBy_alloc _ _ _) (World.grownBy_alloc _ _ _)))) ?_
      clear hK K
      refine wpAnyT_end (by kernel_rfl) ?_
      go_wp2
      go_meet
      case rel => exact ⟨W.heap.size + 1, W.heap.size, rfl, ⟨hb_alloc (hb_alloc S1.out _) _, hb_alloc (hb_alloc S2.out _) _, hb_alloc (heap_alloc_new _ _) _, grown_todrew (grown_trans S3.out (grown_trans (World.grownBy_alloc _ _ _) (World.grownBy_alloc _ _ _))), hlt0, by omega⟩, (World.ownsRow.drew (by simpa using World.ownsRow_made (base := w.heap.size + 1) (e := 85) (size := 2) (W.alloc (.cells #[.int .i64 ((c.toNat : Int) - 48), .slice (some ⟨W.heap.size + 1, 0, .none⟩) 0 0] 85)) #[] 0 (by simp; omega) (by simp [maxLen]) rfl)), fun p h => by cases h; show W.heap.size + 1 ≠ W.heap.size; omega⟩
  case rest =>
    obtain ⟨g0, nb, rfl, ⟨s1, s2, s3, s4, s5, s6⟩, s7, s8⟩ := hcut
    clear k0 k1 S1 S2 S3 hz hz' hw64 hdd hlt3
    have k1 : wc.cell? ⟨b, 1, .none⟩ = some (.int .i64 i) := heap_cell s1 1
    have fb1 : wc.frozen? ⟨b, 1, .none⟩ = false := heap_free s1 1
    have hne : b ≠ nb := by omega
    have hg0 : g0 ≠ nb := s8 _ rfl
    have T1 : Hid (St w b nb l (i + 1) false c (.slice (some ⟨g0, 0, .none⟩) 0 0) (wc.setCell ⟨b, 1, .none⟩ (.int .i64 ((i : Int) + 1)))) := ⟨heap_set s1 1 _, hb_set_ne s2 _ _ (by show w.heap.size ≠ b; omega), hb_set_ne s3 _ _ (by show nb ≠ b; omega), grown_trans s4 (grown_set _ _ _ _), s5, s6⟩
    have T2 : Hid (Row w nb (some ⟨g0, 0, .none⟩) 0 0 [] (wc.setCell ⟨b, 1, .none⟩ (.int .i64 ((i : Int) + 1)))) := ⟨row_set s7 _ (by show g0 ≠ b; have := (row_block s7).1; omega), s8⟩
    clear s1 s2 s3 s4 s5 s6 s7 s8 hg0
    go_wp2_with fail
    generalize wc.setCell ⟨b, 1, .none⟩ (.int .i64 ((i : Int) + 1)) = W at *
    clear k1 fb1
    obtain ⟨s1, s2, s3, s4, s5, s6⟩ := T1.out
    by_cases h40 : l[i + 1]? = some 40
    · have H40 := hid h40
      clear h40
      refine (is_yes W b l (i + 1) false 40 (by omega) H40.out s1).mono ?_
      rintro e w2 ⟨rfl, r2, g2⟩
      have s1' := r2
      have s2' := grown_keep g2 s2 (by simp; omega)
      have s3' := grown_keep g2 s3 (by simp; omega)
      have s4' := grown_trans s4 g2
      have T3 : Hid (Row w nb (some ⟨g0, 0, .none⟩) 0 0 [] w2) := ⟨row_keptP (P := fun k => k ≠ b) (keepsP_grown g2 (fun k h h2 => h2 (by simpa using h.symm))) T2.out.1 (fun g h => by have := (row_own T2.out.1 g h).1; omega), T2.out.2⟩
      have hsz2 := g2.size
      clear s1 s2 s3 s4 r2 g2
      have s1 := s1'
      have s2 := s2'
      have s3 := s3'
      have s4 := s4'
      clear s1' s2' s3' s4' T1 T2
      have hi40 : i + 2 ≤ l.length := (List.getElem?_eq_some_iff.1 H40.out).1
      obtain ⟨A, hA⟩ : ∃ A : F, A = .nil := ⟨_, rfl⟩
      obtain ⟨a, ha⟩ : ∃ a : Option Addr, a = some ⟨g0, 0, .none⟩ := ⟨_, rfl⟩
      obtain ⟨ps, hps⟩ : ∃ ps : List Value, ps = [] := ⟨_, rfl⟩
      obtain ⟨cap, hcap⟩ : ∃ cap : Nat, cap = 0 := ⟨_, rfl⟩
      have hAl : A.len ≤ 0 := by rw [hA]; exact Nat.le_refl _
      have e0 : (Value.slice (some ⟨g0, 0, .none⟩) 0 0) = .slice a A.len cap := by rw [hA, ha, hcap]; rfl
      have HS : Hid (SDs (ex (nb + 1) (.slice a A.len cap)) w2 A ps) := by rw [hA]; exact hps
      have HR : Hid (Row w nb a A.len cap ps w2) := by rw [hA, ha, hcap, hps]; exact T3.out
      rw [e0] at s3
      have HA := hid hA
      clear e0 hA ha hps hcap T3
      have k2 : w2.cell? ⟨b, 2, .none⟩ = some (.bool false) := heap_cell s1 2
      have fb2 : w2.frozen? ⟨b, 2, .none⟩ = false := heap_free s1 2
      have f0 : w2.frozen? ⟨w.heap.size, 0, .none⟩ = false := heap_free s2 0
      have f1 : w2.frozen? ⟨w.heap.size, 1, .none⟩ = false := heap_free s2 1
      have kr0 : w2.cell? ⟨w.heap.size, 0, .none⟩ = some (.int .i64 0) := heap_cell s2 0
      have kr1 : w2.cell? ⟨w.heap.size, 1, .none⟩ = some (.slice .none 0 0) := heap_cell s2 1
      have kn0 : w2.cell? ⟨nb, 0, .none⟩ = some (.int .i64 (dv c)) := heap_cell s3 0
      have kn1 : w2.cell? ⟨nb, 1, .none⟩ = some (.slice a A.len cap) := heap_cell s3 1
      have fn1 : w2.frozen? ⟨nb, 1, .none⟩ = false := heap_free s3 1
      have S1 := hid s1
      have S2 := hid s2
      have S3 := hid s3
      have S4 := hid s4
      have hszW := s4.size
      have hnW := lt_of_heap s3
      clear s1 s2 s3 s4
      have hn := IH.out (i + 1 + 1) (by omega) hi40
      go_wp2_with fail
      go_cut [] (fun wr => LRel w b nb l (i + 1 + 1) c l.length wr)
      case first =>
        cases hd : rD (l.drop (i + 1 + 1)) with
        | none =>
          have HN : Hid (∀ w b, RD w b l (i + 1 + 1) false → Calls Tryd.prog 100 #[.pointer (some ⟨b, 0, none⟩)] w (NNo w b l)) := fun w b h => (hn w b h).mono fun e w' hp => hp.2 hd
          have HDD := hid hd
          clear hn hd
          refine wp_region_any (by kernel_rfl) ?_
          change wpAny _ _ _ _ _ _ _ (World.drew _)
          refine wpAny_take (i := 0) (v := .pointer (some ⟨nb, 1, none⟩)) rfl (by kernel_rfl) (by kernel_rfl) (by kernel_rfl) (fun _ _ _ h => h) (Or.inl ⟨by rfl, fun _ => by go_simp⟩) ?_
          refine wpAny_take (i := 2) (v := .pointer (some ⟨b, 0, none⟩)) rfl (by kernel_rfl) (by kernel_rfl) (by kernel_rfl) (fun _ _ _ h => h) (Or.inl ⟨by rfl, fun _ => by go_simp⟩) ?_
          refine wpAny_of_T (S := fun X => X.cell? ⟨nb, 1, none⟩ = some (.slice a A.len cap)) (m := 5) _ _ _ _ ?_
          refine wpAnyT_take (i := 1) (v := .slice a A.len cap) rfl (by kernel_rfl) (by kernel_rfl) (by kernel_rfl) (by kernel_rfl) (fun _ _ _ h => h) (Or.inl ⟨by rfl, fun X hS => by have hS1 : X.cell? ⟨nb, 1, none⟩ = some (.slice a A.len cap) := hS; clear hS; go_simp⟩) kn1 ?_
          refine wpAnyT_one 3 rfl (by kernel_rfl) (fun K hK => ?_)
          go_simp
          refine (HN.out w2.drew b S1.out).mono ?_
          rintro e w3 ⟨hh, aa, nn, cc, j3, rfl, hj3, r3, g3⟩
          obtain ⟨h3, eh3⟩ : ∃ v, v = Value.int .i64 hh := ⟨_, rfl⟩
          obtain ⟨q3, eq3⟩ : ∃ v, v = Value.slice aa nn cc := ⟨_, rfl⟩
          rw [← eh3, ← eq3]
          have o1 : h3.oneCell' = true := by rw [eh3]; rfl
          have o2 : q3.oneCell' = true := by rw [eq3]; rfl
          clear eh3 eq3
          have hb3 := grown_keep (w := w2.drew) g3 S3.out (by simp; omega)
          have hr3 := grown_keep (w := w2.drew) g3 S2.out (by simp; omega)
          have kn1 : w3.cell? ⟨nb, 1, .none⟩ = some (.slice a A.len cap) := heap_cell hb3 1
          have hsz3 : w2.heap.size ≤ w3.heap.size := g3.size
          have hnb3 := lt_of_heap hb3
          have hbb3 := lt_of_heap r3
          have R3 := hid r3
          have G3 : Hid (w2.grownBy w3 (some b)) := grown_undrew g3
          have B3 := hid hb3
          have BR3 := hid hr3
          clear r3 g3 hb3 hr3
          refine hK _ _ (fun _ => kn1) ?_
          clear hK K
          refine wpAnyT_one 4 rfl (by kernel_rfl) (fun K hK => ?_)
          go_simp
          refine hK _ _ (fun _ => heap_cell (hb_alloc B3.out _) 1) ?_
          clear hK K
          refine wpAnyT_drop _ 5 _ _ _ (Nat.le_refl _) (by kernel_rfl) ?_
          change wpList _ _ _ (_ :: _) _ _
          go_wp2_with (first
            | (at_builtin; refine app_push_at 83 85 (.agg #[.int .i64 0, .slice .none 0 0]) 2 32 Tryd.underlying83 infoSD rfl (by decide) rfl _ _ rfl (w.heap.size + 1) (.slice a A.len cap) A.len ps rfl (World.ownsRow.alloc (row_keptP (P := fun k => k ≠ b) (keepsP_grown G3.out (fun k h h2 => h2 (by simpa using h.symm))) HR.out.1 (fun g h => by have := (row_own HR.out.1 g h).1; omega)) _) w3.heap.size 1 [h3, q3] rfl rfl (news_two (heap_cell (heap_alloc_new _ _) 0) (heap_cell (heap_alloc_new _ _) 1)) (by simp [o1, o2]) (by unfold maxLen; omega) (by omega) (by simp; omega) ?_))
          intro g4 cap4 w4 hown hg hlie
          (try simp only [World.size_alloc] at hlie)
          have hnr : ∀ g, (Value.ownBlock (.slice a A.len cap)) = some g → w.heap.size + 1 ≤ g ∧ g < w2.heap.size ∧ g ≠ nb := fun g h => ⟨(row_own HR.out.1 g h).1, (row_own HR.out.1 g h).2, fun e => by
            cases ha : a with
            | none => rw [ha] at h; simp [Value.ownBlock] at h
            | some p => rw [ha] at h; simp [Value.ownBlock] at h; exact HR.out.2 p ha (by rw [h]; exact e)⟩
          have hb4 := grown_keep hg (hb_alloc B3.out _) (fun e => (hnr _ e.symm).2.2 rfl)
          have hr4 := grown_keep hg (hb_alloc BR3.out _) (fun e => by have := (hnr _ e.symm).1; omega)
          have hd4 := grown_keep hg (hb_alloc R3.out _) (fun e => by have := (hnr _ e.symm).1; omega)
          have kn1 : w4.cell? ⟨nb, 1, .none⟩ = some (.slice a A.len cap) := heap_cell hb4 1
          have fn1 : w4.frozen? ⟨nb, 1, .none⟩ = false := heap_free hb4 1
          have hsz4 : w3.heap.size + 1 ≤ w4.heap.size := by have := hg.size; simpa using this
          have hg4 : g4 ≠ nb := by
            intro e
            rcases hlie with h | h
            · exact (hnr _ h).2.2 e
            · omega
          have HW4 := hid hown
          have HG4 := hid hg
          have B4 := hid hb4
          have BR4 := hid hr4
          have R4 := hid hd4
          have HLIE := hid hlie
          have HNR := hid hnr
          clear hown hg hb4 hr4 hd4 hlie hnr
          go_wp2
          go_meet
          case rel => exact .inr ⟨j3, some ⟨g4, 0, .none⟩, A.len + 1, cap4, hj3, by omega, ⟨hb_set_ne R4.out _ _ (by show b ≠ nb; omega), hb_set_ne BR4.out _ _ (by show w.heap.size ≠ nb; omega), heap_set B4.out 1 _, grown_new (grown_new (grown_trans S4.out G3.out) (grown_trans (row := Value.ownBlock (.slice a A.len cap)) (World.grownBy_alloc _ _ _) HG4.out) (fun i h => .inr (by have := (HNR.out i h).1; omega))) (grown_set _ nb _ _) (fun i h => .inr (by simp at h; omega)), hlt0, s6⟩, rT_none HDD.out⟩
        | some x =>
          obtain ⟨c1, k1, r1⟩ := x
          have hrl := rD_len hd
          have HN0 : Hid (∀ w b, RD w b l (i + 1 + 1) false → Calls Tryd.prog 100 #[.pointer (some ⟨b, 0, none⟩)] w (fun e w' => ∃ j, j ≤ l.length ∧ l.drop j = r1 ∧ NOk w b l c1 k1 j e w')) := fun w b h => (hn w b h).mono fun e w' hp => hp.1 _ _ _ hd
          have HDD := hid hd
          clear hn hd
          have HN := HN0
          refine wp_region_any (by kernel_rfl) ?_
          change wpAny _ _ _ _ _ _ _ (World.drew _)
          refine wpAny_take (i := 0) (v := .pointer (some ⟨nb, 1, none⟩)) rfl (by kernel_rfl) (by kernel_rfl) (by kernel_rfl) (fun _ _ _ h => h) (Or.inl ⟨by rfl, fun _ => by go_simp⟩) ?_
          refine wpAny_take (i := 2) (v := .pointer (some ⟨b, 0, none⟩)) rfl (by kernel_rfl) (by kernel_rfl) (by kernel_rfl) (fun _ _ _ h => h) (Or.inl ⟨by rfl, fun _ => by go_simp⟩) ?_
          refine wpAny_of_T (S := fun X => X.cell? ⟨nb, 1, none⟩ = some (.slice a A.len cap)) (m := 5) _ _ _ _ ?_
          refine wpAnyT_take (i := 1) (v := .slice a A.len cap) rfl (by kernel_rfl) (by kernel_rfl) (by kernel_rfl) (by kernel_rfl) (fun _ _ _ h => h) (Or.inl ⟨by rfl, fun X hS => by have hS1 : X.cell? ⟨nb, 1, none⟩ = some (.slice a A.len cap) := hS; clear hS; go_simp⟩) kn1 ?_
          refine wpAnyT_one 3 rfl (by kernel_rfl) (fun K hK => ?_)
          go_simp
          refine (HN.out w2.drew b S1.out).mono ?_
          rintro e w3 ⟨j, hj, hjr, h3, q3, rfl, sn, r3, g3⟩
          subst hjr
          have hjl : i + 1 + 1 < j := by simp at hrl; omega
          obtain ⟨eh3, p3, n3, c3, eq3⟩ := sn.form
          have o1 : h3.oneCell' = true := by rw [eh3]; rfl
          have o2 : q3.oneCell' = true := by rw [eq3]; rfl
          have SN := hid sn
          clear sn eh3 eq3
          have hb3 := grown_keep (w := w2.drew) g3 S3.out (by simp; omega)
          have hr3 := grown_keep (w := w2.drew) g3 S2.out (by simp; omega)
          have kn1 : w3.cell? ⟨nb, 1, .none⟩ = some (.slice a A.len cap) := heap_cell hb3 1
          have hsz3 : w2.heap.size ≤ w3.heap.size := g3.size
          have hnb3 := lt_of_heap hb3
          have hbb3 := lt_of_heap r3
          have R3 := hid r3
          have G3 : Hid (w2.grownBy w3 (some b)) := grown_undrew g3
          have B3 := hid hb3
          have BR3 := hid hr3
          clear r3 g3 hb3 hr3
          refine hK _ _ (fun _ => kn1) ?_
          clear hK K
          refine wpAnyT_one 4 rfl (by kernel_rfl) (fun K hK => ?_)
          go_simp
          refine hK _ _ (fun _ => heap_cell (hb_alloc B3.out _) 1) ?_
          clear hK K
          refine wpAnyT_drop _ 5 _ _ _ (Nat.le_refl _) (by kernel_rfl) ?_
          change wpList _ _ _ (_ :: _) _ _
          go_wp2_with (first
            | (at_builtin; refine app_push_at 83 85 (.agg #[.int .i64 0, .slice .none 0 0]) 2 32 Tryd.underlying83 infoSD rfl (by decide) rfl _ _ rfl (w.heap.size + 1) (.slice a A.len cap) A.len ps rfl (World.ownsRow.alloc (row_keptP (P := fun k => k ≠ b) (keepsP_grown G3.out (fun k h h2 => h2 (by simpa using h.symm))) HR.out.1 (fun g h => by have := (row_own HR.out.1 g h).1; omega)) _) w3.heap.size 1 [h3, q3] rfl rfl (news_two (heap_cell (heap_alloc_new _ _) 0) (heap_cell (heap_alloc_new _ _) 1)) (by simp [o1, o2]) (by unfold maxLen; omega) (by omega) (by simp; omega) ?_))
          intro g4 cap4 w4 hown hg hlie
          (try simp only [World.size_alloc] at hlie)
          have hnr : ∀ g, (Value.ownBlock (.slice a A.len cap)) = some g → w.heap.size + 1 ≤ g ∧ g < w2.heap.size ∧ g ≠ nb := fun g h => ⟨(row_own HR.out.1 g h).1, (row_own HR.out.1 g h).2, fun e => by
            cases ha : a with
            | none => rw [ha] at h; simp [Value.ownBlock] at h
            | some p => rw [ha] at h; simp [Value.ownBlock] at h; exact HR.out.2 p ha (by rw [h]; exact e)⟩
          have hb4 := grown_keep hg (hb_alloc B3.out _) (fun e => (hnr _ e.symm).2.2 rfl)
          have hr4 := grown_keep hg (hb_alloc BR3.out _) (fun e => by have := (hnr _ e.symm).1; omega)
          have hd4 := grown_keep hg (hb_alloc R3.out _) (fun e => by have := (hnr _ e.symm).1; omega)
          have kn1 : w4.cell? ⟨nb, 1, .none⟩ = some (.slice a A.len cap) := heap_cell hb4 1
          have fn1 : w4.frozen? ⟨nb, 1, .none⟩ = false := heap_free hb4 1
          have hsz4 : w3.heap.size + 1 ≤ w4.heap.size := by have := hg.size; simpa using this
          have hg4 : g4 ≠ nb := by
            intro e
            rcases hlie with h | h
            · exact (hnr _ h).2.2 e
            · omega
          have HW4 := hid hown
          have HG4 := hid hg
          have B4 := hid hb4
          have BR4 := hid hr4
          have R4 := hid hd4
          have HLIE := hid hlie
          have HNR := hid hnr
          clear hown hg hb4 hr4 hd4 hlie hnr
          go_wp2
          go_meet
          case rel =>
            refine .inl ⟨j, A.app (.cons c1 k1 .nil), some ⟨g4, 0, .none⟩, cap4, ps ++ [h3, q3], hj, by omega, by rw [F.len_app]; show i + 1 + 1 + (A.len + 1) ≤ j; omega, by rw [F.len_app]; show 0 < A.len + 1; omega, ?_, ?_, ?_, by have q := cont_cons (A := F.nil) HDD.out; rw [cont_nil] at q; rw [q, HA.out]⟩
            · have e1 : (A.app (.cons c1 k1 .nil)).len = A.len + 1 := by simp [F.len_app, F.len]
              rw [e1]
              exact ⟨hb_set_ne R4.out _ _ (by show b ≠ nb; omega), hb_set_ne BR4.out _ _ (by show w.heap.size ≠ nb; omega), heap_set B4.out 1 _, grown_new (grown_new (grown_trans S4.out G3.out) (grown_trans (row := Value.ownBlock (.slice a A.len cap)) (World.grownBy_alloc _ _ _) HG4.out) (fun i h => .inr (by have := (HNR.out i h).1; omega))) (grown_set _ nb _ _) (fun i h => .inr (by simp at h; omega)), hlt0, s6⟩
            · have e1 : (A.app (.cons c1 k1 .nil)).len = A.len + 1 := by simp [F.len_app, F.len]
              rw [e1]
              exact ⟨row_set HW4.out _ (by show g4 ≠ nb; exact hg4), fun p h => by cases h; exact hg4⟩
            · have e1 : (A.app (.cons c1 k1 .nil)).len = A.len + 1 := by simp [F.len_app, F.len]
              rw [e1]
              have q1 := sds_push (w1' := w3.alloc (.cells #[h3, q3] 85)) (v' := .slice (some ⟨g4, 0, .none⟩) (A.len + 1) cap4) HS.out (fun g h => (HNR.out g h).2.1) G3.out (fun g h => by simp at h; omega) SN.out (by omega) (keepsP_alloc _ _) (by simp) HG4.out (fun g h => by simp [Value.ownBlock] at h; subst h; rcases HLIE.out with h | h; exact .inl h; exact .inr (by rw [World.size_alloc]; omega))
              exact KeepsP.sds (keepsP_set _ _ _ (fun h => by exact absurd h.1 (by show ¬ (nb + 1 ≤ nb); omega))) q1
      case rest =>
        have E1 : Hid (l.drop i = c :: 40 :: l.drop (i + 1 + 1)) := by show _ = _; rw [cons_drop (by rw [List.getElem?_eq_some_iff]; exact ⟨hlt, HC.out⟩ : l[i]? = some c), cons_drop H40.out]
        have HCUT := hid hcut
        clear hcut hn HS HR S1 S2 S3 S4 HA hAl k2 fb2 f0 f1 kr0 kr1 kn0 kn1 fn1 hszW hnW hsz2 A a ps cap hne w2
        go_wp2_with fail
        go_loopg [71] l.length (fun k p wr => LRel w b nb l (i + 1 + 1) c k wr)
        case atStart => exact HCUT.out
        case round =>
          rcases hrel with ⟨j, A, a, cap, ps, hj, hk, hAj, hA0, ⟨s1, s2, s3, s4, _, _⟩, hR, hS, hT⟩ | ⟨j, a, n, cap, hj, hn, ⟨s1, s2, s3, s4, _, _⟩, hT⟩
          · have HR := hid hR
            have HS := hid hS
            have HT := hid hT
            clear hR hS hT
            have k2 : wr.cell? ⟨b, 2, .none⟩ = some (.bool false) := heap_cell s1 2
            have fb2 : wr.frozen? ⟨b, 2, .none⟩ = false := heap_free s1 2
            have f0 : wr.frozen? ⟨w.heap.size, 0, .none⟩ = false := heap_free s2 0
            have f1 : wr.frozen? ⟨w.heap.size, 1, .none⟩ = false := heap_free s2 1
            have kr0 : wr.cell? ⟨w.heap.size, 0, .none⟩ = some (.int .i64 0) := heap_cell s2 0
            have kr1 : wr.cell? ⟨w.heap.size, 1, .none⟩ = some (.slice .none 0 0) := heap_cell s2 1
            have kn0 : wr.cell? ⟨nb, 0, .none⟩ = some (.int .i64 (dv c)) := heap_cell s3 0
            have kn1 : wr.cell? ⟨nb, 1, .none⟩ = some (.slice a A.len cap) := heap_cell s3 1
            have fn1 : wr.frozen? ⟨nb, 1, .none⟩ = false := heap_free s3 1
            have S1 := hid s1
            have S2 := hid s2
            have S3 := hid s3
            have S4 := hid s4
            have hszW := s4.size
            have hnW := lt_of_heap s3
            clear s1 s2 s3 s4
            by_cases h44 : l[j]? = some 44
            · have hj44 : j + 1 ≤ l.length := (List.getElem?_eq_some_iff.1 h44).1
              have HJ : Hid (l.drop j = 44 :: l.drop (j + 1)) := cons_drop h44
              have H44 := hid h44
              clear h44
              go_wp2_with fail
              refine (is_yes wr b l j false 44 (by omega) H44.out S1.out).mono ?_
              rintro e w2 ⟨rfl, r2, g2⟩
              have s1 := r2
              have s2 := grown_keep g2 S2.out (by simp; omega)
              have s3 := grown_keep g2 S3.out (by simp; omega)
              have s4 := grown_trans S4.out g2
              have HR' : Hid (Row w nb a A.len cap ps w2) := ⟨row_keptP (P := fun k => k ≠ b) (keepsP_grown g2 (fun k h h2 => h2 (by simpa using h.symm))) HR.out.1 (fun g h => by have := (row_own HR.out.1 g h).1; omega), HR.out.2⟩
              have HS' : Hid (SDs (ex (nb + 1) (.slice a A.len cap)) w2 A ps) := KeepsP.sds (keepsP_grown g2 (fun k h h2 => by simp at h; have := h2.1; omega)) HS.out
              clear S1 S2 S3 S4 HR HS r2 g2 k2 fb2 f0 f1 kr0 kr1 kn0 kn1 fn1 hszW hnW
              have HR := HR'
              have HS := HS'
              clear HR' HS'
              have k2 : w2.cell? ⟨b, 2, .none⟩ = some (.bool false) := heap_cell s1 2
              have fb2 : w2.frozen? ⟨b, 2, .none⟩ = false := heap_free s1 2
              have f0 : w2.frozen? ⟨w.heap.size, 0, .none⟩ = false := heap_free s2 0
              have f1 : w2.frozen? ⟨w.heap.size, 1, .none⟩ = false := heap_free s2 1
              have kr0 : w2.cell? ⟨w.heap.size, 0, .none⟩ = some (.int .i64 0) := heap_cell s2 0
              have kr1 : w2.cell? ⟨w.heap.size, 1, .none⟩ = some (.slice .none 0 0) := heap_cell s2 1
              have kn0 : w2.cell? ⟨nb, 0, .none⟩ = some (.int .i64 (dv c)) := heap_cell s3 0
              have kn1 : w2.cell? ⟨nb, 1, .none⟩ = some (.slice a A.len cap) := heap_cell s3 1
              have fn1 : w2.frozen? ⟨nb, 1, .none⟩ = false := heap_free s3 1
              have S1 := hid s1
              have S2 := hid s2
              have S3 := hid s3
              have S4 := hid s4
              have hszW := s4.size
              have hnW := lt_of_heap s3
              clear s1 s2 s3 s4
              go_wp2_with fail
              have hn := IH.out (j + 1) (by omega) hj44
              cases hd : rD (l.drop (j + 1)) with
              | none =>
                have HN : Hid (∀ w b, RD w b l (j + 1) false → Calls Tryd.prog 100 #[.pointer (some ⟨b, 0, none⟩)] w (NNo w b l)) := fun w b h => (hn w b h).mono fun e w' hp => hp.2 hd
                have HDD := hid hd
                clear hn hd
                refine wp_region_any (by kernel_rfl) ?_
                change wpAny _ _ _ _ _ _ _ (World.drew _)
                refine wpAny_take (i := 0) (v := .pointer (some ⟨nb, 1, none⟩)) rfl (by kernel_rfl) (by kernel_rfl) (by kernel_rfl) (fun _ _ _ h => h) (Or.inl ⟨by rfl, fun _ => by go_simp⟩) ?_
                refine wpAny_take (i := 2) (v := .pointer (some ⟨b, 0, none⟩)) rfl (by kernel_rfl) (by kernel_rfl) (by kernel_rfl) (fun _ _ _ h => h) (Or.inl ⟨by rfl, fun _ => by go_simp⟩) ?_
                refine wpAny_of_T (S := fun X => X.cell? ⟨nb, 1, none⟩ = some (.slice a A.len cap)) (m := 5) _ _ _ _ ?_
                refine wpAnyT_take (i := 1) (v := .slice a A.len cap) rfl (by kernel_rfl) (by kernel_rfl) (by kernel_rfl) (by kernel_rfl) (fun _ _ _ h => h) (Or.inl ⟨by rfl, fun X hS => by have hS1 : X.cell? ⟨nb, 1, none⟩ = some (.slice a A.len cap) := hS; clear hS; go_simp⟩) kn1 ?_
                refine wpAnyT_one 3 rfl (by kernel_rfl) (fun K hK => ?_)
                go_simp
                refine (HN.out w2.drew b S1.out).mono ?_
                rintro e w3 ⟨hh, aa, nn, cc, j3, rfl, hj3, r3, g3⟩
                obtain ⟨h3, eh3⟩ : ∃ v, v = Value.int .i64 hh := ⟨_, rfl⟩
                obtain ⟨q3, eq3⟩ : ∃ v, v = Value.slice aa nn cc := ⟨_, rfl⟩
                rw [← eh3, ← eq3]
                have o1 : h3.oneCell' = true := by rw [eh3]; rfl
                have o2 : q3.oneCell' = true := by rw [eq3]; rfl
                clear eh3 eq3
                have hb3 := grown_keep (w := w2.drew) g3 S3.out (by simp; omega)
                have hr3 := grown_keep (w := w2.drew) g3 S2.out (by simp; omega)
                have kn1 : w3.cell? ⟨nb, 1, .none⟩ = some (.slice a A.len cap) := heap_cell hb3 1
                have hsz3 : w2.heap.size ≤ w3.heap.size := g3.size
                have hnb3 := lt_of_heap hb3
                have hbb3 := lt_of_heap r3
                have R3 := hid r3
                have G3 : Hid (w2.grownBy w3 (some b)) := grown_undrew g3
                have B3 := hid hb3
                have BR3 := hid hr3
                clear r3 g3 hb3 hr3
                refine hK _ _ (fun _ => kn1) ?_
                clear hK K
                refine wpAnyT_one 4 rfl (by kernel_rfl) (fun K hK => ?_)
                go_simp
                refine hK _ _ (fun _ => heap_cell (hb_alloc B3.out _) 1) ?_
                clear hK K
                refine wpAnyT_drop _ 5 _ _ _ (Nat.le_refl _) (by kernel_rfl) ?_
                change wpList _ _ _ (_ :: _) _ _
                go_wp2_with (first
                  | (at_builtin; refine app_push_at 83 85 (.agg #[.int .i64 0, .slice .none 0 0]) 2 32 Tryd.underlying83 infoSD rfl (by decide) rfl _ _ rfl (w.heap.size + 1) (.slice a A.len cap) A.len ps rfl (World.ownsRow.alloc (row_keptP (P := fun k => k ≠ b) (keepsP_grown G3.out (fun k h h2 => h2 (by simpa using h.symm))) HR.out.1 (fun g h => by have := (row_own HR.out.1 g h).1; omega)) _) w3.heap.size 1 [h3, q3] rfl rfl (news_two (heap_cell (heap_alloc_new _ _) 0) (heap_cell (heap_alloc_new _ _) 1)) (by simp [o1, o2]) (by unfold maxLen; omega) (by omega) (by simp; omega) ?_))
                intro g4 cap4 w4 hown hg hlie
                (try simp only [World.size_alloc] at hlie)
                have hnr : ∀ g, (Value.ownBlock (.slice a A.len cap)) = some g → w.heap.size + 1 ≤ g ∧ g < w2.heap.size ∧ g ≠ nb := fun g h => ⟨(row_own HR.out.1 g h).1, (row_own HR.out.1 g h).2, fun e => by
                  cases ha : a with
                  | none => rw [ha] at h; simp [Value.ownBlock] at h
                  | some p => rw [ha] at h; simp [Value.ownBlock] at h; exact HR.out.2 p ha (by rw [h]; exact e)⟩
                have hb4 := grown_keep hg (hb_alloc B3.out _) (fun e => (hnr _ e.symm).2.2 rfl)
                have hr4 := grown_keep hg (hb_alloc BR3.out _) (fun e => by have := (hnr _ e.symm).1; omega)
                have hd4 := grown_keep hg (hb_alloc R3.out _) (fun e => by have := (hnr _ e.symm).1; omega)
                have kn1 : w4.cell? ⟨nb, 1, .none⟩ = some (.slice a A.len cap) := heap_cell hb4 1
                have fn1 : w4.frozen? ⟨nb, 1, .none⟩ = false := heap_free hb4 1
                have hsz4 : w3.heap.size + 1 ≤ w4.heap.size := by have := hg.size; simpa using this
                have hg4 : g4 ≠ nb := by
                  intro e
                  rcases hlie with h | h
                  · exact (hnr _ h).2.2 e
                  · omega
                have HW4 := hid hown
                have HG4 := hid hg
                have B4 := hid hb4
                have BR4 := hid hr4
                have R4 := hid hd4
                have HLIE := hid hlie
                have HNR := hid hnr
                clear hown hg hb4 hr4 hd4 hlie hnr
                go_wp2
                go_roundg (gk - 1)
                case measure => omega
                case rel => exact .inr ⟨j3, some ⟨g4, 0, .none⟩, A.len + 1, cap4, hj3, by omega, ⟨hb_set_ne R4.out _ _ (by show b ≠ nb; omega), hb_set_ne BR4.out _ _ (by show w.heap.size ≠ nb; omega), heap_set B4.out 1 _, grown_new (grown_new (grown_trans S4.out G3.out) (grown_trans (row := Value.ownBlock (.slice a A.len cap)) (World.grownBy_alloc _ _ _) HG4.out) (fun i h => .inr (by have := (HNR.out i h).1; omega))) (grown_set _ nb _ _) (fun i h => .inr (by simp at h; omega)), hlt0, s6⟩, by rw [HT.out, HJ.out]; exact cont_none HDD.out⟩
              | some x =>
                obtain ⟨c1, k1, r1⟩ := x
                have hrl := rD_len hd
                have HN : Hid (∀ w b, RD w b l (j + 1) false → Calls Tryd.prog 100 #[.pointer (some ⟨b, 0, none⟩)] w (fun e w' => ∃ j, j ≤ l.length ∧ l.drop j = r1 ∧ NOk w b l c1 k1 j e w')) := fun w b h => (hn w b h).mono fun e w' hp => hp.1 _ _ _ hd
                have HDD := hid hd
                clear hn hd
                refine wp_region_any (by kernel_rfl) ?_
                change wpAny _ _ _ _ _ _ _ (World.drew _)
                refine wpAny_take (i := 0) (v := .pointer (some ⟨nb, 1, none⟩)) rfl (by kernel_rfl) (by kernel_rfl) (by kernel_rfl) (fun _ _ _ h => h) (Or.inl ⟨by rfl, fun _ => by go_simp⟩) ?_
                refine wpAny_take (i := 2) (v := .pointer (some ⟨b, 0, none⟩)) rfl (by kernel_rfl) (by kernel_rfl) (by kernel_rfl) (fun _ _ _ h => h) (Or.inl ⟨by rfl, fun _ => by go_simp⟩) ?_
                refine wpAny_of_T (S := fun X => X.cell? ⟨nb, 1, none⟩ = some (.slice a A.len cap)) (m := 5) _ _ _ _ ?_
                refine wpAnyT_take (i := 1) (v := .slice a A.len cap) rfl (by kernel_rfl) (by kernel_rfl) (by kernel_rfl) (by kernel_rfl) (fun _ _ _ h => h) (Or.inl ⟨by rfl, fun X hS => by have hS1 : X.cell? ⟨nb, 1, none⟩ = some (.slice a A.len cap) := hS; clear hS; go_simp⟩) kn1 ?_
                refine wpAnyT_one 3 rfl (by kernel_rfl) (fun K hK => ?_)
                go_simp
                refine (HN.out w2.drew b S1.out).mono ?_
                rintro e w3 ⟨j1, hj1, hjr, h3, q3, rfl, sn, r3, g3⟩
                subst hjr
                have hjl : j + 1 < j1 := by simp at hrl; omega
                obtain ⟨eh3, p3, n3, c3, eq3⟩ := sn.form
                have o1 : h3.oneCell' = true := by rw [eh3]; rfl
                have o2 : q3.oneCell' = true := by rw [eq3]; rfl
                have SN := hid sn
                clear sn eh3 eq3
                have hb3 := grown_keep (w := w2.drew) g3 S3.out (by simp; omega)
                have hr3 := grown_keep (w := w2.drew) g3 S2.out (by simp; omega)
                have kn1 : w3.cell? ⟨nb, 1, .none⟩ = some (.slice a A.len cap) := heap_cell hb3 1
                have hsz3 : w2.heap.size ≤ w3.heap.size := g3.size
                have hnb3 := lt_of_heap hb3
                have hbb3 := lt_of_heap r3
                have R3 := hid r3
                have G3 : Hid (w2.grownBy w3 (some b)) := grown_undrew g3
                have B3 := hid hb3
                have BR3 := hid hr3
                clear r3 g3 hb3 hr3
                refine hK _ _ (fun _ => kn1) ?_
                clear hK K
                refine wpAnyT_one 4 rfl (by kernel_rfl) (fun K hK => ?_)
                go_simp
                refine hK _ _ (fun _ => heap_cell (hb_alloc B3.out _) 1) ?_
                clear hK K
                refine wpAnyT_drop _ 5 _ _ _ (Nat.le_refl _) (by kernel_rfl) ?_
                change wpList _ _ _ (_ :: _) _ _
                go_wp2_with (first
                  | (at_builtin; refine app_push_at 83 85 (.agg #[.int .i64 0, .slice .none 0 0]) 2 32 Tryd.underlying83 infoSD rfl (by decide) rfl _ _ rfl (w.heap.size + 1) (.slice a A.len cap) A.len ps rfl (World.ownsRow.alloc (row_keptP (P := fun k => k ≠ b) (keepsP_grown G3.out (fun k h h2 => h2 (by simpa using h.symm))) HR.out.1 (fun g h => by have := (row_own HR.out.1 g h).1; omega)) _) w3.heap.size 1 [h3, q3] rfl rfl (news_two (heap_cell (heap_alloc_new _ _) 0) (heap_cell (heap_alloc_new _ _) 1)) (by simp [o1, o2]) (by unfold maxLen; omega) (by omega) (by simp; omega) ?_))
                intro g4 cap4 w4 hown hg hlie
                (try simp only [World.size_alloc] at hlie)
                have hnr : ∀ g, (Value.ownBlock (.slice a A.len cap)) = some g → w.heap.size + 1 ≤ g ∧ g < w2.heap.size ∧ g ≠ nb := fun g h => ⟨(row_own HR.out.1 g h).1, (row_own HR.out.1 g h).2, fun e => by
                  cases ha : a with
                  | none => rw [ha] at h; simp [Value.ownBlock] at h
                  | some p => rw [ha] at h; simp [Value.ownBlock] at h; exact HR.out.2 p ha (by rw [h]; exact e)⟩
                have hb4 := grown_keep hg (hb_alloc B3.out _) (fun e => (hnr _ e.symm).2.2 rfl)
                have hr4 := grown_keep hg (hb_alloc BR3.out _) (fun e => by have := (hnr _ e.symm).1; omega)
                have hd4 := grown_keep hg (hb_alloc R3.out _) (fun e => by have := (hnr _ e.symm).1; omega)
                have kn1 : w4.cell? ⟨nb, 1, .none⟩ = some (.slice a A.len cap) := heap_cell hb4 1
                have fn1 : w4.frozen? ⟨nb, 1, .none⟩ = false := heap_free hb4 1
                have hsz4 : w3.heap.size + 1 ≤ w4.heap.size := by have := hg.size; simpa using this
                have hg4 : g4 ≠ nb := by
                  intro e
                  rcases hlie with h | h
                  · exact (hnr _ h).2.2 e
                  · omega
                have HW4 := hid hown
                have HG4 := hid hg
                have B4 := hid hb4
                have BR4 := hid hr4
                have R4 := hid hd4
                have HLIE := hid hlie
                have HNR := hid hnr
                clear hown hg hb4 hr4 hd4 hlie hnr
                go_wp2
                go_roundg (gk - 1)
                case measure => omega
                case rel =>
                  refine .inl ⟨j1, A.app (.cons c1 k1 .nil), some ⟨g4, 0, .none⟩, cap4, ps ++ [h3, q3], hj1, by omega, by rw [F.len_app]; show i + 1 + 1 + (A.len + 1) ≤ j1; omega, by rw [F.len_app]; show 0 < A.len + 1; omega, ?_, ?_, ?_, by rw [HT.out, HJ.out]; exact cont_cons HDD.out⟩
                  · have e1 : (A.app (.cons c1 k1 .nil)).len = A.len + 1 := by simp [F.len_app, F.len]
                    rw [e1]
                    exact ⟨hb_set_ne R4.out _ _ (by show b ≠ nb; omega), hb_set_ne BR4.out _ _ (by show w.heap.size ≠ nb; omega), heap_set B4.out 1 _, grown_new (grown_new (grown_trans S4.out G3.out) (grown_trans (row := Value.ownBlock (.slice a A.len cap)) (World.grownBy_alloc _ _ _) HG4.out) (fun i h => .inr (by have := (HNR.out i h).1; omega))) (grown_set _ nb _ _) (fun i h => .inr (by simp at h; omega)), hlt0, s6⟩
                  · have e1 : (A.app (.cons c1 k1 .nil)).len = A.len + 1 := by simp [F.len_app, F.len]
                    rw [e1]
                    exact ⟨row_set HW4.out _ (by show g4 ≠ nb; exact hg4), fun p h => by cases h; exact hg4⟩
                  · have e1 : (A.app (.cons c1 k1 .nil)).len = A.len + 1 := by simp [F.len_app, F.len]
                    rw [e1]
                    have q1 := sds_push (w1' := w3.alloc (.cells #[h3, q3] 85)) (v' := .slice (some ⟨g4, 0, .none⟩) (A.len + 1) cap4) HS.out (fun g h => (HNR.out g h).2.1) G3.out (fun g h => by simp at h; omega) SN.out (by omega) (keepsP_alloc _ _) (by simp) HG4.out (fun g h => by simp [Value.ownBlock] at h; subst h; rcases HLIE.out with h | h; exact .inl h; exact .inr (by rw [World.size_alloc]; omega))
                    exact KeepsP.sds (keepsP_set _ _ _ (fun h => by exact absurd h.1 (by show ¬ (nb + 1 ≤ nb); omega))) q1
            · have HD44 : Hid (rT (44 :: l.drop (i + 1 + 1)) = some (A, l.drop j)) := by show _ = _; rw [HT.out]; exact cont_end (by rw [← at_drop]; exact h44)
              have H44 := hid h44
              clear h44
              go_wp2_with fail
              refine (is_no wr b l j false 44 (by omega) H44.out hj S1.out).mono ?_
              rintro e w2 ⟨rfl, r2, g2⟩
              have s1 := r2
              have s2 := grown_keep g2 S2.out (by simp; omega)
              have s3 := grown_keep g2 S3.out (by simp; omega)
              have s4 := grown_trans S4.out g2
              have HR' : Hid (Row w nb a A.len cap ps w2) := ⟨row_keptP (P := fun k => k ≠ b) (keepsP_grown g2 (fun k h h2 => h2 (by simpa using h.symm))) HR.out.1 (fun g h => by have := (row_own HR.out.1 g h).1; omega), HR.out.2⟩
              have HS' : Hid (SDs (ex (nb + 1) (.slice a A.len cap)) w2 A ps) := KeepsP.sds (keepsP_grown g2 (fun k h h2 => by simp at h; have := h2.1; omega)) HS.out
              clear S1 S2 S3 S4 HR HS r2 g2 k2 fb2 f0 f1 kr0 kr1 kn0 kn1 fn1 hszW hnW
              have HR := HR'
              have HS := HS'
              clear HR' HS'
              have k2 : w2.cell? ⟨b, 2, .none⟩ = some (.bool false) := heap_cell s1 2
              have fb2 : w2.frozen? ⟨b, 2, .none⟩ = false := heap_free s1 2
              have f0 : w2.frozen? ⟨w.heap.size, 0, .none⟩ = false := heap_free s2 0
              have f1 : w2.frozen? ⟨w.heap.size, 1, .none⟩ = false := heap_free s2 1
              have kr0 : w2.cell? ⟨w.heap.size, 0, .none⟩ = some (.int .i64 0) := heap_cell s2 0
              have kr1 : w2.cell? ⟨w.heap.size, 1, .none⟩ = some (.slice .none 0 0) := heap_cell s2 1
              have kn0 : w2.cell? ⟨nb, 0, .none⟩ = some (.int .i64 (dv c)) := heap_cell s3 0
              have kn1 : w2.cell? ⟨nb, 1, .none⟩ = some (.slice a A.len cap) := heap_cell s3 1
              have fn1 : w2.frozen? ⟨nb, 1, .none⟩ = false := heap_free s3 1
              have S1 := hid s1
              have S2 := hid s2
              have S3 := hid s3
              have S4 := hid s4
              have hszW := s4.size
              have hnW := lt_of_heap s3
              clear s1 s2 s3 s4
              go_wp2_with fail
              by_cases h41 : l[j]? = some 41
              · have hj1 : j + 1 ≤ l.length := (List.getElem?_eq_some_iff.1 h41).1
                have HJ : Hid (l.drop j = 41 :: l.drop (j + 1)) := cons_drop h41
                have H41 := hid h41
                clear h41
                refine (is_yes w2 b l j false 41 (by omega) H41.out S1.out).mono ?_
                rintro e w5 ⟨rfl, r2, g2⟩
                have s1 := r2
                have s2 := grown_keep g2 S2.out (by simp; omega)
                have s3 := grown_keep g2 S3.out (by simp; omega)
                have s4 := grown_trans S4.out g2
                have HR' : Hid (Row w nb a A.len cap ps w5) := ⟨row_keptP (P := fun k => k ≠ b) (keepsP_grown g2 (fun k h h2 => h2 (by simpa using h.symm))) HR.out.1 (fun g h => by have := (row_own HR.out.1 g h).1; omega), HR.out.2⟩
                have HS' : Hid (SDs (ex (nb + 1) (.slice a A.len cap)) w5 A ps) := KeepsP.sds (keepsP_grown g2 (fun k h h2 => by simp at h; have := h2.1; omega)) HS.out
                clear S1 S2 S3 S4 HR HS r2 g2 k2 fb2 f0 f1 kr0 kr1 kn0 kn1 fn1 hszW hnW
                have HR := HR'
                have HS := HS'
                clear HR' HS'
                have k2 : w5.cell? ⟨b, 2, .none⟩ = some (.bool false) := heap_cell s1 2
                have fb2 : w5.frozen? ⟨b, 2, .none⟩ = false := heap_free s1 2
                have f0 : w5.frozen? ⟨w.heap.size, 0, .none⟩ = false := heap_free s2 0
                have f1 : w5.frozen? ⟨w.heap.size, 1, .none⟩ = false := heap_free s2 1
                have kr0 : w5.cell? ⟨w.heap.size, 0, .none⟩ = some (.int .i64 0) := heap_cell s2 0
                have kr1 : w5.cell? ⟨w.heap.size, 1, .none⟩ = some (.slice .none 0 0) := heap_cell s2 1
                have kn0 : w5.cell? ⟨nb, 0, .none⟩ = some (.int .i64 (dv c)) := heap_cell s3 0
                have kn1 : w5.cell? ⟨nb, 1, .none⟩ = some (.slice a A.len cap) := heap_cell s3 1
                have fn1 : w5.frozen? ⟨nb, 1, .none⟩ = false := heap_free s3 1
                have S1 := hid s1
                have S2 := hid s2
                have S3 := hid s3
                have S4 := hid s4
                have hszW := s4.size
                have hnW := lt_of_heap s3
                clear s1 s2 s3 s4
                by_cases hl3 : A.len ≤ 3
                · have hl4 : decide ((3 : Int) < (A.len : Int)) = false := by simp; omega
                  go_wp2_with fail
                  refine bodyPost_ret (results_cell_row rfl _ _ w.heap.size 85 #[.int .i64 (dv c), .slice a A.len cap] (0, 0) _ rfl (heap_set (heap_set (hb_set_ne S2.out _ _ (by show w.heap.size ≠ b; omega)) 0 _) 1 _) Tryd.underlying85 rfl (by kernel_rfl)) rfl ?_
                  have KK : KeepsP (fun k => w.heap.size < k) w5 (((w5.setCell ⟨b, 2, .none⟩ (.bool false)).setCell ⟨w.heap.size, 0, .none⟩ (.int .i64 (dv c))).setCell ⟨w.heap.size, 1, .none⟩ (.slice a A.len cap)) := ((keepsP_set _ _ _ (by show ¬ (w.heap.size < b); omega)).trans (keepsP_set _ _ _ (by show ¬ (w.heap.size < w.heap.size); omega)) (by simp)).trans (keepsP_set _ _ _ (by show ¬ (w.heap.size < w.heap.size); omega)) (by simp)
                  exact NPost.some (c := c) (k := A) (j := j + 1) (show rD (l.drop i) = _ by rw [E1.out]; exact rD_yes HD.out (by rw [HT.out, HJ.out]; exact cont_end (by simp)) hl3) hj1 ⟨_, _, rfl, ⟨rfl, ps, (KK.rowP (rowP_of HR.out.1 (fun g h => by have := (row_own HR.out.1 g h).1; omega))).mono (fun k _ h => Nat.le_of_lt h), (KK.sds (HS.out.mono (fun k _ h => by have := h.1; omega))).mono (fun k _ h => Nat.le_of_lt h)⟩, hb_set_ne (hb_set_ne (heap_set S1.out 2 _) _ _ (by show b ≠ w.heap.size; omega)) _ _ (by show b ≠ w.heap.size; omega), grown_new (grown_trans S4.out (grown_set _ _ _ _)) (grown_trans (grown_set _ _ _ _) (grown_set _ _ _ _)) (fun i h => .inr (by simp at h; omega))⟩
                · have hl4 : decide ((3 : Int) < (A.len : Int)) = true := by simp; omega
                  go_wp2_with fail
                  refine bodyPost_ret (results_cell_row rfl _ _ w.heap.size 85 #[.int .i64 (dv c), .slice a A.len cap] (0, 0) _ rfl (heap_set (heap_set (hb_set_ne S2.out _ _ (by show w.heap.size ≠ b; omega)) 0 _) 1 _) Tryd.underlying85 rfl (by kernel_rfl)) rfl ?_
                  exact NPost.none (show rD (l.drop i) = _ by rw [E1.out]; exact rD_many HD.out HD44.out hl3) ⟨_, _, _, _, j + 1, rfl, hj1, hb_set_ne (hb_set_ne (heap_set S1.out 2 _) _ _ (by show b ≠ w.heap.size; omega)) _ _ (by show b ≠ w.heap.size; omega), grown_new (grown_trans S4.out (grown_set _ _ _ _)) (grown_trans (grown_set _ _ _ _) (grown_set _ _ _ _)) (fun i h => .inr (by simp at h; omega))⟩
              · have H41 := hid h41
                clear h41
                refine (is_no w2 b l j false 41 (by omega) H41.out hj S1.out).mono ?_
                rintro e w5 ⟨rfl, r2, g2⟩
                have s1 := r2
                have s2 := grown_keep g2 S2.out (by simp; omega)
                have s3 := grown_keep g2 S3.out (by simp; omega)
                have s4 := grown_trans S4.out g2
                have HR' : Hid (Row w nb a A.len cap ps w5) := ⟨row_keptP (P := fun k => k ≠ b) (keepsP_grown g2 (fun k h h2 => h2 (by simpa using h.symm))) HR.out.1 (fun g h => by have := (row_own HR.out.1 g h).1; omega), HR.out.2⟩
                have HS' : Hid (SDs (ex (nb + 1) (.slice a A.len cap)) w5 A ps) := KeepsP.sds (keepsP_grown g2 (fun k h h2 => by simp at h; have := h2.1; omega)) HS.out
                clear S1 S2 S3 S4 HR HS r2 g2 k2 fb2 f0 f1 kr0 kr1 kn0 kn1 fn1 hszW hnW
                have HR := HR'
                have HS := HS'
                clear HR' HS'
                have k2 : w5.cell? ⟨b, 2, .none⟩ = some (.bool false) := heap_cell s1 2
                have fb2 : w5.frozen? ⟨b, 2, .none⟩ = false := heap_free s1 2
                have f0 : w5.frozen? ⟨w.heap.size, 0, .none⟩ = false := heap_free s2 0
                have f1 : w5.frozen? ⟨w.heap.size, 1, .none⟩ = false := heap_free s2 1
                have kr0 : w5.cell? ⟨w.heap.size, 0, .none⟩ = some (.int .i64 0) := heap_cell s2 0
                have kr1 : w5.cell? ⟨w.heap.size, 1, .none⟩ = some (.slice .none 0 0) := heap_cell s2 1
                have kn0 : w5.cell? ⟨nb, 0, .none⟩ = some (.int .i64 (dv c)) := heap_cell s3 0
                have kn1 : w5.cell? ⟨nb, 1, .none⟩ = some (.slice a A.len cap) := heap_cell s3 1
                have fn1 : w5.frozen? ⟨nb, 1, .none⟩ = false := heap_free s3 1
                have S1 := hid s1
                have S2 := hid s2
                have S3 := hid s3
                have S4 := hid s4
                have hszW := s4.size
                have hnW := lt_of_heap s3
                clear s1 s2 s3 s4
                go_wp2_with fail
                refine bodyPost_ret (results_cell_row rfl _ _ w.heap.size 85 #[.int .i64 (dv c), .slice a A.len cap] (0, 0) _ rfl (heap_set (heap_set (hb_set_ne S2.out _ _ (by show w.heap.size ≠ b; omega)) 0 _) 1 _) Tryd.underlying85 rfl (by kernel_rfl)) rfl ?_
                exact NPost.none (show rD (l.drop i) = _ by rw [E1.out]; exact rD_noClose HD.out HD44.out (by rw [← at_drop]; exact H41.out)) ⟨_, _, _, _, j, rfl, hj, hb_set_ne (hb_set_ne (heap_set S1.out 2 _) _ _ (by show b ≠ w.heap.size; omega)) _ _ (by show b ≠ w.heap.size; omega), grown_new (grown_trans S4.out (grown_set _ _ _ _)) (grown_trans (grown_set _ _ _ _) (grown_set _ _ _ _)) (fun i h => .inr (by simp at h; omega))⟩
          · have HT := hid hT
            clear hT
            have k2 : wr.cell? ⟨b, 2, .none⟩ = some (.bool true) := heap_cell s1 2
            have fb2 : wr.frozen? ⟨b, 2, .none⟩ = false := heap_free s1 2
            have f0 : wr.frozen? ⟨w.heap.size, 0, .none⟩ = false := heap_free s2 0
            have f1 : wr.frozen? ⟨w.heap.size, 1, .none⟩ = false := heap_free s2 1
            have kr0 : wr.cell? ⟨w.heap.size, 0, .none⟩ = some (.int .i64 0) := heap_cell s2 0
            have kr1 : wr.cell? ⟨w.heap.size, 1, .none⟩ = some (.slice .none 0 0) := heap_cell s2 1
            have kn0 : wr.cell? ⟨nb, 0, .none⟩ = some (.int .i64 (dv c)) := heap_cell s3 0
            have kn1 : wr.cell? ⟨nb, 1, .none⟩ = some (.slice a n cap) := heap_cell s3 1
            have fn1 : wr.frozen? ⟨nb, 1, .none⟩ = false := heap_free s3 1
            have S1 := hid s1
            have S2 := hid s2
            have S3 := hid s3
            have S4 := hid s4
            have hszW := s4.size
            have hnW := lt_of_heap s3
            clear s1 s2 s3 s4
            go_wp2_with fail
            refine bodyPost_ret (results_cell_row rfl _ _ w.heap.size 85 #[.int .i64 (dv c), .slice a n cap] (0, 0) _ rfl (heap_set (heap_set (hb_set_ne S2.out _ _ (by show w.heap.size ≠ b; omega)) 0 _) 1 _) Tryd.underlying85 rfl (by kernel_rfl)) rfl ?_
            exact NPost.none (show rD (l.drop i) = _ by rw [E1.out]; exact rD_noPart HD.out HT.out) ⟨_, _, _, _, j, rfl, hj, hb_set_ne (hb_set_ne (heap_set S1.out 2 _) _ _ (by show b ≠ w.heap.size; omega)) _ _ (by show b ≠ w.heap.size; omega), grown_new (grown_trans S4.out (grown_set _ _ _ _)) (grown_trans (grown_set _ _ _ _) (grown_set _ _ _ _)) (fun i h => .inr (by simp at h; omega))⟩
    · have H40 := hid h40
      clear h40
      refine (is_no W b l (i + 1) false 40 (by omega) H40.out hlt s1).mono ?_
      rintro e w2 ⟨rfl, r2, g2⟩
      have s1' := r2
      have s2' := grown_keep g2 s2 (by simp; omega)
      have s3' := grown_keep g2 s3 (by simp; omega)
      have s4' := grown_trans s4 g2
      have T3 : Hid (Row w nb (some ⟨g0, 0, .none⟩) 0 0 [] w2) := ⟨row_keptP (P := fun k => k ≠ b) (keepsP_grown g2 (fun k h h2 => h2 (by simpa using h.symm))) T2.out.1 (fun g h => by have := (row_own T2.out.1 g h).1; omega), T2.out.2⟩
      clear s1 s2 s3 s4 r2 g2
      have s1 := s1'
      have s2 := s2'
      have s3 := s3'
      have s4 := s4'
      clear s1' s2' s3' s4' T1 T2
      have k2 : w2.cell? ⟨b, 2, .none⟩ = some (.bool false) := heap_cell s1 2
      have fb2 : w2.frozen? ⟨b, 2, .none⟩ = false := heap_free s1 2
      have f0 : w2.frozen? ⟨w.heap.size, 0, .none⟩ = false := heap_free s2 0
      have f1 : w2.frozen? ⟨w.heap.size, 1, .none⟩ = false := heap_free s2 1
      have kr0 : w2.cell? ⟨w.heap.size, 0, .none⟩ = some (.int .i64 0) := heap_cell s2 0
      have kr1 : w2.cell? ⟨w.heap.size, 1, .none⟩ = some (.slice .none 0 0) := heap_cell s2 1
      have kn0 : w2.cell? ⟨nb, 0, .none⟩ = some (.int .i64 (dv c)) := heap_cell s3 0
      have kn1 : w2.cell? ⟨nb, 1, .none⟩ = some (.slice (some ⟨g0, 0, .none⟩) 0 0) := heap_cell s3 1
      have fn1 : w2.frozen? ⟨nb, 1, .none⟩ = false := heap_free s3 1
      have S1 := hid s1
      have S2 := hid s2
      have S3 := hid s3
      have S4 := hid s4
      have hszW := s4.size
      have hnW := lt_of_heap s3
      clear s1 s2 s3 s4
      go_wp2
      refine bodyPost_ret (results_cell_row rfl _ _ w.heap.size 85 #[.int .i64 (dv c), .slice (some ⟨g0, 0, .none⟩) 0 0] (0, 0) _ rfl (heap_set (heap_set S2.out 0 _) 1 _) Tryd.underlying85 rfl (by kernel_rfl)) rfl ?_
      refine NPost.some (c := c) (k := .nil) (j := i + 1) ?_ (by omega) ⟨_, _, rfl, ⟨rfl, [], ?_, rfl⟩, hb_set_ne (hb_set_ne S1.out _ _ (by show b ≠ w.heap.size; omega)) _ _ (by show b ≠ w.heap.size; omega), grown_new S4.out (grown_trans (grown_set _ _ _ _) (grown_set _ _ _ _)) (fun i h => .inr (by simp at h; omega))⟩
      · rw [cons_drop (by rw [List.getElem?_eq_some_iff]; exact ⟨hlt, HC.out⟩ : l[i]? = some c)]
        exact rD_leaf HD.out _ (by rw [← at_drop]; exact H40.out)
      · refine rowP_of (row_set (row_set T3.out.1 _ ?_) _ ?_) (fun g h => by simp [Value.ownBlock] at h; have := (row_block T3.out.1).1; omega)
        · show g0 ≠ w.heap.size; have := (row_block T3.out.1).1; omega
        · show g0 ≠ w.heap.size; have := (row_block T3.out.1).1; omega

end L6
end Go.Proofs.YtaapdhacnbhohaaDoor
