/- What the program's reader of dictionaries returns: the node of the dictionary at the begin of a text, and what is behind it. Conditions: the text is at most 1200 bytes long. -/
import Derived.Test.YtaapdhacnbhohaaDoorKitD
import Derived.Test.YtaapdhacnbhohaaDoorStr
import Derived.Deep.LoopGhost
import Derived.Deep.QuietTactic
import Derived.BigQuiet
import Derived.WalkSmall
set_option linter.unusedVariables false
set_option linter.unusedSimpArgs false
set_option maxRecDepth 100000
namespace Go.Proofs.YtaapdhacnbhohaaDoor
open Go.RowKit Dt
namespace ReadD
theorem take1 (c : UInt8) (s : List UInt8) : ({ data := (c :: s).toArray } : ByteArray).extract 0 1 = ⟨#[c]⟩ := by rw [ByteArray.extract_mk]; simp
theorem drop1 (c : UInt8) (s : List UInt8) (n : Nat) (h : s.length < n) : ({ data := (c :: s).toArray } : ByteArray).extract 1 n = ⟨s.toArray⟩ := by rw [ByteArray.extract_mk]; simp; exact List.take_of_length_le (by omega)
theorem get0 (c : UInt8) (s : List UInt8) (h : 0 < ({ data := (c :: s).toArray } : ByteArray).size) : ({ data := (c :: s).toArray } : ByteArray)[0]'h = c := rfl
attribute [local go_sem] take1 drop1 get0

def RDok (w : World) (c : UInt8) (k : F) (r : List UInt8) (e : Ending) (w' : World) : Prop :=
  ∃ b, e = .returned (.tuple #[.pointer (some ⟨b, 0, none⟩), .string ⟨r.toArray⟩]) ∧ ID (fun k => w.heap.size ≤ k) w' c k b ∧ Below w.heap.size w w'
def RDno (w : World) (e : Ending) (w' : World) : Prop :=
  ∃ r, e = .returned (.tuple #[.pointer none, .string r]) ∧ Below w.heap.size w w'
theorem infoPD : (Tryd.prog.info? 77).map (fun i => (i.zero, i.size, i.bytes)) = some (some (.pointer none), 1, 8) := by kernel_rfl
abbrev Ok (s : List UInt8) (c : UInt8) (k : F) (r : List UInt8) : Prop := ∀ w, Calls Tryd.prog 99 #[.string ⟨s.toArray⟩] w (RDok w c k r)
abbrev No (s : List UInt8) : Prop := ∀ w, Calls Tryd.prog 99 #[.string ⟨s.toArray⟩] w (RDno w)
theorem nil : No [] := by
  intro w
  go_enter Tryd.func99, Tryd.ntmps99
  go_wp2
  go_ret2
  exact ⟨_, rfl, Below.refl _ _⟩
theorem noDig (c : UInt8) (s : List UInt8) (hs : s.length + 1 ≤ 1200) (h : ¬ dig c) : No (c :: s) := by
  intro w
  have h2 : (c.toNat : Int) < 48 ∨ 57 < (c.toNat : Int) := by
    unfold dig at h
    rw [UInt8.le_iff_toNat_le, UInt8.le_iff_toNat_le] at h
    simp at h
    omega
  clear h
  rcases h2 with h2 | h2
  · go_enter Tryd.func99, Tryd.ntmps99
    go_wp2
    go_ret2
    exact ⟨_, rfl, Below.refl _ _⟩
  · have h3 : ¬ (c.toNat : Int) < 48 := by omega
    go_enter Tryd.func99, Tryd.ntmps99
    go_wp2
    go_ret2
    exact ⟨_, rfl, Below.refl _ _⟩
theorem dig_num {c : UInt8} (h : dig c) : 48 ≤ (c.toNat : Int) ∧ (c.toNat : Int) ≤ 57 := by
  unfold dig at h
  rw [UInt8.le_iff_toNat_le, UInt8.le_iff_toNat_le] at h
  simp at h
  omega
theorem leaf (c : UInt8) (s : List UInt8) (hs : s.length + 1 ≤ 1200) (h : dig c) (hh : (s.head? == some 40) = false) : Ok (c :: s) c .nil s := by
  intro w
  obtain ⟨h1, h2⟩ := dig_num h
  clear h
  go_enter Tryd.func99, Tryd.ntmps99
  go_wp2_with (first
    | (go_at_call 117; refine (sHasPrefix _ _ _).mono ?_; rintro e w' ⟨rfl, rfl⟩))
  go_ret2
  exact ⟨_, rfl, ⟨.slice none 0 0, [], Nat.le_refl _, heap_alloc_new _ _, rowP_of (World.ownsRow_nil _ 0 _ _) (fun g h => by simp [Value.ownBlock] at h), rfl⟩, (Below.refl _ _).alloc (Nat.le_refl _) _⟩

/-- what holds at the loop's head: A is read, s is left -/
def LRel (w : World) (s0 : List UInt8) (c : UInt8) (k : Nat) (p : Value) (wr : World) : Prop :=
  ∃ (s : List UInt8) (A : F) (a : Option Addr) (cap : Nat) (ps : List Value), p = .string ⟨s.toArray⟩ ∧ s.length ≤ k ∧ A.len + s.length ≤ s0.length + 1 ∧ wr.heap[w.heap.size]? = some (.cells #[.int .i64 (dv c), .slice a A.len cap] 81 (0, 0)) ∧
    wr.ownsRow (w.heap.size + 1) 77 1 (.slice a A.len cap) A.len ps ∧ IDs (ex (w.heap.size + 1) (.slice a A.len cap)) wr A ps ∧ Below w.heap.size w wr ∧ w.heap.size + 1 ≤ wr.heap.size ∧
    ((A.len = 0 ∧ s = 40 :: s0 ∧ A = .nil) ∨ (0 < A.len ∧ rT (44 :: s0) = cont A (rT s)))
/-- the outcome, by the plain reading -/
def Post (w : World) (s : List UInt8) (e : Ending) (w' : World) : Prop :=
  (∀ c k r, rD s = some (c, k, r) → RDok w c k r e w') ∧ (rD s = none → RDno w e w')
theorem Post.none {w : World} {s : List UInt8} {e : Ending} {w' : World} (h : rD s = .none) (hp : RDno w e w') : Post w s e w' := ⟨fun c k r h' => by rw [h] at h'; simp at h', fun _ => hp⟩
theorem Post.some {w : World} {s : List UInt8} {e : Ending} {w' : World} {c : UInt8} {k : F} {r : List UInt8} (h : rD s = .some (c, k, r)) (hp : RDok w c k r e w') : Post w s e w' :=
  ⟨fun c' k' r' h' => by rw [h] at h'; simp at h'; obtain ⟨rfl, rfl, rfl⟩ := h'; exact hp, fun h' => by rw [h] at h'; simp at h'⟩
theorem len_cast {A : F} (h : A.len = 0) : ((A.len : Nat) : Int) = 0 := by rw [h]; rfl

set_option maxHeartbeats 4000000 in
theorem loop (c : UInt8) (s0 : List UInt8) (hs : s0.length + 2 ≤ 1200) (h : dig c) (ih : ∀ s : List UInt8, s.length ≤ s0.length → (∀ c k r, rD s = some (c, k, r) → Ok s c k r) ∧ (rD s = none → No s)) (w : World) : Calls Tryd.prog 99 #[.string ⟨(c :: 40 :: s0).toArray⟩] w (Post w (c :: 40 :: s0)) := by
  obtain ⟨h1, h2⟩ := dig_num h
  have hdig := hid h
  have hdv : Hid (dv c = (c.toNat : Int) - 48) := rfl
  clear h
  go_enter Tryd.func99, Tryd.ntmps99
  go_wp2_with (first
    | (go_at_call 117; refine (sHasPrefix _ _ _).mono ?_; rintro e w' ⟨rfl, rfl⟩))
  go_loopg [0] (s0.length + 2) (fun k p wr => LRel w s0 c k p wr)
  case atStart =>
    refine ⟨40 :: s0, .nil, .none, 0, [], rfl, by simp, by simp [F.len], ?_, World.ownsRow_nil _ _ _ _, rfl, (Below.refl _ _).alloc (Nat.le_refl _) _, by simp, .inl ⟨rfl, rfl, rfl⟩⟩
    exact heap_alloc_new _ _
  case round =>
    obtain ⟨s, A, a, cap, ps, rfl, hk, hlen, hh, ho, hi, hb, hz, hc⟩ := hrel
    have HH := hid hh
    have HO := hid ho
    have HI := hid hi
    have HB := hid hb
    have kc1 := heap_cell hh 1
    have fc1 := heap_free hh 1
    clear hh ho hi hb
    have ih' : Hid (∀ s : List UInt8, s.length ≤ s0.length → (∀ c k r, rD s = some (c, k, r) → Ok s c k r) ∧ (rD s = .none → No s)) := ih
    rcases hc with ⟨hA, rfl, rfl⟩ | ⟨hA, hc⟩
    · generalize hAA : (F.nil : F) = A at *
      have hA0 : ((A.len : Int) == 0) = true := by rw [hA]; rfl
      have hA3 : A.len ≤ 0 := by omega
      have HAA := hid hAA
      have ih := ih'.out
      clear hAA ih' hA
      cases hd : rD s0 with
      | none =>
        have hn := ih s0 (by simp at hlen; omega)
        have HN := hid (hn.2 hd)
        have HD : Hid (rT (44 :: s0) = .none) := by show _ = _; exact rT_none hd
        clear hn hd hlen hk
        go_wp2_with (first
          | (go_at_call 117; refine (sHasPrefix _ _ _).mono ?_; rintro e w' ⟨rfl, rfl⟩)
          | (go_at_call 99; refine (HN.out _).mono ?_; rintro e w1 ⟨r, rfl, hb1⟩; have HB1 : Hid (Below w.heap.size w w1) := HB.out.trans (hb1.mono (by omega)); clear hb1))
        go_ret2
        exact Post.none (rD_noPart hdig.out HD.out) ⟨_, rfl, HB1.out⟩
      | some x =>
        obtain ⟨c1, kk1, r1⟩ := x
        have hr := rD_len hd
        have hr1 : r1.length < s0.length := hr
        have hn := ih s0 (by simp at hlen; omega)
        have HN := hid (hn.1 c1 kk1 r1 hd)
        have HD : Hid (rT (44 :: s0) = cont (A.app (.cons c1 kk1 .nil)) (rT r1)) := by show _ = _; rw [← HAA.out]; have := cont_cons (A := F.nil) hd; rw [cont_nil] at this; exact this
        have hlen2 : A.len + r1.length + 2 ≤ s0.length + 1 := by simp at hlen; omega
        have hk2 : r1.length + 2 ≤ gk := by simp at hk; omega
        clear hn hd hlen hr hk
        go_wp2_with (first
          | (go_at_call 117; refine (sHasPrefix _ _ _).mono ?_; rintro e w' ⟨rfl, rfl⟩)
          | (go_at_call 99; refine (HN.out _).mono ?_; rintro e w1 ⟨b1, rfl, hn1, hb1⟩; have HB1 := hid hb1; have HI1 := hid hn1; have hz1 := hb1.size; have hx := below_heap hb1 hz HH.out; have kc1 := heap_cell hx 1; have fc1 := heap_free hx 1; have HX := hid hx; clear hb1 hn1 hx)
          | (at_builtin; refine app_push_at 79 77 (.pointer .none) 1 8 Tryd.underlying79 infoPD rfl (by decide) rfl _ _ rfl (w.heap.size + 1) (.slice a A.len cap) A.len ps rfl (World.ownsRow.alloc (row_keptP (keepsP_below HB1.out (Nat.le_refl _)) HO.out (fun g h => trivial)) _) w1.heap.size 1 [.pointer (some ⟨b1, 0, .none⟩)] rfl rfl (news_one (heap_cell (heap_alloc_new _ _) 0)) (by simp [Value.oneCell']) (by unfold maxLen; omega) (by omega) (by simp; omega) ?_))
        intro g1 cap1 w2 hown hg hlie
        have hx2 := grown_keep hg (hb_alloc HX.out _) (by intro e; have := (row_own HO.out _ e.symm).1; omega)
        have k2 := heap_cell hx2 1
        have f2 := heap_free hx2 1
        have hz2 := hg.size
        simp only [World.size_alloc] at hz2
        have HO2 := hid hown
        have HX2 := hid hx2
        have HP : Hid (IDs (ex (w.heap.size + 1) (.slice (some ⟨g1, 0, .none⟩) (A.len + 1) cap1)) w2 (A.app (.cons c1 kk1 .nil)) (ps ++ [.pointer (some ⟨b1, 0, .none⟩)])) :=
          ids_push HI.out (fun g h => (row_own HO.out g h).2) HB1.out HI1.out hz (keepsP_alloc _ _) (by simp) hg (fun g h => by simp [Value.ownBlock] at h; subst h; rcases hlie with h | h; exact .inl h; exact .inr (by rw [World.size_alloc]; omega))
        have HB2 : Hid (Below w.heap.size w w2) := ((HB.out.trans (HB1.out.mono (by omega))).alloc (by omega) _).grown hg (by simp; omega) (fun g h => by have := (row_own HO.out g h).1; omega)
        clear hown hg hx2 kc1 fc1 hlie
        go_wp2
        go_roundg (gk - 1)
        case measure => omega
        case rel =>
          have e1 : (A.app (.cons c1 kk1 .nil)).len = A.len + 1 := by simp [F.len_app, F.len]
          have KS : KeepsP (ex (w.heap.size + 1) (.slice (some ⟨g1, 0, .none⟩) (A.len + 1) cap1)) w2 (w2.setCell ⟨w.heap.size, 1, .none⟩ (.slice (some ⟨g1, 0, .none⟩) (A.len + 1) cap1)) := keepsP_set _ _ _ (fun h => by have := h.1; simp at this; omega)
          refine ⟨r1, A.app (.cons c1 kk1 .nil), some ⟨g1, 0, .none⟩, cap1, ps ++ [.pointer (some ⟨b1, 0, .none⟩)], rfl, by omega, by omega, ?_, ?_, ?_, HB2.out.setCell (Nat.le_refl _) _, by simp; omega, .inr ⟨by omega, HD.out⟩⟩
          · rw [e1]; exact heap_set HX2.out 1 _
          · rw [e1]; exact row_set HO2.out _ (by have := (row_block HO2.out).1; show g1 ≠ w.heap.size; omega)
          · rw [e1]; exact KS.ids HP.out
    · have HC := hid hc
      have ih := ih'.out
      clear hc ih'
      by_cases hx : s.head? = some 44
      · obtain ⟨s1, rfl⟩ : ∃ s1, s = 44 :: s1 := by
          cases s with
          | nil => simp at hx
          | cons x s1 => simp at hx; exact ⟨s1, by rw [hx]⟩
        clear hx
        cases hd : rD s1 with
        | none =>
          have hn := ih s1 (by simp at hlen; omega)
          have HN := hid (hn.2 hd)
          have HD : Hid (rT (44 :: s0) = .none) := by show _ = _; rw [HC.out]; exact cont_none hd
          clear hn hd hlen hk
          go_wp2_with (first
            | (go_at_call 117; refine (sHasPrefix _ _ _).mono ?_; rintro e w' ⟨rfl, rfl⟩)
            | (go_at_call 99; refine (HN.out _).mono ?_; rintro e w1 ⟨r, rfl, hb1⟩; have HB1 : Hid (Below w.heap.size w w1) := HB.out.trans (hb1.mono (by omega)); clear hb1))
          go_ret2
          exact Post.none (rD_noPart hdig.out HD.out) ⟨_, rfl, HB1.out⟩
        | some x =>
          obtain ⟨c1, kk1, r1⟩ := x
          have hr := rD_len hd
          have hr1 : r1.length < s1.length := hr
          have hn := ih s1 (by simp at hlen; omega)
          have HN := hid (hn.1 c1 kk1 r1 hd)
          have HD : Hid (rT (44 :: s0) = cont (A.app (.cons c1 kk1 .nil)) (rT r1)) := by show _ = _; rw [HC.out]; exact cont_cons hd
          have hlen2 : A.len + r1.length + 2 ≤ s0.length + 1 := by simp at hlen; omega
          have hk2 : r1.length + 2 ≤ gk := by simp at hk; omega
          clear hn hd hlen hr hk
          go_wp2_with (first
            | (go_at_call 117; refine (sHasPrefix _ _ _).mono ?_; rintro e w' ⟨rfl, rfl⟩)
            | (go_at_call 99; refine (HN.out _).mono ?_; rintro e w1 ⟨b1, rfl, hn1, hb1⟩; have HB1 := hid hb1; have HI1 := hid hn1; have hz1 := hb1.size; have hx := below_heap hb1 hz HH.out; have kc1 := heap_cell hx 1; have fc1 := heap_free hx 1; have HX := hid hx; clear hb1 hn1 hx)
            | (at_builtin; refine app_push_at 79 77 (.pointer .none) 1 8 Tryd.underlying79 infoPD rfl (by decide) rfl _ _ rfl (w.heap.size + 1) (.slice a A.len cap) A.len ps rfl (World.ownsRow.alloc (row_keptP (keepsP_below HB1.out (Nat.le_refl _)) HO.out (fun g h => trivial)) _) w1.heap.size 1 [.pointer (some ⟨b1, 0, .none⟩)] rfl rfl (news_one (heap_cell (heap_alloc_new _ _) 0)) (by simp [Value.oneCell']) (by unfold maxLen; omega) (by omega) (by simp; omega) ?_))
          intro g1 cap1 w2 hown hg hlie
          have hx2 := grown_keep hg (hb_alloc HX.out _) (by intro e; have := (row_own HO.out _ e.symm).1; omega)
          have k2 := heap_cell hx2 1
          have f2 := heap_free hx2 1
          have hz2 := hg.size
          simp only [World.size_alloc] at hz2
          have HO2 := hid hown
          have HX2 := hid hx2
          have HP : Hid (IDs (ex (w.heap.size + 1) (.slice (some ⟨g1, 0, .none⟩) (A.len + 1) cap1)) w2 (A.app (.cons c1 kk1 .nil)) (ps ++ [.pointer (some ⟨b1, 0, .none⟩)])) :=
            ids_push HI.out (fun g h => (row_own HO.out g h).2) HB1.out HI1.out hz (keepsP_alloc _ _) (by simp) hg (fun g h => by simp [Value.ownBlock] at h; subst h; rcases hlie with h | h; exact .inl h; exact .inr (by rw [World.size_alloc]; omega))
          have HB2 : Hid (Below w.heap.size w w2) := ((HB.out.trans (HB1.out.mono (by omega))).alloc (by omega) _).grown hg (by simp; omega) (fun g h => by have := (row_own HO.out g h).1; omega)
          clear hown hg hx2 kc1 fc1 hlie
          go_wp2
          go_roundg (gk - 1)
          case measure => omega
          case rel =>
            have e1 : (A.app (.cons c1 kk1 .nil)).len = A.len + 1 := by simp [F.len_app, F.len]
            have KS : KeepsP (ex (w.heap.size + 1) (.slice (some ⟨g1, 0, .none⟩) (A.len + 1) cap1)) w2 (w2.setCell ⟨w.heap.size, 1, .none⟩ (.slice (some ⟨g1, 0, .none⟩) (A.len + 1) cap1)) := keepsP_set _ _ _ (fun h => by have := h.1; simp at this; omega)
            refine ⟨r1, A.app (.cons c1 kk1 .nil), some ⟨g1, 0, .none⟩, cap1, ps ++ [.pointer (some ⟨b1, 0, .none⟩)], rfl, by omega, by omega, ?_, ?_, ?_, HB2.out.setCell (Nat.le_refl _) _, by simp; omega, .inr ⟨by omega, HD.out⟩⟩
            · rw [e1]; exact heap_set HX2.out 1 _
            · rw [e1]; exact row_set HO2.out _ (by have := (row_block HO2.out).1; show g1 ≠ w.heap.size; omega)
            · rw [e1]; exact KS.ids HP.out
      · have HD : Hid (rT (44 :: s0) = some (A, s)) := by show _ = _; rw [HC.out]; exact cont_end hx
        have hx44 : (s.head? == some 44) = false := by simpa using hx
        have hA1 : ((A.len : Int) == 0) = false := by simp; omega
        clear hx ih
        by_cases hy : s.head? = some 41
        · obtain ⟨s1, rfl⟩ : ∃ s1, s = 41 :: s1 := by
            cases s with
            | nil => simp at hy
            | cons x s1 => simp at hy; exact ⟨s1, by rw [hy]⟩
          clear hy
          by_cases hl : A.len ≤ 3
          · go_wp2_with (first
              | (go_at_call 117; refine (sHasPrefix _ _ _).mono ?_; rintro e w' ⟨rfl, rfl⟩))
            go_quiet (fail)
            go_wp2
            go_ret2
            refine Post.some (rD_yes hdig.out HD.out hl) ⟨_, rfl, (keepsP_drewN _ _).id ⟨_, ps, Nat.le_refl _, HH.out, rowP_of HO.out (fun g h => by have := (row_own HO.out g h).1; omega), HI.out.mono (fun k _ h => by have := h.1; omega)⟩, below_drewN HB.out _⟩
          · go_wp2_with (first
              | (go_at_call 117; refine (sHasPrefix _ _ _).mono ?_; rintro e w' ⟨rfl, rfl⟩))
            go_ret2
            exact Post.none (rD_many hdig.out HD.out hl) ⟨_, rfl, HB.out⟩
        · have hy41 : (s.head? == some 41) = false := by simpa using hy
          have HY := hid hy
          clear hy
          cases hz40 : (s.head? == some 40)
          all_goals
            go_wp2_with (first
              | (go_at_call 117; refine (sHasPrefix _ _ _).mono ?_; rintro e w' ⟨rfl, rfl⟩))
            go_ret2
            exact Post.none (rD_noClose hdig.out HD.out HY.out) ⟨_, rfl, HB.out⟩

theorem all (n : Nat) : ∀ s : List UInt8, s.length ≤ n → s.length ≤ 1200 → (∀ c k r, rD s = some (c, k, r) → Ok s c k r) ∧ (rD s = none → No s) := by
  induction n with
  | zero =>
    intro s hs _
    obtain rfl : s = [] := List.eq_nil_of_length_eq_zero (by omega)
    exact ⟨fun c k r h => by rw [rD_nil] at h; simp at h, fun _ => nil⟩
  | succ n ih =>
    intro s hs hm
    match s, hs, hm with
    | [], _, _ => exact ⟨fun c k r h => by rw [rD_nil] at h; simp at h, fun _ => nil⟩
    | c :: s, hs, hm =>
      simp only [List.length_cons] at hs hm
      by_cases hd : dig c
      · by_cases ho : s.head? = some 40
        · obtain ⟨s1, rfl⟩ : ∃ s1, s = 40 :: s1 := by
            cases s with
            | nil => simp at ho
            | cons x s1 => simp at ho; exact ⟨s1, by rw [ho]⟩
          simp only [List.length_cons] at hs hm
          have hl := fun w => loop c s1 (by omega) hd (fun s hs => ih s (by omega) (by omega)) w
          exact ⟨fun c' k r h w => (hl w).mono fun e w' hp => hp.1 _ _ _ h, fun h w => (hl w).mono fun e w' hp => hp.2 h⟩
        · rw [rD_leaf hd s ho]
          refine ⟨fun c' k r h => ?_, fun h => by simp at h⟩
          simp at h
          obtain ⟨rfl, rfl, rfl⟩ := h
          exact leaf c s (by omega) hd (by simpa using ho)
      · rw [rD_no hd]
        exact ⟨fun c' k r h => by simp at h, fun _ => noDig c s (by omega) hd⟩
end ReadD
end Go.Proofs.YtaapdhacnbhohaaDoor
