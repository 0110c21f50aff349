/- The reference's l1Read and TypeValid at every text. Conditions: the text is shorter than 2^62 bytes. -/
import Derived.Test.YtbdnhcfebgkpdaaDoorNode
import Derived.Test.YtbdnhcfebgkpdaaDoorNodeB
import Derived.Test.YtbdnhcfebgkpdaaDoorNodeC
set_option linter.unusedVariables false
set_option linter.unusedSimpArgs false
set_option maxRecDepth 100000
namespace Go.Proofs.YtbdnhcfebgkpdaaDoor
open Go.RowKit Ty

theorem drop_cons {l s : List UInt8} {i : Nat} {c : UInt8} (h : l.drop i = c :: s) : l[i]? = some c ∧ l.drop (i + 1) = s := by
  have h1 : l[i]? = some c := by
    have : (l.drop i)[0]? = some c := by rw [h]; rfl
    simpa using this
  refine ⟨h1, ?_⟩
  rw [← List.drop_drop, h]
  rfl
theorem at_drop (l : List UInt8) (i : Nat) : l[i]? = (l.drop i).head? := by
  cases h : l.drop i with
  | nil =>
    have : l.length ≤ i := by simpa using h
    simp [List.getElem?_eq_none this]
  | cons c s => exact (drop_cons h).1

/-- the reader at i, by the reading of what is left -/
theorem node_all (l : List UInt8) (hm : l.length + 4 ≤ maxLen) (n : Nat) : ∀ (i : Nat) (s : List UInt8), l.drop i = s → i ≤ l.length → s.length ≤ n →
    (∀ t r, parse n s = some (t, r) → ∃ j, j ≤ l.length ∧ l.drop j = r ∧ NodeT.Ok l i t j) ∧ (parse n s = none → NodeT.No l i) := by
  have hs : l.length ≤ maxLen := by omega
  induction n with
  | zero =>
    intro i s hd hi hn
    obtain rfl : s = [] := List.eq_nil_of_length_eq_zero (by omega)
    have : l.length ≤ i := by simpa using hd
    exact ⟨fun t r h => by simp [parse] at h, fun _ => NodeT.atEnd l i hi this⟩
  | succ n ih =>
    intro i s hd hi hn
    match s, hn with
    | [], _ =>
      have : l.length ≤ i := by simpa using hd
      exact ⟨fun t r h => by simp [parse] at h, fun _ => NodeT.atEnd l i hi this⟩
    | c :: s, hn =>
      obtain ⟨h1, h2⟩ := drop_cons hd
      have hil : i < l.length := (List.getElem?_eq_some_iff.1 h1).1
      simp only [List.length_cons] at hn
      rcases ar_cases c with ha | ha | ha | ha
      · rw [parse_none ha]
        exact ⟨fun t r h => by simp at h, fun _ => NodeT.none l i c hs h1 ha⟩
      · rw [parse_leaf ha]
        refine ⟨fun t r h => ?_, fun h => by simp at h⟩
        simp at h
        obtain ⟨rfl, rfl⟩ := h
        exact ⟨i + 1, hil, h2, NodeT.leaf l i c hs h1 ha⟩
      all_goals
        have ho := at_drop l (i + 1)
        rw [h2] at ho
        by_cases hc : s.head? = some 40
        · obtain ⟨s1, rfl⟩ : ∃ s1, s = 40 :: s1 := by
            cases s with
            | nil => simp at hc
            | cons x s1 => simp at hc; exact ⟨s1, by rw [hc]⟩
          obtain ⟨h3, h4⟩ := drop_cons h2
          have hil2 : i + 1 < l.length := (List.getElem?_eq_some_iff.1 h3).1
          simp only [List.length_cons] at hn
          obtain ⟨i1, i2⟩ := ih (i + 1 + 1) s1 h4 hil2 (by omega)
          cases hp : parse n s1 with
          | none =>
            rw [parse_no_first ha hp]
            refine ⟨fun t r h => by simp at h, fun _ => ?_⟩
            first
            | exact NodeT.noFirst1 l i c hs h1 ha h3 (i2 hp)
            | exact NodeT.noFirst2 l i c hs h1 ha h3 (i2 hp)
          | some x =>
            obtain ⟨t1, r1⟩ := x
            have hr := parse_len hp
            obtain ⟨j, hj, hjd, o1⟩ := i1 _ _ hp
            have hjh := at_drop l j
            rw [hjd] at hjh
            first
            | (by_cases hc : r1.head? = some 41
               · obtain ⟨s2, rfl⟩ : ∃ s2, r1 = 41 :: s2 := by
                   cases r1 with
                   | nil => simp at hc
                   | cons x s1 => simp at hc; exact ⟨s1, by rw [hc]⟩
                 obtain ⟨h5, h6⟩ := drop_cons hjd
                 rw [parse_one ha hp]
                 refine ⟨fun t r h => ?_, fun h => by simp at h⟩
                 simp at h
                 obtain ⟨rfl, rfl⟩ := h
                 exact ⟨j + 1, (List.getElem?_eq_some_iff.1 h5).1, h6, NodeT.one l i j c t1 hs h1 ha h3 o1 h5⟩
               · rw [parse_one_no_close ha hp hc]
                 exact ⟨fun t r h => by simp at h, fun _ => NodeT.oneNoClose l i j c t1 hs h1 ha h3 o1 (by rw [hjh]; exact hc) hj⟩)
            | (by_cases hc : r1.head? = some 44
               · obtain ⟨s2, rfl⟩ : ∃ s2, r1 = 44 :: s2 := by
                   cases r1 with
                   | nil => simp at hc
                   | cons x s1 => simp at hc; exact ⟨s1, by rw [hc]⟩
                 obtain ⟨h5, h6⟩ := drop_cons hjd
                 simp only [List.length_cons] at hr
                 obtain ⟨j1, j2⟩ := ih (j + 1) s2 h6 (List.getElem?_eq_some_iff.1 h5).1 (by omega)
                 cases hq : parse n s2 with
                 | none =>
                   rw [parse_two_no_second ha hp hq]
                   exact ⟨fun t r h => by simp at h, fun _ => NodeT.twoNoSecond l i j c t1 hs h1 ha h3 o1 h5 (j2 hq)⟩
                 | some y =>
                   obtain ⟨u1, r2⟩ := y
                   obtain ⟨m, hm2, hmd, o2⟩ := j1 _ _ hq
                   have hmh := at_drop l m
                   rw [hmd] at hmh
                   by_cases hd2 : r2.head? = some 41
                   · obtain ⟨s3, rfl⟩ : ∃ s3, r2 = 41 :: s3 := by
                       cases r2 with
                       | nil => simp at hd2
                       | cons x s1 => simp at hd2; exact ⟨s1, by rw [hd2]⟩
                     obtain ⟨h7, h8⟩ := drop_cons hmd
                     rw [parse_two ha hp hq]
                     refine ⟨fun t r h => ?_, fun h => by simp at h⟩
                     simp at h
                     obtain ⟨rfl, rfl⟩ := h
                     exact ⟨m + 1, (List.getElem?_eq_some_iff.1 h7).1, h8, NodeT.two l i j m c t1 u1 hs h1 ha h3 o1 h5 o2 h7⟩
                   · rw [parse_two_no_close ha hp hq hd2]
                     exact ⟨fun t r h => by simp at h, fun _ => NodeT.twoNoClose l i j m c t1 u1 hs h1 ha h3 o1 h5 o2 (by rw [hmh]; exact hd2) hm2⟩
               · rw [parse_two_no_comma ha hp hc]
                 exact ⟨fun t r h => by simp at h, fun _ => NodeT.twoNoComma l i j c t1 hs h1 ha h3 o1 (by rw [hjh]; exact hc) hj⟩)
        · first
          | (rw [parse_no_open (k := 0) ha n hc]
             exact ⟨fun t r h => by simp at h, fun _ => NodeT.noOpen1 l i c hs h1 ha (by rw [ho]; exact hc)⟩)
          | (rw [parse_no_open (k := 1) ha n hc]
             exact ⟨fun t r h => by simp at h, fun _ => NodeT.noOpen2 l i c hs h1 ha (by rw [ho]; exact hc)⟩)

def LRok (w : World) (t : Ty) (e : Ending) (w' : World) : Prop := ∃ h s, e = .returned (.tuple #[.agg #[h, s], .bool true]) ∧ SNode w.heap.size w' t h s ∧ Below w.heap.size w w'
def LRno (w : World) (e : Ending) (w' : World) : Prop := e = .returned (.tuple #[.agg #[.int .u8 0, .slice none 0 0], .bool false]) ∧ Below w.heap.size w w'

set_option maxHeartbeats 2000000 in
theorem l1Read_some (l : List UInt8) (t : Ty) (w : World) (h : ty l = some t) : Calls Tryd.prog 60 #[.string ⟨l.toArray⟩] w (LRok w t) := by
  obtain ⟨ht, hw, hl⟩ := ty_some h
  have hp := parse_text t hw t.text.length [] (Nat.le_refl _)
  simp only [List.append_nil] at hp
  rw [← ht] at hp
  obtain ⟨j, hj, hjd, ho⟩ := (node_all l (by unfold maxLen; omega) l.length 0 l rfl (Nat.zero_le _) (Nat.le_refl _)).1 _ _ hp
  have hjl : j = l.length := by
    have : l.length ≤ j := by simpa using hjd
    omega
  subst hjl
  clear hp h ht hw hjd hj
  go_enter Tryd.func60, Tryd.ntmps60
  go_wp2_with fail
  refine (ho _ (w.heap.size + 1) (heap_alloc2_new w _ _)).mono ?_
  rintro e w1 ⟨hd, sl, rfl, hn, hr, hg⟩
  have k1 : w1.cell? ⟨w.heap.size + 1, 1, none⟩ = some (.int .i64 l.length) := heap_cell hr 1
  have k2 : w1.cell? ⟨w.heap.size + 1, 2, none⟩ = some (.bool false) := heap_cell hr 2
  have hb := grown_keep (k := w.heap.size) hg (hb_alloc (heap_alloc_new w _) _) (by simp)
  have f0 : w1.frozen? ⟨w.heap.size, 0, none⟩ = false := heap_free hb 0
  have f1 : w1.frozen? ⟨w.heap.size, 1, none⟩ = false := heap_free hb 1
  have kr0 : w1.cell? ⟨w.heap.size, 0, none⟩ = some (.int .u8 0) := heap_cell hb 0
  have kr1 : w1.cell? ⟨w.heap.size, 1, none⟩ = some (.slice none 0 0) := heap_cell hb 1
  have hsz := hg.size
  simp only [World.size_alloc] at hsz hn
  have hlt : w.heap.size < w1.heap.size := by omega
  have hlt2 : w.heap.size + 1 < w1.heap.size := by omega
  obtain ⟨rfl, sa, sn, sc, rfl⟩ := hn.form
  have HN := hid hn
  have HG := hid hg
  have HB := hid hb
  clear hn hg hb hr
  go_wp2
  refine bodyPost_ret (results_row_tmp rfl _ _ w.heap.size 86 #[.int .u8 t.head.toNat, .slice sa sn sc] (0, 0) _ rfl (hb_alloc (heap_set (heap_set HB.out 0 _) 1 _) _) Tryd.underlying86 rfl (by kernel_rfl)) rfl ?_
  refine ⟨.int .u8 t.head.toNat, .slice sa sn sc, rfl, ?_, ?_⟩
  · refine SNode.mono (lo := w.heap.size + 1) (Nat.le_succ _) (Keeps.snode ?_ (HN.out.mono (Nat.le_succ _)))
    exact (((Keeps.refl _ _).set (a := ⟨w.heap.size, 0, none⟩) _ (.inl (Nat.lt_succ_self _))).set (a := ⟨w.heap.size, 1, none⟩) _ (.inl (Nat.lt_succ_self _))).alloc _ (by simp)
  · refine Below.alloc (((?_ : Below w.heap.size w w1).setCell (Nat.le_refl _) _).setCell (Nat.le_refl _) _) (by simp; omega) _
    exact (((Below.refl _ _).alloc (Nat.le_refl _) _).alloc (by simp) _).grown HG.out (by simp; omega) (by simp)

set_option maxHeartbeats 2000000 in
theorem l1Read_none (l : List UInt8) (w : World) (hm : l.length + 4 ≤ maxLen) (h : ty l = none) : Calls Tryd.prog 60 #[.string ⟨l.toArray⟩] w (LRno w) := by
  obtain ⟨n1, n2⟩ := node_all l hm l.length 0 l rfl (Nat.zero_le _) (Nat.le_refl _)
  unfold maxLen at hm
  cases hp : parse l.length l with
  | none =>
    have ho := n2 hp
    clear n1 n2 hp h
    go_enter Tryd.func60, Tryd.ntmps60
    go_wp2_with fail
    refine (ho _ (w.heap.size + 1) (heap_alloc2_new w _ _)).mono ?_
    rintro e w1 ⟨hd, sl, i, rfl, ⟨hc, rfl⟩, ⟨sa, sn, sc, rfl⟩, hi, hr, hg⟩
    have k1 : w1.cell? ⟨w.heap.size + 1, 1, none⟩ = some (.int .i64 i) := heap_cell hr 1
    have k2 : w1.cell? ⟨w.heap.size + 1, 2, none⟩ = some (.bool true) := heap_cell hr 2
    have hb := grown_keep (k := w.heap.size) hg (hb_alloc (heap_alloc_new w _) _) (by simp)
    have f0 : w1.frozen? ⟨w.heap.size, 0, none⟩ = false := heap_free hb 0
    have f1 : w1.frozen? ⟨w.heap.size, 1, none⟩ = false := heap_free hb 1
    have kr0 : w1.cell? ⟨w.heap.size, 0, none⟩ = some (.int .u8 0) := heap_cell hb 0
    have kr1 : w1.cell? ⟨w.heap.size, 1, none⟩ = some (.slice none 0 0) := heap_cell hb 1
    have hsz := hg.size
    simp only [World.size_alloc] at hsz
    have hlt : w.heap.size < w1.heap.size := by omega
    have hlt2 : w.heap.size + 1 < w1.heap.size := by omega
    have HG := hid hg
    have HB := hid hb
    clear hg hb hr
    go_wp2
    refine bodyPost_ret (results_row_tmp rfl _ _ w.heap.size 86 #[.int .u8 0, .slice none 0 0] (0, 0) _ rfl (hb_alloc (heap_set (heap_set HB.out 0 _) 1 _) _) Tryd.underlying86 rfl (by kernel_rfl)) rfl ?_
    refine ⟨rfl, ?_⟩
    refine Below.alloc (((?_ : Below w.heap.size w w1).setCell (Nat.le_refl _) _).setCell (Nat.le_refl _) _) (by simp; omega) _
    exact (((Below.refl _ _).alloc (Nat.le_refl _) _).alloc (by simp) _).grown HG.out (by simp; omega) (by simp)
  | some x =>
    obtain ⟨t, r⟩ := x
    obtain ⟨j, hj, hjd, ho⟩ := n1 _ _ hp
    have key : ¬ j = l.length ∨ (j = l.length ∧ 60 < l.length) := by
      by_cases hjl : j = l.length
      · refine .inr ⟨hjl, ?_⟩
        subst hjl
        have hr0 : r = [] := by simpa using hjd.symm
        subst hr0
        rcases Nat.lt_or_ge 60 l.length with h6 | h6
        · exact h6
        · rw [ty_parse_some (Nat.le_refl _) hp h6] at h; simp at h
      · exact .inl hjl
    clear n1 n2 hp h hjd
    rcases key with hne | ⟨rfl, h60⟩
    · have e1 : ((j : Int) == (l.length : Int)) = false := by rw [beq_eq_false_iff_ne]; omega
      have e2 : ((j : Int) != (l.length : Int)) = true := by rw [bne, e1]; rfl
      go_enter Tryd.func60, Tryd.ntmps60
      go_wp2_with fail
      refine (ho _ (w.heap.size + 1) (heap_alloc2_new w _ _)).mono ?_
      rintro e w1 ⟨hd, sl, rfl, hn, hr, hg⟩
      obtain ⟨rfl, sa, sn, sc, rfl⟩ := hn.form
      have k1 : w1.cell? ⟨w.heap.size + 1, 1, none⟩ = some (.int .i64 j) := heap_cell hr 1
      have k2 : w1.cell? ⟨w.heap.size + 1, 2, none⟩ = some (.bool false) := heap_cell hr 2
      have hb := grown_keep (k := w.heap.size) hg (hb_alloc (heap_alloc_new w _) _) (by simp)
      have f0 : w1.frozen? ⟨w.heap.size, 0, none⟩ = false := heap_free hb 0
      have f1 : w1.frozen? ⟨w.heap.size, 1, none⟩ = false := heap_free hb 1
      have kr0 : w1.cell? ⟨w.heap.size, 0, none⟩ = some (.int .u8 0) := heap_cell hb 0
      have kr1 : w1.cell? ⟨w.heap.size, 1, none⟩ = some (.slice none 0 0) := heap_cell hb 1
      have hsz := hg.size
      simp only [World.size_alloc] at hsz
      have hlt : w.heap.size < w1.heap.size := by omega
      have hlt2 : w.heap.size + 1 < w1.heap.size := by omega
      have HG := hid hg
      have HB := hid hb
      clear hg hb hr hn
      go_wp2
      refine bodyPost_ret (results_row_tmp rfl _ _ w.heap.size 86 #[.int .u8 0, .slice none 0 0] (0, 0) _ rfl (hb_alloc (heap_set (heap_set HB.out 0 _) 1 _) _) Tryd.underlying86 rfl (by kernel_rfl)) rfl ?_
      refine ⟨rfl, ?_⟩
      refine Below.alloc (((?_ : Below w.heap.size w w1).setCell (Nat.le_refl _) _).setCell (Nat.le_refl _) _) (by simp; omega) _
      exact (((Below.refl _ _).alloc (Nat.le_refl _) _).alloc (by simp) _).grown HG.out (by simp; omega) (by simp)
    · go_enter Tryd.func60, Tryd.ntmps60
      go_wp2_with fail
      refine (ho _ (w.heap.size + 1) (heap_alloc2_new w _ _)).mono ?_
      rintro e w1 ⟨hd, sl, rfl, hn, hr, hg⟩
      obtain ⟨rfl, sa, sn, sc, rfl⟩ := hn.form
      have k1 : w1.cell? ⟨w.heap.size + 1, 1, none⟩ = some (.int .i64 l.length) := heap_cell hr 1
      have k2 : w1.cell? ⟨w.heap.size + 1, 2, none⟩ = some (.bool false) := heap_cell hr 2
      have hb := grown_keep (k := w.heap.size) hg (hb_alloc (heap_alloc_new w _) _) (by simp)
      have f0 : w1.frozen? ⟨w.heap.size, 0, none⟩ = false := heap_free hb 0
      have f1 : w1.frozen? ⟨w.heap.size, 1, none⟩ = false := heap_free hb 1
      have kr0 : w1.cell? ⟨w.heap.size, 0, none⟩ = some (.int .u8 0) := heap_cell hb 0
      have kr1 : w1.cell? ⟨w.heap.size, 1, none⟩ = some (.slice none 0 0) := heap_cell hb 1
      have hsz := hg.size
      simp only [World.size_alloc] at hsz
      have hlt : w.heap.size < w1.heap.size := by omega
      have hlt2 : w.heap.size + 1 < w1.heap.size := by omega
      have HG := hid hg
      have HB := hid hb
      clear hg hb hr hn
      go_wp2
      refine bodyPost_ret (results_row_tmp rfl _ _ w.heap.size 86 #[.int .u8 0, .slice none 0 0] (0, 0) _ rfl (hb_alloc (heap_set (heap_set HB.out 0 _) 1 _) _) Tryd.underlying86 rfl (by kernel_rfl)) rfl ?_
      refine ⟨rfl, ?_⟩
      refine Below.alloc (((?_ : Below w.heap.size w w1).setCell (Nat.le_refl _) _).setCell (Nat.le_refl _) _) (by simp; omega) _
      exact (((Below.refl _ _).alloc (Nat.le_refl _) _).alloc (by simp) _).grown HG.out (by simp; omega) (by simp)

set_option maxHeartbeats 1000000 in
theorem TypeValid_spec (l : List UInt8) (w : World) (hl : l.length + 4 ≤ maxLen) : Calls Tryd.prog 38 #[.string ⟨l.toArray⟩] w fun e w' => e = .returned (.bool (ty l).isSome) ∧ Below w.heap.size w w' := by
  cases h : ty l with
  | none =>
    have ho := l1Read_none l w hl h
    clear h
    go_enter Tryd.func38, Tryd.ntmps38
    go_wp2_with (first
      | (go_at_call 60; refine ho.mono ?_; rintro e w1 ⟨rfl, hb⟩; have HB := hid hb; have hsz := hb.size; clear hb))
    go_ret
    exact ⟨rfl, HB.out.alloc (by omega) _⟩
  | some t =>
    have ho := l1Read_some l t w h
    clear h
    go_enter Tryd.func38, Tryd.ntmps38
    go_wp2_with (first
      | (go_at_call 60; refine ho.mono ?_; rintro e w1 ⟨hd, sl, rfl, hn, hb⟩; obtain ⟨rfl, sa, sn, sc, rfl⟩ := hn.form; have HB := hid hb; have hsz := hb.size; clear hb hn))
    go_ret
    exact ⟨rfl, HB.out.alloc (by omega) _⟩

end Go.Proofs.YtbdnhcfebgkpdaaDoor
