/- ParseInstance of the reference. Conditions: the text is at most 2^20 bytes long. -/
import Derived.Test.YtbdnhcfebgkpdaaDoorPIn
set_option linter.unusedVariables false
set_option linter.unusedSimpArgs false
set_option maxRecDepth 100000
namespace Go.Proofs.YtbdnhcfebgkpdaaDoor
open Go.RowKit Ty SplP ListS CutS PInP Classes
namespace PIn

theorem inst_bad {l a : List UInt8} (h : (splitC 58 l)[0]? = some a) (hb : needB a = none ∨ 2 < (splitC 58 l).length) : instL l = none := by
  unfold instL
  cases hs : splitC 58 l with
  | nil => rfl
  | cons x r =>
    rw [hs] at h hb
    simp at h
    subst h
    cases r with
    | nil => rcases hb with hb | hb
             · simp [hb]
             · simp at hb
    | cons y r =>
      cases r with
      | nil => rcases hb with hb | hb
               · simp [hb]
               · simp at hb
      | cons z r => rfl
theorem inst_one {l a : List UInt8} {n : BB} (h : (splitC 58 l)[0]? = some a) (h1 : (splitC 58 l).length = 1) (hn : needB a = some n) : instL l = some (n, []) := by
  unfold instL
  cases hs : splitC 58 l with
  | nil => rw [hs] at h; simp at h
  | cons x r =>
    rw [hs] at h h1
    simp at h h1
    subst h h1
    simp [hn]
theorem inst_two {l a b : List UInt8} (h : (splitC 58 l)[0]? = some a) (hb : (splitC 58 l)[1]? = some b) (h1 : (splitC 58 l).length = 2) : instL l = match needB a, allN (splitC 38 b) with | some n, some ns => some (n, ns) | _, _ => none := by
  unfold instL
  cases hs : splitC 58 l with
  | nil => rw [hs] at h; simp at h
  | cons x r =>
    rw [hs] at h h1 hb
    cases r with
    | nil => simp at h1
    | cons y r =>
      cases r with
      | nil => simp at h hb; subst h hb; rfl
      | cons z r => simp at h1
set_option maxHeartbeats 8000000 in
theorem ParseInstance_spec (l : List UInt8) (w : World) (hl : l.length ≤ 1048576) :
    Calls Tryd.prog 7 #[.string ⟨l.toArray⟩] w (PIPost w (rI l)) := by
  have HLL := hid hl
  go_enter Tryd.func7, Tryd.ntmps7
  go_wp2_with fail
  have HB0 : Hid (Below w.heap.size w (w.alloc (.cells #[.string ⟨#[]⟩, .string ⟨#[]⟩, .slice none 0 0] 28))) := (Below.refl _ _).alloc (Nat.le_refl _) _
  have HR0 : Hid ((w.alloc (.cells #[.string ⟨#[]⟩, .string ⟨#[]⟩, .slice none 0 0] 28)).heap[w.heap.size]? = some (.cells #[.string ⟨#[]⟩, .string ⟨#[]⟩, .slice none 0 0] 28 (0, 0))) := heap_alloc_new _ _
  generalize w.alloc (.cells #[.string ⟨#[]⟩, .string ⟨#[]⟩, .slice none 0 0] 28) = w0 at *
  refine (show Calls Tryd.prog _ #[_, .int .u8 _] w0 _ from l13Cut_any l 58 w0 hl).mono ?_
  rintro e w1 ⟨fb, fc, rfl, hrow, hb⟩
  have HB1 : Hid (Below w.heap.size w w1) := HB0.out.trans (hb.mono HB0.out.size)
  have HR1 := hid (below_heap hb (lt_of_heap HR0.out) HR0.out)
  have HF1 := hid (PB.of_row hrow)
  have hz1 := HB1.out.size
  have hl1 := lt_of_heap HR1.out
  have hfl := HF1.out.lt
  clear hb hrow
  obtain ⟨a, ha⟩ : ∃ a, (splitC 58 l)[0]? = some a := by
    cases h : splitC 58 l with
    | nil => exact absurd h (splitC_ne 58 l)
    | cons a r => exact ⟨a, rfl⟩
  have kf : w1.cell? ⟨fb, 0, none⟩ = some (.string ⟨a.toArray⟩) := HF1.out.at ha
  have hal := piece_len ha
  have hpos : 0 < (splitC 58 l).length := (List.getElem?_eq_some_iff.1 ha).1
  have hfl2 : (splitC 58 l).length ≤ 1048577 := by rw [splitC_len]; have := List.count_le_length (a := (58 : UInt8)) (l := l); omega
  have HA := hid ha
  clear ha hl
  go_wp2_with fail
  have HB2 : Hid (Below w.heap.size w ((w1.alloc (.cells #[] 25)).alloc (.cells #[.string ⟨#[]⟩, .string ⟨#[]⟩, .slice (some ⟨w1.heap.size, 0, none⟩) 0 0] 28))) := (HB1.out.alloc (by omega) _).alloc (by simp; omega) _
  have HR2 : Hid (((w1.alloc (.cells #[] 25)).alloc (.cells #[.string ⟨#[]⟩, .string ⟨#[]⟩, .slice (some ⟨w1.heap.size, 0, none⟩) 0 0] 28)).heap[w.heap.size]? = some (.cells #[.string ⟨#[]⟩, .string ⟨#[]⟩, .slice none 0 0] 28 (0, 0))) := hb_alloc (hb_alloc HR1.out _) _
  have HI2 : Hid (((w1.alloc (.cells #[] 25)).alloc (.cells #[.string ⟨#[]⟩, .string ⟨#[]⟩, .slice (some ⟨w1.heap.size, 0, none⟩) 0 0] 28)).heap[w1.heap.size + 1]? = some (.cells #[.string ⟨#[]⟩, .string ⟨#[]⟩, .slice (some ⟨w1.heap.size, 0, none⟩) 0 0] 28 (0, 0))) := heap_alloc2_new _ _ _
  have HF2 : Hid (PB ((w1.alloc (.cells #[] 25)).alloc (.cells #[.string ⟨#[]⟩, .string ⟨#[]⟩, .slice (some ⟨w1.heap.size, 0, none⟩) 0 0] 28)) fb (splitC 58 l)) := PB.alloc (PB.alloc HF1.out _) _
  have HO2 : Hid (((w1.alloc (.cells #[] 25)).alloc (.cells #[.string ⟨#[]⟩, .string ⟨#[]⟩, .slice (some ⟨w1.heap.size, 0, none⟩) 0 0] 28)).ownsRow w.heap.size 25 2 (.slice (some ⟨w1.heap.size, 0, none⟩) 0 0) ([] : List BB).length (flat [])) := by
    have := World.ownsRow_made (base := w.heap.size) (e := 25) (size := 2) w1 #[] 0 (by omega) (by simp [maxLen]) rfl
    have h2 := World.ownsRow.alloc this (.cells #[.string ⟨#[]⟩, .string ⟨#[]⟩, .slice (some ⟨w1.heap.size, 0, none⟩) 0 0] 28)
    show World.ownsRow _ _ _ _ _ _ _
    simpa [flat] using h2
  clear kf
  generalize (w1.alloc (.cells #[] 25)).alloc (.cells #[.string ⟨#[]⟩, .string ⟨#[]⟩, .slice (some ⟨w1.heap.size, 0, none⟩) 0 0] 28) = w2 at *
  obtain ⟨bi, hbi⟩ : ∃ x, x = w1.heap.size + 1 := ⟨_, rfl⟩
  rw [← hbi] at HI2
  rw [← hbi]
  have hwbi : w.heap.size < bi := by omega
  clear hbi
  have hal2 : a.length ≤ 1048576 := by have := HLL.out; omega
  refine (PN_spec a w2 (by omega)).mono ?_
  rintro e w3 ⟨rfl, hb⟩
  have HB3 : Hid (Below w.heap.size w w3) := HB2.out.trans (hb.mono HB2.out.size)
  have HR3 := hid (below_heap hb (lt_of_heap HR2.out) HR2.out)
  have HI3 := hid (below_heap hb (lt_of_heap HI2.out) HI2.out)
  have HF3 := hid (HF2.out.below hb)
  have HO3 := hid (row_below hb HO2.out)
  have hz3 := HB3.out.size
  have hlr3 := lt_of_heap HR3.out
  have hli3 := lt_of_heap HI3.out
  have hfl3 := HF3.out.lt
  have hnr : w.heap.size ≠ bi := by omega
  have hnf : fb ≠ bi := HF3.out.ne HI3.out
  clear hb
  obtain ⟨i0, i1, i2, g0, g1, g2⟩ := k3 HI3.out
  obtain ⟨r0, r1, r2, z0, z1, z2⟩ := k3 HR3.out
  cases hn : needB a with
  | none =>
    have HR : Hid (rI l = ((⟨#[]⟩, ⟨#[]⟩), [], false)) := rI_none (inst_bad HA.out (.inl hn))
    clear hn
    go_wp2
    refine bodyPost_ret (results_row_tmp rfl _ _ w.heap.size 28 #[.string ⟨#[]⟩, .string ⟨#[]⟩, .slice none 0 0] (0, 0) _ rfl (hb_alloc (heap_set (heap_set (heap_set HR3.out 0 _) 1 _) 2 _) _) Tryd.underlying28 rfl (by kernel_rfl)) rfl ?_
    exact ⟨.slice none 0 0, by rw [HR.out]; rfl, by rw [HR.out]; exact row_none _ _, ((((HB3.out).setCell (Nat.le_refl _) _).setCell (Nat.le_refl _) _).setCell (Nat.le_refl _) _).alloc (by simp; omega) _⟩
  | some p =>
    obtain ⟨x0, y0⟩ := p
    have HN := hid hn
    clear hn
    by_cases h3 : 2 < (splitC 58 l).length
    · have HR : Hid (rI l = ((⟨#[]⟩, ⟨#[]⟩), [], false)) := rI_none (inst_bad HA.out (.inr h3))
      go_wp2
      refine bodyPost_ret (results_row_tmp rfl _ _ w.heap.size 28 #[.string ⟨#[]⟩, .string ⟨#[]⟩, .slice none 0 0] (0, 0) _ rfl (hb_alloc (heap_set (heap_set (heap_set HR3.out 0 _) 1 _) 2 _) _) Tryd.underlying28 rfl (by kernel_rfl)) rfl ?_
      exact ⟨.slice none 0 0, by rw [HR.out]; rfl, by rw [HR.out]; exact row_none _ _, ((((HB3.out).setCell (Nat.le_refl _) _).setCell (Nat.le_refl _) _).setCell (Nat.le_refl _) _).alloc (by simp; omega) _⟩
    · by_cases h1 : (splitC 58 l).length = 1
      · have HR : Hid (rI l = ((x0, y0), [], true)) := rI_some (inst_one HA.out h1 HN.out)
        have hne2 : (((splitC 58 l).length : Int) == 2) = false := by rw [beq_eq_false_iff_ne]; omega
        have HB4 : Hid (Below w.heap.size w ((w3.setCell ⟨bi, 0, none⟩ (.string x0)).setCell ⟨bi, 1, none⟩ (.string y0))) := (HB3.out.setCell (Nat.le_of_lt hwbi) _).setCell (Nat.le_of_lt hwbi) _
        have HR4 : Hid (((w3.setCell ⟨bi, 0, none⟩ (.string x0)).setCell ⟨bi, 1, none⟩ (.string y0)).heap[w.heap.size]? = some (.cells #[.string ⟨#[]⟩, .string ⟨#[]⟩, .slice none 0 0] 28 (0, 0))) := hb_set_ne (hb_set_ne HR3.out ⟨bi, 0, none⟩ (.string x0) hnr) ⟨bi, 1, none⟩ (.string y0) hnr
        have HI4 : Hid (((w3.setCell ⟨bi, 0, none⟩ (.string x0)).setCell ⟨bi, 1, none⟩ (.string y0)).heap[bi]? = some (.cells #[.string x0, .string y0, .slice (some ⟨w1.heap.size, 0, none⟩) 0 0] 28 (0, 0))) := heap_set (heap_set HI3.out 0 (.string x0)) 1 (.string y0)
        have HO4 : Hid (((w3.setCell ⟨bi, 0, none⟩ (.string x0)).setCell ⟨bi, 1, none⟩ (.string y0)).ownsRow w.heap.size 25 2 (.slice (some ⟨w1.heap.size, 0, none⟩) 0 0) ([] : List BB).length (flat [])) := row_set_v (o := 1) (row_set_v (o := 0) HO3.out HI3.out (by decide) (.string x0)) (heap_set HI3.out 0 (.string x0)) (by decide) (.string y0)
        have h3i : ¬ (2 : Int) < ((splitC 58 l).length : Int) := by omega
        clear h1 h3
        go_wp2
        refine bodyPost_ret (results_row_tmp rfl _ _ w.heap.size 28 #[.string x0, .string y0, .slice (some ⟨w1.heap.size, 0, none⟩) 0 0] (0, 0) _ rfl (hb_alloc (heap_set (heap_set (heap_set HR4.out 0 _) 1 _) 2 _) _) Tryd.underlying28 rfl (by kernel_rfl)) rfl ?_
        exact ⟨.slice (some ⟨w1.heap.size, 0, none⟩) 0 0, by rw [HR.out]; rfl, by rw [HR.out]; exact World.ownsRow.alloc (row_sets HO4.out HR4.out) _, ((((HB4.out).setCell (Nat.le_refl _) _).setCell (Nat.le_refl _) _).setCell (Nat.le_refl _) _).alloc (by simp; omega) _⟩
      · obtain ⟨b, hb2⟩ : ∃ b, (splitC 58 l)[1]? = some b := ⟨_, List.getElem?_eq_getElem (by omega)⟩
        have HIL := hid (inst_two HA.out hb2 (by omega))
        have kf : w3.cell? ⟨fb, 1, none⟩ = some (.string ⟨b.toArray⟩) := HF3.out.at hb2
        have hbl := piece_len hb2
        have heq2 : (((splitC 58 l).length : Int) == 2) = true := by rw [beq_iff_eq]; omega
        have hsl : (splitC 38 b).length ≤ 1048577 := by rw [splitC_len]; have := List.count_le_length (a := (38 : UInt8)) (l := b); have := HLL.out; omega
        have hbl2 : b.length ≤ 1048576 := by have := HLL.out; omega
        have hlen2 : 1 < (splitC 58 l).length := by omega
        have hlen2i : (1 : Int) < ((splitC 58 l).length : Int) := by omega
        have HB4a : Hid (Below w.heap.size w ((w3.setCell ⟨bi, 0, none⟩ (.string x0)).setCell ⟨bi, 1, none⟩ (.string y0))) := (HB3.out.setCell (Nat.le_of_lt hwbi) _).setCell (Nat.le_of_lt hwbi) _
        have HR4a : Hid (((w3.setCell ⟨bi, 0, none⟩ (.string x0)).setCell ⟨bi, 1, none⟩ (.string y0)).heap[w.heap.size]? = some (.cells #[.string ⟨#[]⟩, .string ⟨#[]⟩, .slice none 0 0] 28 (0, 0))) := hb_set_ne (hb_set_ne HR3.out ⟨bi, 0, none⟩ (.string x0) hnr) ⟨bi, 1, none⟩ (.string y0) hnr
        have HI4a : Hid (((w3.setCell ⟨bi, 0, none⟩ (.string x0)).setCell ⟨bi, 1, none⟩ (.string y0)).heap[bi]? = some (.cells #[.string x0, .string y0, .slice (some ⟨w1.heap.size, 0, none⟩) 0 0] 28 (0, 0))) := heap_set (heap_set HI3.out 0 (.string x0)) 1 (.string y0)
        have HO4a : Hid (((w3.setCell ⟨bi, 0, none⟩ (.string x0)).setCell ⟨bi, 1, none⟩ (.string y0)).ownsRow w.heap.size 25 2 (.slice (some ⟨w1.heap.size, 0, none⟩) 0 0) ([] : List BB).length (flat [])) := row_set_v (o := 1) (row_set_v (o := 0) HO3.out HI3.out (by decide) (.string x0)) (heap_set HI3.out 0 (.string x0)) (by decide) (.string y0)
        have h3i : ¬ (2 : Int) < ((splitC 58 l).length : Int) := by omega
        clear hb2 h1 h3
        go_wp2_with fail
        clear i0 i1 i2 g0 g1 g2 r0 r1 r2 z0 z1 z2 kf
        have HB5 : Hid (Below w.heap.size w (((w3.setCell ⟨bi, 0, none⟩ (.string x0)).setCell ⟨bi, 1, none⟩ (.string y0)).alloc (.cells #[.string x0, .string y0] 25))) := HB4a.out.alloc (by simp; omega) _
        have HR5 := hid (hb_alloc HR4a.out (.cells #[.string x0, .string y0] 25))
        have HI5 := hid (hb_alloc HI4a.out (.cells #[.string x0, .string y0] 25))
        have HO5 := hid (World.ownsRow.alloc HO4a.out (.cells #[.string x0, .string y0] 25))
        generalize ((w3.setCell ⟨bi, 0, none⟩ (.string x0)).setCell ⟨bi, 1, none⟩ (.string y0)).alloc (.cells #[.string x0, .string y0] 25) = w5 at *
        refine (show Calls Tryd.prog _ #[_, .int .u8 _] w5 _ from l13Cut_any b 38 w5 hbl2).mono ?_
        rintro e w6 ⟨pb, pc, rfl, hrow, hb⟩
        have HB4 : Hid (Below w.heap.size w w6) := HB5.out.trans (hb.mono HB5.out.size)
        have HR4 := hid (below_heap hb (lt_of_heap HR5.out) HR5.out)
        have HI4 := hid (below_heap hb (lt_of_heap HI5.out) HI5.out)
        have HO4 := hid (row_below hb HO5.out)
        have HP4 := hid (PB.of_row hrow)
        clear hb hrow HB4a HR4a HI4a HO4a
        go_wp2_with fail
        go_loopg [41] (splitC 38 b).length (fun q i wr => ∃ (k : Nat) (D : List BB) (v : Value), k ≤ (splitC 38 b).length ∧ (splitC 38 b).length - k ≤ q ∧ i = .int .i64 k ∧ D.length = k ∧ Hid (∀ (j : Nat) (p : List UInt8) (x : BB), j < k → (splitC 38 b)[j]? = some p → D[j]? = some x → needB p = some x) ∧ Hid (wr.ownsRow w.heap.size 25 2 v D.length (flat D)) ∧ Hid (wr.heap[bi]? = some (.cells #[.string x0, .string y0, v] 28 (0, 0))) ∧ Hid (wr.heap[w.heap.size]? = some (.cells #[.string ⟨#[]⟩, .string ⟨#[]⟩, .slice none 0 0] 28 (0, 0))) ∧ Hid (PB wr pb (splitC 38 b)) ∧ Below w.heap.size w wr)
        case atStart => exact ⟨0, [], .slice (some ⟨w1.heap.size, 0, none⟩) 0 0, Nat.zero_le _, by simp, rfl, rfl, (fun j p x h => by omega), HO4.out, HI4.out, HR4.out, HP4.out, HB4.out⟩
        case round =>
          obtain ⟨k, D, v, hk, hq, rfl, hD, hgd, hrow, hbi, hr, hp, hb⟩ := hrel
          have HGD := hid hgd.out
          have HO := hid hrow.out
          have HI := hid hbi.out
          have HRR := hid hr.out
          have HP := hid hp.out
          have HB := hid hb
          have hbz := hb.size
          have hlr2 := lt_of_heap hr.out
          have hlbi := lt_of_heap hbi.out
          have HDL := hid hD
          have hdl1 : D.length ≤ k := by omega
          have hdl2 : k ≤ D.length := by omega
          obtain ⟨i0, i1, i2, g0, g1, g2⟩ := k3 hbi.out
          obtain ⟨r0, r1, r2, z0, z1, z2⟩ := k3 hr.out
          clear hgd hrow hbi hr hp hb hD
          by_cases hlt : k < (splitC 38 b).length
          · obtain ⟨pc, hpc⟩ : ∃ pc, (splitC 38 b)[k]? = some pc := ⟨_, List.getElem?_eq_getElem hlt⟩
            have kp : wr.cell? ⟨pb, k, none⟩ = some (.string ⟨pc.toArray⟩) := HP.out.at hpc
            have hpcl := piece_len hpc
            have HPC := hid hpc
            clear hpc
            go_wp2_with fail
            refine (PN_spec pc wr (by omega)).mono ?_
            rintro e w5 ⟨rfl, hb⟩
            have HB5 : Hid (Below w.heap.size w w5) := HB.out.trans (hb.mono HB.out.size)
            have HI5 := hid (below_heap hb hlbi HI.out)
            have HR5 := hid (below_heap hb hlr2 HRR.out)
            have HP5 := hid (HP.out.below hb)
            have HO5 := hid (row_below hb HO.out)
            have hz5 := hb.size
            have hlr5 := lt_of_heap HR5.out
            have hlbi5 := lt_of_heap HI5.out
            clear hb kp i0 i1 i2 g0 g1 g2 r0 r1 r2 z0 z1 z2
            obtain ⟨i0, i1, i2, g0, g1, g2⟩ := k3 HI5.out
            obtain ⟨r0, r1, r2, z0, z1, z2⟩ := k3 HR5.out
            cases hn : needB pc with
            | none =>
              have HR : Hid (rI l = ((⟨#[]⟩, ⟨#[]⟩), [], false)) := rI_none (by rw [HIL.out, HN.out, allN_none HPC.out hn])
              clear hn
              go_wp2
              refine bodyPost_ret (results_row_tmp rfl _ _ w.heap.size 28 #[.string ⟨#[]⟩, .string ⟨#[]⟩, .slice none 0 0] (0, 0) _ rfl (hb_alloc (heap_set (heap_set (heap_set HR5.out 0 _) 1 _) 2 _) _) Tryd.underlying28 rfl (by kernel_rfl)) rfl ?_
              exact ⟨.slice none 0 0, by rw [HR.out]; rfl, by rw [HR.out]; exact row_none _ _, ((((HB5.out).setCell (Nat.le_refl _) _).setCell (Nat.le_refl _) _).setCell (Nat.le_refl _) _).alloc (by simp; omega) _⟩
            | some p =>
              obtain ⟨x, y⟩ := p
              have HNN := hid hn
              clear hn
              have HOA : Hid ((w5.alloc (.cells #[.string x, .string y] 25)).ownsRow w.heap.size 25 2 v D.length (flat D)) := World.ownsRow.alloc HO5.out _
              have HBA : Hid (Below w.heap.size w (w5.alloc (.cells #[.string x, .string y] 25))) := HB5.out.alloc (by omega) _
              go_wp2_with (first
                | (at_builtin; refine app_push_at 26 25 (.agg #[.string ⟨#[]⟩, .string ⟨#[]⟩]) 2 32 Tryd.underlying26 infoNeed rfl (by decide) rfl _ _ rfl w.heap.size v D.length (flat D) rfl (World.ownsRow.alloc HOA.out _) (w5.heap.size + 1) 1 [.string x, .string y] (by simp [go_sem]) (by simp) (news_two (heap_cell (hb_new2 _ _ _ _ rfl) 0) (heap_cell (hb_new2 _ _ _ _ rfl) 1)) (by simp [Value.oneCell']) (by unfold maxLen; omega) (by omega) (by first | omega | (simp; omega)) ?_))
              intro g1' cap1 w6 hown hgr hlie
              have HI6 : Hid (w6.heap[bi]? = some (.cells #[.string x0, .string y0, v] 28 (0, 0))) := keep_row hgr (World.ownsRow.alloc HOA.out _) (hb_alloc (hb_alloc HI5.out _) _) (by decide)
              have HR6 : Hid (w6.heap[w.heap.size]? = some (.cells #[.string ⟨#[]⟩, .string ⟨#[]⟩, .slice none 0 0] 28 (0, 0))) := keep_row hgr (World.ownsRow.alloc HOA.out _) (hb_alloc (hb_alloc HR5.out _) _) (by decide)
              have HPA : PB (w5.alloc (.cells #[.string x, .string y] 25)) pb (splitC 38 b) := PB.alloc HP5.out _
              have HPB : PB ((w5.alloc (.cells #[.string x, .string y] 25)).alloc (.cells #[.string x, .string y] 25)) pb (splitC 38 b) := PB.alloc HPA _
              have HP6 : Hid (PB w6 pb (splitC 38 b)) := PB.keep hgr (World.ownsRow.alloc HOA.out (.cells #[.string x, .string y] 25)) HPB
              clear HPA HPB
              have HB6 : Hid (Below w.heap.size w w6) := (HBA.out.alloc (by simp; omega) _).grown hgr (by simp; omega) (fun g hg => row_base (World.ownsRow.alloc HOA.out (.cells #[.string x, .string y] 25)) g hg)
              have HG6 := hid (row_block hown).2
              have HO6 : Hid (w6.ownsRow w.heap.size 25 2 (.slice (some ⟨g1', 0, none⟩) (D.length + 1) cap1) (D.length + 1) (flat (D ++ [(x, y)]))) := by
                show World.ownsRow _ _ _ _ _ _ _
                rw [flat_app]
                exact hown
              have hne : g1' ≠ bi := by
                obtain ⟨cur, hcur⟩ := HG6.out
                exact fun e => heap_ne HI6.out hcur (by decide) e.symm
              have hnr : w.heap.size ≠ bi := by omega
              have hnp : pb ≠ bi := HP6.out.ne HI6.out
              clear hown hgr hlie i0 i1 i2 g0 g1 g2 r0 r1 r2 z0 z1 z2
              obtain ⟨i0, i1, i2, g0, g1, g2⟩ := k3 HI6.out
              go_wp2_with fail
              go_roundg ((splitC 38 b).length - (k + 1))
              case measure => omega
              case rel =>
                refine ⟨k + 1, D ++ [(x, y)], .slice (some ⟨g1', 0, none⟩) (D.length + 1) cap1, by omega, by omega, by go_num, by simp; omega, ?_, ?_, heap_set HI6.out 2 _, hb_set_ne HR6.out _ _ hnr, HP6.out.set _ hnp, HB6.out.setCell (Nat.le_of_lt hwbi) _⟩
                · show ∀ (j : Nat) (p : List UInt8) (x' : BB), _ → _ → _ → _
                  intro j p x' hj hpj hxj
                  by_cases e : j < k
                  · rw [List.getElem?_append_left (by omega)] at hxj
                    exact HGD.out j p x' e hpj hxj
                  · obtain rfl : j = k := by omega
                    rw [HPC.out] at hpj
                    cases hpj
                    rw [List.getElem?_append_right (by omega), show j - D.length = 0 by omega] at hxj
                    simp at hxj
                    rw [← hxj]; exact HNN.out
                · show World.ownsRow _ _ _ _ _ _ _
                  rw [List.length_append]
                  exact row_set HO6.out _ hne
          · have hke : k = (splitC 38 b).length := by omega
            have HR : Hid (rI l = ((x0, y0), D, true)) := rI_some (by
              rw [HIL.out, HN.out, allN_mk (xs := D) (by omega) (fun j p x hp hx => HGD.out j p x (by have := (List.getElem?_eq_some_iff.1 hp).1; omega) hp hx)])
            have hnr : w.heap.size ≠ bi := by omega
            clear hke hq
            obtain ⟨va, vc, rfl⟩ := row_slice HO.out
            go_wp2
            refine bodyPost_ret (results_row_tmp rfl _ _ w.heap.size 28 #[.string x0, .string y0, .slice va D.length vc] (0, 0) _ rfl (heap_set (heap_set (heap_set HRR.out 0 _) 1 _) 2 _) Tryd.underlying28 rfl (by kernel_rfl)) rfl ?_
            exact ⟨.slice va D.length vc, by rw [HR.out]; rfl, by rw [HR.out]; exact (row_sets HO.out HRR.out), (((HB.out).setCell (Nat.le_refl _) _).setCell (Nat.le_refl _) _).setCell (Nat.le_refl _) _⟩
end PIn
end Go.Proofs.YtbdnhcfebgkpdaaDoor
