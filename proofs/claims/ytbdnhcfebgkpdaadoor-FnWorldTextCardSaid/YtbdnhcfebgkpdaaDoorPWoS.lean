/- ParseWorld of the reference. Conditions: the text is at most 2^20 bytes long. -/
import Derived.Test.YtbdnhcfebgkpdaaDoorPWoI
import Derived.Test.YtbdnhcfebgkpdaaDoorPInS
import Derived.Test.YtbdnhcfebgkpdaaDoorWV
set_option linter.unusedVariables false
set_option linter.unusedSimpArgs false
set_option maxRecDepth 100000
namespace Go.Proofs.YtbdnhcfebgkpdaaDoor
open Go.RowKit Ty SplP ListS CutS PIn PInP IRow
namespace PWo
theorem hb_newk {w : World} {cs : Array Value} {e : TypeId} {k : Nat} (hk : w.heap.size = k) : (w.alloc (.cells cs e)).heap[k]? = some (.cells cs e (0, 0)) := by subst hk; exact heap_alloc_new _ _
theorem run_tail2 (fb n c : Nat) (hn : 1 ≤ n) (hc : n ≤ c) (x : World) : ∃ o, (1 < n → o = 1) ∧ (Instr.slice 55 (.slice (some ⟨fb, 0, none⟩) n c) (some (.int .i64 1)) none none).run Tryd.prog x = .ok (.slice (some ⟨fb, o, none⟩) (n - 1) (c - 1)) x := by
  have hs : (sizeOf (Tryd.prog.elem 55)).run Tryd.prog x = .ok 1 x := by rfl
  have h := run_slice_l (P := Tryd.prog) x 55 (some ⟨fb, 0, none⟩) n c (by kernel_rfl) .i64 1 (by omega) (by omega)
  rw [h, hs]
  by_cases e : c = 1
  · subst e
    exact ⟨0, by omega, by simp [Result.andThen, sliced]⟩
  · exact ⟨1, fun _ => rfl, by simp [Result.andThen, sliced, e, Addr.add]⟩
theorem PIS_bad (l : List UInt8) (w : World) (hn : instL l = none) (hl : l.length ≤ 1048576) : Calls Tryd.prog 7 #[.string ⟨l.toArray⟩] w fun e w' => ∃ a c, e = .returned (.tuple #[.agg #[.string ⟨#[]⟩, .string ⟨#[]⟩, .slice a 0 c], .bool false]) ∧ Below w.heap.size w w' := by
  refine (PIn.ParseInstance_spec l w hl).mono ?_
  rw [PIn.rI_none hn]
  rintro e w' ⟨v, rfl, hv, hb⟩
  obtain ⟨a, c, rfl⟩ := row_slice hv
  exact ⟨a, c, rfl, hb⟩
theorem PIS_good (l : List UInt8) (x y : ByteArray) (ns : List BB) (w : World) (hn : instL l = some ((x, y), ns)) (hl : l.length ≤ 1048576) : Calls Tryd.prog 7 #[.string ⟨l.toArray⟩] w fun e w' => ∃ a c, e = .returned (.tuple #[.agg #[.string x, .string y, .slice a ns.length c], .bool true]) ∧ w'.ownsRow w.heap.size 25 2 (.slice a ns.length c) ns.length (flat ns) ∧ Below w.heap.size w w' := by
  refine (PIn.ParseInstance_spec l w hl).mono ?_
  rw [PIn.rI_some hn]
  rintro e w' ⟨v, rfl, hv, hb⟩
  obtain ⟨a, c, rfl⟩ := row_slice hv
  exact ⟨a, c, rfl, hv, hb⟩
theorem clsS_size (x : List UInt8) : (PWoP.clsS x).1.size + (PWoP.clsS x).2.size ≤ x.length := by
  unfold PWoP.clsS
  split
  · split <;> simp [ByteArray.size] <;> omega
  · simp [ByteArray.size]
theorem clsS_tot : ∀ (ps : List (List UInt8)), tot (ps.map PWoP.clsS) ≤ (ps.map List.length).sum
  | [] => by simp [tot]
  | p :: ps => by
    have i1 := clsS_tot ps
    have i2 := clsS_size p
    simp only [tot, List.map_cons, List.sum_cons] at i1 ⊢
    omega
theorem world_sizesS {l p0 : List UInt8} {is : List II} (hp : (splitC 59 l)[0]? = some p0) (hl : l.length ≤ 1048576) (hi : PWoP.instsL ((splitC 59 l).drop 1) = some is) :
    tot ((splitC 32 p0).map PWoP.clsS) + ((splitC 32 p0).map PWoP.clsS).length ≤ 1048577 ∧ itot is + is.length ≤ 1048576 := by
  have h1 := (world_sizes hp hl hi).2
  have h2 := split_sum 32 p0
  have h3 := clsS_tot (splitC 32 p0)
  have h4 := piece_len hp
  rw [List.length_map]
  exact ⟨by omega, h1⟩
open Classical in
theorem specW_eq {l p0 : List UInt8} (h : (splitC 59 l)[0]? = some p0) : PWoP.specW l = (match PWoP.instsL ((splitC 59 l).drop 1) with | none => none | some is => if WV.wvB ((splitC 32 p0).map PWoP.clsS) is = true then some ((splitC 32 p0).map PWoP.clsS, is) else none) := by
  unfold PWoP.specW
  cases hs : splitC 59 l with
  | nil => exact absurd hs (splitC_ne 59 l)
  | cons q ps =>
    rw [hs] at h
    simp at h
    subst h
    rfl
theorem bad_instS {l p0 p : List UInt8} {k : Nat} (h0 : (splitC 59 l)[0]? = some p0) (hk : (splitC 59 l)[k + 1]? = some p) (hn : instL p = none) : rW (PWoP.specW l) = ([], [], false) := by
  rw [specW_eq h0, insts_none (k := k) (by rw [List.getElem?_drop]; rw [Nat.add_comm]; exact hk) hn]
  rfl
theorem textS {l p0 : List UInt8} {is : List II} (h0 : (splitC 59 l)[0]? = some p0) (hi : PWoP.instsL ((splitC 59 l).drop 1) = some is) (b : Bool) (h : WV.wvB ((splitC 32 p0).map PWoP.clsS) is = b) : rW (PWoP.specW l) = if b then ((splitC 32 p0).map PWoP.clsS, is, true) else ([], [], false) := by
  rw [specW_eq h0, hi]
  cases b
  · show rW (if _ then _ else _) = _
    rw [if_neg (by rw [h]; simp)]
    rfl
  · show rW (if _ then _ else _) = _
    rw [if_pos h]
    rfl
theorem clsS_no {x : List UInt8} (h : x.length ≤ 2 ∨ x[1]? ≠ some 60) : PWoP.clsS x = (⟨x.toArray⟩, ⟨#[]⟩) := by
  unfold PWoP.clsS
  split
  · rename_i c d e r
    rcases h with h | h
    · simp at h
    · rw [if_neg (by rintro rfl; simp at h)]
  · rfl
theorem three (x : List UInt8) : x.length ≤ 2 ∨ ∃ c d e r, x = c :: d :: e :: r := by
  match x with
  | [] => exact .inl (by simp)
  | [_] => exact .inl (by simp)
  | [_, _] => exact .inl (by simp)
  | c :: d :: e :: r => exact .inr ⟨c, d, e, r, rfl⟩
theorem clsS_yes (c e : UInt8) (r : List UInt8) : PWoP.clsS (c :: 60 :: e :: r) = (⟨#[c]⟩, ⟨(e :: r).toArray⟩) := by
  unfold PWoP.clsS
  simp
set_option maxHeartbeats 8000000 in
theorem RawParseWorld_spec (l : List UInt8) (w : World) (hl : l.length ≤ 1048576) :
    Calls Tryd.prog 51 #[.string ⟨l.toArray⟩] w (WoPost w (rW (PWoP.specW l))) := by
  have HLL := hid hl
  go_enter Tryd.func51, Tryd.ntmps51
  go_wp2_with fail
  have HB0 : Hid (Below w.heap.size w (w.alloc (.cells #[.slice none 0 0, .slice none 0 0] 42))) := (Below.refl _ _).alloc (Nat.le_refl _) _
  have HR0 : Hid ((w.alloc (.cells #[.slice none 0 0, .slice none 0 0] 42)).heap[w.heap.size]? = some (.cells #[.slice none 0 0, .slice none 0 0] 42 (0, 0))) := heap_alloc_new _ _
  generalize w.alloc (.cells #[.slice none 0 0, .slice none 0 0] 42) = w0 at *
  refine (show Calls Tryd.prog _ #[_, .int .u8 _] w0 _ from l13Cut_any l 59 w0 hl).mono ?_
  rintro e w1 ⟨fb, fc, rfl, hrow, hb⟩
  have HB1 : Hid (Below w.heap.size w w1) := HB0.out.trans (hb.mono HB0.out.size)
  have HR1 := hid (below_heap hb (lt_of_heap HR0.out) HR0.out)
  have hfc : (splitC 59 l).length ≤ fc := row_cap hrow
  have HF1 := hid (PB.of_row hrow)
  have hl1 := lt_of_heap HR1.out
  have hfl := HF1.out.lt
  clear hb hrow
  obtain ⟨p0, hp0⟩ : ∃ a, (splitC 59 l)[0]? = some a := by
    cases h : splitC 59 l with
    | nil => exact absurd h (splitC_ne 59 l)
    | cons a r => exact ⟨a, rfl⟩
  have HF2 : Hid (PB (((w1.alloc (.cells #[] 69)).alloc (.cells #[] 28)).alloc (.cells #[.slice (some ⟨w1.heap.size, 0, none⟩) 0 0, .slice (some ⟨w1.heap.size + 1, 0, none⟩) 0 0] 42)) fb (splitC 59 l)) := PB.alloc (PB.alloc (PB.alloc HF1.out _) _) _
  have kf : (((w1.alloc (.cells #[] 69)).alloc (.cells #[] 28)).alloc (.cells #[.slice (some ⟨w1.heap.size, 0, none⟩) 0 0, .slice (some ⟨w1.heap.size + 1, 0, none⟩) 0 0] 42)).cell? ⟨fb, 0, none⟩ = some (.string ⟨p0.toArray⟩) := HF2.out.at hp0
  have hal := piece_len hp0
  have hal2 : p0.length ≤ 1048576 := by omega
  have hpos : 0 < (splitC 59 l).length := (List.getElem?_eq_some_iff.1 hp0).1
  have hfl2 : (splitC 59 l).length ≤ 1048577 := by rw [splitC_len]; have := List.count_le_length (a := (59 : UInt8)) (l := l); omega
  have hsl : (splitC 32 p0).length ≤ 1048577 := by rw [splitC_len]; have := List.count_le_length (a := (32 : UInt8)) (l := p0); omega
  have HP0 := hid hp0
  clear hp0 hl
  go_wp2_with fail
  have HB2 : Hid (Below w.heap.size w (((w1.alloc (.cells #[] 69)).alloc (.cells #[] 28)).alloc (.cells #[.slice (some ⟨w1.heap.size, 0, none⟩) 0 0, .slice (some ⟨w1.heap.size + 1, 0, none⟩) 0 0] 42))) := ((HB1.out.alloc (by omega) _).alloc (by simp; omega) _).alloc (by simp; omega) _
  have HR2 : Hid ((((w1.alloc (.cells #[] 69)).alloc (.cells #[] 28)).alloc (.cells #[.slice (some ⟨w1.heap.size, 0, none⟩) 0 0, .slice (some ⟨w1.heap.size + 1, 0, none⟩) 0 0] 42)).heap[w.heap.size]? = some (.cells #[.slice none 0 0, .slice none 0 0] 42 (0, 0))) := hb_alloc (hb_alloc (hb_alloc HR1.out _) _) _
  have HI2 : Hid ((((w1.alloc (.cells #[] 69)).alloc (.cells #[] 28)).alloc (.cells #[.slice (some ⟨w1.heap.size, 0, none⟩) 0 0, .slice (some ⟨w1.heap.size + 1, 0, none⟩) 0 0] 42)).heap[w1.heap.size + 2]? = some (.cells #[.slice (some ⟨w1.heap.size, 0, none⟩) 0 0, .slice (some ⟨w1.heap.size + 1, 0, none⟩) 0 0] 42 (0, 0))) := hb_newk (by simp)
  have HV2 : Hid ((((w1.alloc (.cells #[] 69)).alloc (.cells #[] 28)).alloc (.cells #[.slice (some ⟨w1.heap.size, 0, none⟩) 0 0, .slice (some ⟨w1.heap.size + 1, 0, none⟩) 0 0] 42)).ownsRow w.heap.size 69 2 (.slice (some ⟨w1.heap.size, 0, none⟩) 0 0) 0 (flat [])) := World.ownsRow.alloc (World.ownsRow.alloc (row_mono (World.ownsRow_made (base := w1.heap.size) (e := 69) (size := 2) w1 #[] 0 (Nat.le_refl _) (by simp [maxLen]) rfl) (by omega)) _) _
  have HT2 : Hid ((((w1.alloc (.cells #[] 69)).alloc (.cells #[] 28)).alloc (.cells #[.slice (some ⟨w1.heap.size, 0, none⟩) 0 0, .slice (some ⟨w1.heap.size + 1, 0, none⟩) 0 0] 42)).ownsRow w.heap.size 28 3 (.slice (some ⟨w1.heap.size + 1, 0, none⟩) 0 0) 0 (flatI [] [])) := by
    have h := World.ownsRow_made (base := w.heap.size) (e := 28) (size := 3) (w1.alloc (.cells #[] 69)) #[] 0 (by simp; omega) (by simp [maxLen]) rfl
    have hz : (w1.alloc (.cells #[] 69)).heap.size = w1.heap.size + 1 := by simp
    rw [hz] at h
    exact World.ownsRow.alloc h _
  clear kf
  generalize ((w1.alloc (.cells #[] 69)).alloc (.cells #[] 28)).alloc (.cells #[.slice (some ⟨w1.heap.size, 0, none⟩) 0 0, .slice (some ⟨w1.heap.size + 1, 0, none⟩) 0 0] 42) = w2 at *
  obtain ⟨c0b, hc0⟩ : ∃ x, x = w1.heap.size := ⟨_, rfl⟩
  obtain ⟨i0b, hi0⟩ : ∃ x, x = w1.heap.size + 1 := ⟨_, rfl⟩
  obtain ⟨bi, hbi⟩ : ∃ x, x = w1.heap.size + 1 + 1 := ⟨_, rfl⟩
  rw [show w1.heap.size + 2 = w1.heap.size + 1 + 1 from rfl] at HI2
  rw [← hbi] at HI2
  rw [← hi0] at HI2 HT2
  rw [← hc0] at HI2 HV2
  rw [← hbi]
  have hwbi : w.heap.size < bi := by omega
  clear hbi hi0 hc0
  refine (show Calls Tryd.prog _ #[_, .int .u8 _] w2 _ from l13Cut_any p0 32 w2 hal2).mono ?_
  rintro e w3 ⟨pb, pc, rfl, hrow, hb⟩
  have HB3 : Hid (Below w.heap.size w w3) := HB2.out.trans (hb.mono HB2.out.size)
  have HR3 := hid (below_heap hb (lt_of_heap HR2.out) HR2.out)
  have HI3 := hid (below_heap hb (lt_of_heap HI2.out) HI2.out)
  have HF3 := hid (HF2.out.below hb)
  have HP3 := hid (PB.of_row hrow)
  have HV3 := hid (row_below hb HV2.out)
  have HT3 := hid (row_below hb HT2.out)
  clear hb hrow
  go_wp2_with fail
  go_loopg [23] (splitC 32 p0).length (fun q i wr => ∃ (k : Nat) (v : Value) (D : List Value), k ≤ (splitC 32 p0).length ∧ (splitC 32 p0).length - k ≤ q ∧ i = .int .i64 k ∧ Hid (D = flat (((splitC 32 p0).take k).map PWoP.clsS)) ∧ Hid (wr.ownsRow w.heap.size 69 2 v k D) ∧ Hid (wr.ownsRow w.heap.size 28 3 (.slice (some ⟨i0b, 0, none⟩) 0 0) 0 (flatI [] [])) ∧ Hid (wr.heap[bi]? = some (.cells #[v, .slice (some ⟨i0b, 0, none⟩) 0 0] 42 (0, 0))) ∧ Hid (wr.heap[w.heap.size]? = some (.cells #[.slice none 0 0, .slice none 0 0] 42 (0, 0))) ∧ Hid (PB wr pb (splitC 32 p0)) ∧ Hid (PB wr fb (splitC 59 l)) ∧ Below w.heap.size w wr)
  case atStart => exact ⟨0, .slice (some ⟨c0b, 0, none⟩) 0 0, flat [], Nat.zero_le _, by simp, rfl, rfl, HV3.out, HT3.out, HI3.out, HR3.out, HP3.out, HF3.out, HB3.out⟩
  case round =>
    obtain ⟨k, v, D, hk, hq, rfl, hD, hrow, ht, hbi, hr, hp, hf, hb⟩ := hrel
    have HD := hid hD.out
    have HO := hid hrow.out
    have HT := hid ht.out
    have HI := hid hbi.out
    have HRR := hid hr.out
    have HP := hid hp.out
    have HF := hid hf.out
    have HB := hid hb
    have hbz := hb.size
    have hlbi := lt_of_heap hbi.out
    have hlr := lt_of_heap hr.out
    obtain ⟨i0, i1, g0, g1⟩ := k2 hbi.out
    clear hD hrow hbi hr hp hf hb ht
    by_cases hlt : k < (splitC 32 p0).length
    · obtain ⟨x, hx⟩ : ∃ x, (splitC 32 p0)[k]? = some x := ⟨_, List.getElem?_eq_getElem hlt⟩
      have kp : wr.cell? ⟨pb, k, none⟩ = some (.string ⟨x.toArray⟩) := HP.out.at hx
      have hxl := piece_len hx
      have HTM := hid (take_map_snoc PWoP.clsS _ _ _ hx)
      clear hx
      rcases three x with hx2 | ⟨c, d, e, r, rfl⟩
      · have HDN : Hid (D ++ [.string ⟨x.toArray⟩, .string ⟨#[]⟩] = flat (((splitC 32 p0).take (k + 1)).map PWoP.clsS)) := by
          show _ = _
          rw [HTM.out, flat_app, ← HD.out, clsS_no (.inl hx2)]
        have hsz : (ByteArray.mk x.toArray).size ≤ 2 := by simpa [ByteArray.size] using hx2
        have hbn : Below wr.heap.size wr (wr.alloc (.cells #[.string ⟨(x : List UInt8).toArray⟩, .string ⟨#[]⟩] 69)) := ((Below.refl _ _).alloc (Nat.le_refl _) _)
        have hWz : (wr.alloc (.cells #[.string ⟨(x : List UInt8).toArray⟩, .string ⟨#[]⟩] 69)).heap.size = wr.heap.size + 1 := by simp
        have HBN := hid hbn
        have HWZ := hid hWz
        clear hbn hWz
        go_wp2_with (first
          | (at_builtin; refine app_push_at 39 69 (.agg #[.string ⟨#[]⟩, .string ⟨#[]⟩]) 2 32 Tryd.underlying39 infoClass rfl (by decide) rfl _ _ rfl w.heap.size v k D rfl (World.ownsRow.alloc (row_below HBN.out HO.out) _) (wr.heap.size + 1) 1 [.string ⟨(x : List UInt8).toArray⟩, .string ⟨#[]⟩] (by simp [go_sem]) (by simp) (news_two (heap_cell (hb_newk HWZ.out) 0) (heap_cell (hb_newk HWZ.out) 1)) (by simp [Value.oneCell']) (by unfold maxLen; omega) (by omega) (by first | omega | (simp; omega)) ?_))
        intro g1' cap1 w6 hown hgr hlie
        have hbM : Below w.heap.size w (wr.alloc (.cells #[.string ⟨(x : List UInt8).toArray⟩, .string ⟨#[]⟩] 69)) := HB.out.trans (HBN.out.mono HB.out.size)
        have hoA : World.ownsRow ((wr.alloc (.cells #[.string ⟨(x : List UInt8).toArray⟩, .string ⟨#[]⟩] 69)).alloc (.cells #[.string ⟨(x : List UInt8).toArray⟩, .string ⟨#[]⟩] 69)) w.heap.size 69 2 v k D := World.ownsRow.alloc (row_below HBN.out HO.out) _
        have HI6 : Hid (w6.heap[bi]? = some (.cells #[v, .slice (some ⟨i0b, 0, none⟩) 0 0] 42 (0, 0))) := keep_rowG hgr hoA (hb_alloc (below_heap HBN.out hlbi HI.out) _) (by decide)
        have HR6 : Hid (w6.heap[w.heap.size]? = some (.cells #[.slice none 0 0, .slice none 0 0] 42 (0, 0))) := keep_rowG hgr hoA (hb_alloc (below_heap HBN.out hlr HRR.out) _) (by decide)
        have HPA : PB ((wr.alloc (.cells #[.string ⟨(x : List UInt8).toArray⟩, .string ⟨#[]⟩] 69)).alloc (.cells #[.string ⟨(x : List UInt8).toArray⟩, .string ⟨#[]⟩] 69)) pb (splitC 32 p0) := PB.alloc (HP.out.below HBN.out) _
        have HFA : PB ((wr.alloc (.cells #[.string ⟨(x : List UInt8).toArray⟩, .string ⟨#[]⟩] 69)).alloc (.cells #[.string ⟨(x : List UInt8).toArray⟩, .string ⟨#[]⟩] 69)) fb (splitC 59 l) := PB.alloc (HF.out.below HBN.out) _
        have HP6 : Hid (PB w6 pb (splitC 32 p0)) := PB_keepG hgr hoA (by decide) HPA
        have HF6 : Hid (PB w6 fb (splitC 59 l)) := PB_keepG hgr hoA (by decide) HFA
        have HT6 : Hid (w6.ownsRow w.heap.size 28 3 (.slice (some ⟨i0b, 0, none⟩) 0 0) 0 (flatI [] [])) := row_grownG hgr (World.ownsRow.alloc (row_below HBN.out HT.out) _) hoA (by decide)
        have HB6 : Hid (Below w.heap.size w w6) := (hbM.alloc hbM.size _).grown hgr (by have := hbM.size; have := HWZ.out; first | omega | (simp; omega)) (fun g hg => (row_own hoA g hg).1)
        have HG6 := hid (row_block hown).2
        have HO6 := hid hown
        have hne : g1' ≠ bi := by
          obtain ⟨cur, hcur⟩ := HG6.out
          exact fun e => heap_ne HI6.out hcur (by decide) e.symm
        have hnp : pb ≠ bi := by
          obtain ⟨cur, hc, -⟩ := HP6.out
          exact fun e => heap_ne HI6.out hc (by decide) e.symm
        have hnf : fb ≠ bi := by
          obtain ⟨cur, hc, -⟩ := HF6.out
          exact fun e => heap_ne HI6.out hc (by decide) e.symm
        have hnr : w.heap.size ≠ bi := by omega
        clear hown hgr hlie HPA HFA hoA hbM
        clear i0 i1 g0 g1
        obtain ⟨i0, i1, g0, g1⟩ := k2 HI6.out
        go_wp2_with fail
        go_roundg ((splitC 32 p0).length - (k + 1))
        case measure => omega
        case rel =>
          refine ⟨k + 1, .slice (some ⟨g1', 0, none⟩) (k + 1) cap1, _, by omega, by omega, by go_num, HDN, ?_, row_setG HT6.out HI6.out (by decide) _, heap_set HI6.out 0 _, hb_set_ne HR6.out _ _ hnr, HP6.out.set _ hnp, HF6.out.set _ hnf, HB6.out.setCell (Nat.le_of_lt hwbi) _⟩
          show World.ownsRow _ _ _ _ _ _ _
          exact row_set HO6.out _ hne
      · by_cases hd : d = 60
        · subst hd
          have HDN : Hid (D ++ [.string ⟨#[c]⟩, .string ⟨(e :: r : List UInt8).toArray⟩] = flat (((splitC 32 p0).take (k + 1)).map PWoP.clsS)) := by
            show _ = _
            rw [HTM.out, flat_app, ← HD.out, clsS_yes]
          have h60 : ((((ByteArray.mk (c :: 60 :: e :: r : List UInt8).toArray)[1]'(by simp [ByteArray.size])).toNat : Int) == 60) = true := by rfl
          go_wp2_with fail
          go_region
          have hA : (ByteArray.mk (c :: 60 :: e :: r : List UInt8).toArray).extract 0 1 = ⟨#[c]⟩ := by
            apply ByteArray.ext
            rw [ByteArray.data_extract]
            apply Array.ext'
            simp
          have hB : (ByteArray.mk (c :: 60 :: e :: r : List UInt8).toArray).extract 2 (r.length + 1 + 1 + 1) = ⟨(e :: r : List UInt8).toArray⟩ := by
            apply ByteArray.ext
            rw [ByteArray.data_extract]
            apply Array.ext'
            simp
          rw [hA, hB]
          clear hA hB h60
          have HBN : Hid (Below wr.heap.size wr (wr.alloc (.cells #[.string ⟨#[c]⟩, .string ⟨(e :: r : List UInt8).toArray⟩] 69)).drew) := ((Below.refl _ _).alloc (Nat.le_refl _) _).drew
          have HWZ : Hid ((wr.alloc (.cells #[.string ⟨#[c]⟩, .string ⟨(e :: r : List UInt8).toArray⟩] 69)).drew.heap.size = wr.heap.size + 1) := (show (wr.alloc (.cells #[.string ⟨#[c]⟩, .string ⟨(e :: r : List UInt8).toArray⟩] 69)).heap.size = _ by simp)
          have HCC : Hid ((wr.alloc (.cells #[.string ⟨#[c]⟩, .string ⟨(e :: r : List UInt8).toArray⟩] 69)).drew.heap[wr.heap.size]? = some (.cells #[.string ⟨#[c]⟩, .string ⟨(e :: r : List UInt8).toArray⟩] 69 (0, 0))) := heap_alloc_new wr _
          generalize (wr.alloc (.cells #[.string ⟨#[c]⟩, .string ⟨(e :: r : List UInt8).toArray⟩] 69)).drew = w5 at *
          clear i0 i1 g0 g1 kp
          have hlb5 := lt_of_heap (below_heap HBN.out hlbi HI.out)
          have hlc5 := lt_of_heap HCC.out
          have hz5 := HWZ.out
          obtain ⟨i0, i1, g0, g1⟩ := k2 (below_heap HBN.out hlbi HI.out)
          obtain ⟨j0, j1, j2, j3⟩ := k2 HCC.out
          go_wp2_with (first
            | (at_builtin; refine app_push_at 39 69 (.agg #[.string ⟨#[]⟩, .string ⟨#[]⟩]) 2 32 Tryd.underlying39 infoClass rfl (by decide) rfl _ _ rfl w.heap.size v k D rfl (World.ownsRow.alloc (row_below HBN.out HO.out) _) w5.heap.size 1 [.string ⟨#[c]⟩, .string ⟨(e :: r : List UInt8).toArray⟩] (by simp [go_sem]) (by simp) (news_two (heap_cell (hb_newk rfl) 0) (heap_cell (hb_newk rfl) 1)) (by simp [Value.oneCell']) (by unfold maxLen; omega) (by omega) (by first | omega | (simp; omega)) ?_))
          intro g1' cap1 w6 hown hgr hlie
          have hbM : Below w.heap.size w w5 := HB.out.trans (HBN.out.mono HB.out.size)
          have hoA : World.ownsRow (w5.alloc (.cells #[.string ⟨#[c]⟩, .string ⟨(e :: r : List UInt8).toArray⟩] 69)) w.heap.size 69 2 v k D := World.ownsRow.alloc (row_below HBN.out HO.out) _
          have HI6 : Hid (w6.heap[bi]? = some (.cells #[v, .slice (some ⟨i0b, 0, none⟩) 0 0] 42 (0, 0))) := keep_rowG hgr hoA (hb_alloc (below_heap HBN.out hlbi HI.out) _) (by decide)
          have HR6 : Hid (w6.heap[w.heap.size]? = some (.cells #[.slice none 0 0, .slice none 0 0] 42 (0, 0))) := keep_rowG hgr hoA (hb_alloc (below_heap HBN.out hlr HRR.out) _) (by decide)
          have HPA : PB (w5.alloc (.cells #[.string ⟨#[c]⟩, .string ⟨(e :: r : List UInt8).toArray⟩] 69)) pb (splitC 32 p0) := PB.alloc (HP.out.below HBN.out) _
          have HFA : PB (w5.alloc (.cells #[.string ⟨#[c]⟩, .string ⟨(e :: r : List UInt8).toArray⟩] 69)) fb (splitC 59 l) := PB.alloc (HF.out.below HBN.out) _
          have HP6 : Hid (PB w6 pb (splitC 32 p0)) := PB_keepG hgr hoA (by decide) HPA
          have HF6 : Hid (PB w6 fb (splitC 59 l)) := PB_keepG hgr hoA (by decide) HFA
          have HT6 : Hid (w6.ownsRow w.heap.size 28 3 (.slice (some ⟨i0b, 0, none⟩) 0 0) 0 (flatI [] [])) := row_grownG hgr (World.ownsRow.alloc (row_below HBN.out HT.out) _) hoA (by decide)
          have HB6 : Hid (Below w.heap.size w w6) := (hbM.alloc hbM.size _).grown hgr (by have := hbM.size; have := HWZ.out; first | omega | (simp; omega)) (fun g hg => (row_own hoA g hg).1)
          have HG6 := hid (row_block hown).2
          have HO6 := hid hown
          have hne : g1' ≠ bi := by
            obtain ⟨cur, hcur⟩ := HG6.out
            exact fun e => heap_ne HI6.out hcur (by decide) e.symm
          have hnp : pb ≠ bi := by
            obtain ⟨cur, hc, -⟩ := HP6.out
            exact fun e => heap_ne HI6.out hc (by decide) e.symm
          have hnf : fb ≠ bi := by
            obtain ⟨cur, hc, -⟩ := HF6.out
            exact fun e => heap_ne HI6.out hc (by decide) e.symm
          have hnr : w.heap.size ≠ bi := by omega
          clear hown hgr hlie HPA HFA hoA hbM
          clear i0 i1 g0 g1
          obtain ⟨i0, i1, g0, g1⟩ := k2 HI6.out
          go_wp2_with fail
          go_roundg ((splitC 32 p0).length - (k + 1))
          case measure => omega
          case rel =>
            refine ⟨k + 1, .slice (some ⟨g1', 0, none⟩) (k + 1) cap1, _, by omega, by omega, by go_num, HDN, ?_, row_setG HT6.out HI6.out (by decide) _, heap_set HI6.out 0 _, hb_set_ne HR6.out _ _ hnr, HP6.out.set _ hnp, HF6.out.set _ hnf, HB6.out.setCell (Nat.le_of_lt hwbi) _⟩
            show World.ownsRow _ _ _ _ _ _ _
            exact row_set HO6.out _ hne
        · have HDN : Hid (D ++ [.string ⟨(c :: d :: e :: r : List UInt8).toArray⟩, .string ⟨#[]⟩] = flat (((splitC 32 p0).take (k + 1)).map PWoP.clsS)) := by
            show _ = _
            rw [HTM.out, flat_app, ← HD.out, clsS_no (.inr (by simpa using hd))]
          have h60 : ((((ByteArray.mk (c :: d :: e :: r : List UInt8).toArray)[1]'(by simp [ByteArray.size])).toNat : Int) == 60) = false := by
            show (((d.toNat : Nat) : Int) == 60) = false
            have : d.toNat ≠ 60 := fun h => hd (UInt8.toNat_inj.1 h)
            simp
            omega
          have hbn : Below wr.heap.size wr (wr.alloc (.cells #[.string ⟨(c :: d :: e :: r : List UInt8).toArray⟩, .string ⟨#[]⟩] 69)) := ((Below.refl _ _).alloc (Nat.le_refl _) _)
          have hWz : (wr.alloc (.cells #[.string ⟨(c :: d :: e :: r : List UInt8).toArray⟩, .string ⟨#[]⟩] 69)).heap.size = wr.heap.size + 1 := by simp
          have HBN := hid hbn
          have HWZ := hid hWz
          clear hbn hWz
          go_wp2_with (first
            | (at_builtin; refine app_push_at 39 69 (.agg #[.string ⟨#[]⟩, .string ⟨#[]⟩]) 2 32 Tryd.underlying39 infoClass rfl (by decide) rfl _ _ rfl w.heap.size v k D rfl (World.ownsRow.alloc (row_below HBN.out HO.out) _) (wr.heap.size + 1) 1 [.string ⟨(c :: d :: e :: r : List UInt8).toArray⟩, .string ⟨#[]⟩] (by simp [go_sem]) (by simp) (news_two (heap_cell (hb_newk HWZ.out) 0) (heap_cell (hb_newk HWZ.out) 1)) (by simp [Value.oneCell']) (by unfold maxLen; omega) (by omega) (by first | omega | (simp; omega)) ?_))
          intro g1' cap1 w6 hown hgr hlie
          have hbM : Below w.heap.size w (wr.alloc (.cells #[.string ⟨(c :: d :: e :: r : List UInt8).toArray⟩, .string ⟨#[]⟩] 69)) := HB.out.trans (HBN.out.mono HB.out.size)
          have hoA : World.ownsRow ((wr.alloc (.cells #[.string ⟨(c :: d :: e :: r : List UInt8).toArray⟩, .string ⟨#[]⟩] 69)).alloc (.cells #[.string ⟨(c :: d :: e :: r : List UInt8).toArray⟩, .string ⟨#[]⟩] 69)) w.heap.size 69 2 v k D := World.ownsRow.alloc (row_below HBN.out HO.out) _
          have HI6 : Hid (w6.heap[bi]? = some (.cells #[v, .slice (some ⟨i0b, 0, none⟩) 0 0] 42 (0, 0))) := keep_rowG hgr hoA (hb_alloc (below_heap HBN.out hlbi HI.out) _) (by decide)
          have HR6 : Hid (w6.heap[w.heap.size]? = some (.cells #[.slice none 0 0, .slice none 0 0] 42 (0, 0))) := keep_rowG hgr hoA (hb_alloc (below_heap HBN.out hlr HRR.out) _) (by decide)
          have HPA : PB ((wr.alloc (.cells #[.string ⟨(c :: d :: e :: r : List UInt8).toArray⟩, .string ⟨#[]⟩] 69)).alloc (.cells #[.string ⟨(c :: d :: e :: r : List UInt8).toArray⟩, .string ⟨#[]⟩] 69)) pb (splitC 32 p0) := PB.alloc (HP.out.below HBN.out) _
          have HFA : PB ((wr.alloc (.cells #[.string ⟨(c :: d :: e :: r : List UInt8).toArray⟩, .string ⟨#[]⟩] 69)).alloc (.cells #[.string ⟨(c :: d :: e :: r : List UInt8).toArray⟩, .string ⟨#[]⟩] 69)) fb (splitC 59 l) := PB.alloc (HF.out.below HBN.out) _
          have HP6 : Hid (PB w6 pb (splitC 32 p0)) := PB_keepG hgr hoA (by decide) HPA
          have HF6 : Hid (PB w6 fb (splitC 59 l)) := PB_keepG hgr hoA (by decide) HFA
          have HT6 : Hid (w6.ownsRow w.heap.size 28 3 (.slice (some ⟨i0b, 0, none⟩) 0 0) 0 (flatI [] [])) := row_grownG hgr (World.ownsRow.alloc (row_below HBN.out HT.out) _) hoA (by decide)
          have HB6 : Hid (Below w.heap.size w w6) := (hbM.alloc hbM.size _).grown hgr (by have := hbM.size; have := HWZ.out; first | omega | (simp; omega)) (fun g hg => (row_own hoA g hg).1)
          have HG6 := hid (row_block hown).2
          have HO6 := hid hown
          have hne : g1' ≠ bi := by
            obtain ⟨cur, hcur⟩ := HG6.out
            exact fun e => heap_ne HI6.out hcur (by decide) e.symm
          have hnp : pb ≠ bi := by
            obtain ⟨cur, hc, -⟩ := HP6.out
            exact fun e => heap_ne HI6.out hc (by decide) e.symm
          have hnf : fb ≠ bi := by
            obtain ⟨cur, hc, -⟩ := HF6.out
            exact fun e => heap_ne HI6.out hc (by decide) e.symm
          have hnr : w.heap.size ≠ bi := by omega
          clear hown hgr hlie HPA HFA hoA hbM
          clear i0 i1 g0 g1
          obtain ⟨i0, i1, g0, g1⟩ := k2 HI6.out
          go_wp2_with fail
          go_roundg ((splitC 32 p0).length - (k + 1))
          case measure => omega
          case rel =>
            refine ⟨k + 1, .slice (some ⟨g1', 0, none⟩) (k + 1) cap1, _, by omega, by omega, by go_num, HDN, ?_, row_setG HT6.out HI6.out (by decide) _, heap_set HI6.out 0 _, hb_set_ne HR6.out _ _ hnr, HP6.out.set _ hnp, HF6.out.set _ hnf, HB6.out.setCell (Nat.le_of_lt hwbi) _⟩
            show World.ownsRow _ _ _ _ _ _ _
            exact row_set HO6.out _ hne
    · have hke : k = (splitC 32 p0).length := by omega
      obtain ⟨CS, HCS⟩ : ∃ CS, Hid (CS = (splitC 32 p0).map PWoP.clsS) := ⟨_, rfl⟩
      have HCR : Hid (wr.ownsRow w.heap.size 69 2 v CS.length (flat CS)) := by
        show World.ownsRow _ _ _ _ _ _ _
        have h := HO.out
        rw [HD.out, hke, List.take_length, ← HCS.out] at h
        rw [HCS.out, List.length_map, ← HCS.out]
        exact h
      have hn1 : 1 ≤ (splitC 59 l).length := hpos
      obtain ⟨va0, vc0, rfl⟩ := row_slice HCR.out
      have HIr := hid HI.out
      have HRr := hid HRR.out
      have HFr := hid HF.out
      have HBr := hid HB.out
      have HTr := hid HT.out
      clear hke HD HO HP hq i0 i1 g0 g1 HI HRR HF HB HT
      obtain ⟨o, ho, htail⟩ := run_tail2 fb (splitC 59 l).length fc hn1 hfc wr
      have HO1 := hid ho
      clear ho
      go_wp2_with fail
      clear htail
      go_loopg [52] ((splitC 59 l).length - 1) (fun q i wr => ∃ (k : Nat) (D : List II) (u : Value) (vs D2 : List Value), k ≤ (splitC 59 l).length - 1 ∧ (splitC 59 l).length - 1 - k ≤ q ∧ i = .int .i64 k ∧ Hid (D.length = k) ∧ Hid (∀ (j : Nat) (p : List UInt8) (x : II), j < k → (splitC 59 l)[j + 1]? = some p → D[j]? = some x → instL p = some ((x.1, x.2.1), x.2.2)) ∧ Hid (D2 = flatI D vs) ∧ Hid (wr.ownsRow w.heap.size 28 3 u k D2) ∧ Hid (IRow.Rows wr w.heap.size D vs) ∧ Hid (wr.ownsRow w.heap.size 69 2 (.slice va0 CS.length vc0) CS.length (flat CS)) ∧ Hid (wr.heap[bi]? = some (.cells #[.slice va0 CS.length vc0, u] 42 (0, 0))) ∧ Hid (wr.heap[w.heap.size]? = some (.cells #[.slice none 0 0, .slice none 0 0] 42 (0, 0))) ∧ Hid (PB wr fb (splitC 59 l)) ∧ Below w.heap.size w wr)
      case atStart => exact ⟨0, [], .slice (some ⟨i0b, 0, none⟩) 0 0, [], flatI [] [], Nat.zero_le _, by simp, rfl, rfl, (fun j p x h => by omega), rfl, HTr.out, IRow.Rows.nil _ _, HCR.out, HIr.out, HRr.out, HFr.out, HBr.out⟩
      case round =>
        clear HIr HRr HFr HBr HTr HCR hbz hlbi hlr
        obtain ⟨k, D, u, vs, D2, hk, hq, rfl, hDk, hgd, hD2, hrow, hrows, hcr, hbi, hr, hf, hb⟩ := hrel
        have HDK := hid hDk.out
        have HGD := hid hgd.out
        have HD2 := hid hD2.out
        have HO := hid hrow.out
        have HRS := hid hrows.out
        have HCR := hid hcr.out
        have HI := hid hbi.out
        have HRR := hid hr.out
        have HF := hid hf.out
        have HB := hid hb
        have hbz := hb.size
        have hlbi := lt_of_heap hbi.out
        have hlr := lt_of_heap hr.out
        obtain ⟨i0, i1, g0, g1⟩ := k2 hbi.out
        obtain ⟨r0, r1, z0, z1⟩ := k2 hr.out
        clear hDk hgd hD2 hrow hrows hcr hbi hr hf hb
        by_cases hlt : k < (splitC 59 l).length - 1
        · obtain ⟨pc, hpc⟩ : ∃ pc, (splitC 59 l)[k + 1]? = some pc := ⟨_, List.getElem?_eq_getElem (by omega)⟩
          have kp : wr.cell? ⟨fb, o + k, none⟩ = some (.string ⟨pc.toArray⟩) := by
            rw [HO1.out (by omega), Nat.add_comm]
            exact HF.out.at hpc
          have hpcl : pc.length ≤ 1048576 := by
            have h1 := piece_len hpc
            have h2 := HLL.out
            omega
          have HPC := hid hpc
          clear hpc
          cases hn : instL pc with
          | none =>
            have HN := hid hn
            clear hn
            go_wp2_with fail
            refine (PIS_bad pc wr HN.out hpcl).mono ?_
            rintro e w5 ⟨na, nc, rfl, hb⟩
            have HB5 : Hid (Below w.heap.size w w5) := HB.out.trans (hb.mono HB.out.size)
            have HR5 := hid (below_heap hb hlr HRR.out)
            have hz5 := hb.size
            have hlr5 := lt_of_heap HR5.out
            have HR : Hid (rW (PWoP.specW l) = ([], [], false)) := bad_instS HP0.out HPC.out HN.out
            clear hb kp i0 i1 g0 g1 r0 r1 z0 z1
            obtain ⟨r0, r1, z0, z1⟩ := k2 HR5.out
            go_wp2
            refine bodyPost_ret (results_row_tmp rfl _ _ w.heap.size 42 #[.slice none 0 0, .slice none 0 0] (0, 0) _ rfl (hb_alloc (heap_set (heap_set HR5.out 0 _) 1 _) _) Tryd.underlying42 rfl (by kernel_rfl)) rfl ?_
            exact ⟨.slice none 0 0, .slice none 0 0, by rw [HR.out]; rfl, by rw [HR.out]; exact row_noneC _ _, by rw [HR.out]; exact IR.none _ _, (((HB5.out).setCell (Nat.le_refl _) _).setCell (Nat.le_refl _) _).alloc (by simp; omega) _⟩
          | some pr =>
            obtain ⟨⟨x, y⟩, ns⟩ := pr
            have HN := hid hn
            clear hn
            go_wp2_with fail
            refine (PIS_good pc x y ns wr HN.out hpcl).mono ?_
            rintro e w5 ⟨na, nc, rfl, hnr, hb⟩
            have HB5 : Hid (Below w.heap.size w w5) := HB.out.trans (hb.mono HB.out.size)
            have HR5 := hid (below_heap hb hlr HRR.out)
            have HI5 := hid (below_heap hb hlbi HI.out)
            have HO5 := hid (row_below hb HO.out)
            have HC5 := hid (row_below hb HCR.out)
            have HF5 := hid (HF.out.below hb)
            have HRS5 := hid (HRS.out.below hb)
            have HNW : Hid (∀ v ∈ vs, ∀ g, v.ownBlock = some g → (Value.slice na ns.length nc).ownBlock ≠ some g) := by
              intro v hv g hg he
              have h1 := (HRS.out.own hv g hg).2
              have h2 := (row_own hnr g he).1
              omega
            have HNR : Hid (w5.ownsRow w.heap.size 25 2 (.slice na ns.length nc) ns.length (flat ns)) := row_mono hnr hbz
            have hz5 := hb.size
            have hlr5 := lt_of_heap HR5.out
            have hlbi5 := lt_of_heap HI5.out
            clear hb kp i0 i1 g0 g1 r0 r1 z0 z1 hnr
            obtain ⟨i0, i1, g0, g1⟩ := k2 HI5.out
            have HOA : Hid ((w5.alloc (.cells #[.string x, .string y, .slice na ns.length nc] 28)).ownsRow w.heap.size 28 3 u k D2) := World.ownsRow.alloc HO5.out _
            have HBA : Hid (Below w.heap.size w (w5.alloc (.cells #[.string x, .string y, .slice na ns.length nc] 28))) := HB5.out.alloc (by omega) _
            have HCA : Hid ((w5.alloc (.cells #[.string x, .string y, .slice na ns.length nc] 28)).ownsRow w.heap.size 69 2 (.slice va0 CS.length vc0) CS.length (flat CS)) := World.ownsRow.alloc HC5.out _
            have HRA : Hid (IRow.Rows (w5.alloc (.cells #[.string x, .string y, .slice na ns.length nc] 28)) w.heap.size D vs) := HRS5.out.below ((Below.refl _ _).alloc (Nat.le_refl _) _)
            have HNA : Hid ((w5.alloc (.cells #[.string x, .string y, .slice na ns.length nc] 28)).ownsRow w.heap.size 25 2 (.slice na ns.length nc) ns.length (flat ns)) := World.ownsRow.alloc HNR.out _
            go_wp2_with (first
              | (at_builtin; refine app_push_at 40 28 (.agg #[.string ⟨#[]⟩, .string ⟨#[]⟩, .slice none 0 0]) 3 56 Tryd.underlying40 infoInst rfl (by decide) rfl _ _ rfl w.heap.size u k D2 rfl (World.ownsRow.alloc HOA.out _) (w5.heap.size + 1) 1 [.string x, .string y, .slice na ns.length nc] (by simp [go_sem]) (by simp) (news_three (heap_cell (hb_new2 _ _ _ _ rfl) 0) (heap_cell (hb_new2 _ _ _ _ rfl) 1) (heap_cell (hb_new2 _ _ _ _ rfl) 2)) (by simp [Value.oneCell']) (by unfold maxLen; omega) (by omega) (by first | omega | (simp; omega)) ?_))
            intro g1' cap1 w6 hown hgr hlie
            have hoA : World.ownsRow ((w5.alloc (.cells #[.string x, .string y, .slice na ns.length nc] 28)).alloc (.cells #[.string x, .string y, .slice na ns.length nc] 28)) w.heap.size 28 3 u k D2 := World.ownsRow.alloc HOA.out _
            have HI6 : Hid (w6.heap[bi]? = some (.cells #[.slice va0 CS.length vc0, u] 42 (0, 0))) := keep_rowG hgr hoA (hb_alloc (hb_alloc HI5.out _) _) (by decide)
            have HR6 : Hid (w6.heap[w.heap.size]? = some (.cells #[.slice none 0 0, .slice none 0 0] 42 (0, 0))) := keep_rowG hgr hoA (hb_alloc (hb_alloc HR5.out _) _) (by decide)
            have HFA : PB (w5.alloc (.cells #[.string x, .string y, .slice na ns.length nc] 28)) fb (splitC 59 l) := PB.alloc HF5.out _
            have HFB : PB ((w5.alloc (.cells #[.string x, .string y, .slice na ns.length nc] 28)).alloc (.cells #[.string x, .string y, .slice na ns.length nc] 28)) fb (splitC 59 l) := PB.alloc HFA _
            have HF6 : Hid (PB w6 fb (splitC 59 l)) := PB_keepG hgr hoA (by decide) HFB
            have HC6 : Hid (w6.ownsRow w.heap.size 69 2 (.slice va0 CS.length vc0) CS.length (flat CS)) := row_grownG hgr (World.ownsRow.alloc HCA.out _) hoA (by decide)
            have HRS6 : Hid (IRow.Rows w6 w.heap.size D vs) := (HRA.out.below ((Below.refl _ _).alloc (Nat.le_refl _) (.cells #[.string x, .string y, .slice na ns.length nc] 28))).grown hgr hoA (by decide)
            have HNR6 : Hid (w6.ownsRow w.heap.size 25 2 (.slice na ns.length nc) ns.length (flat ns)) := row_grownG hgr (World.ownsRow.alloc HNA.out _) hoA (by decide)
            have HB6 : Hid (Below w.heap.size w w6) := (HBA.out.alloc (by simp; omega) _).grown hgr (by simp; omega) (fun g hg => (row_own hoA g hg).1)
            have HG6 := hid (row_block hown).2
            have HO6 := hid hown
            have hne : g1' ≠ bi := by
              obtain ⟨cur, hcur⟩ := HG6.out
              exact fun e => heap_ne HI6.out hcur (by decide) e.symm
            have hnf : fb ≠ bi := by
              obtain ⟨cur, hc, -⟩ := HF6.out
              exact fun e => heap_ne HI6.out hc (by decide) e.symm
            have hnr : w.heap.size ≠ bi := by omega
            clear hown hgr hlie HFA HFB hoA
            clear i0 i1 g0 g1
            obtain ⟨i0, i1, g0, g1⟩ := k2 HI6.out
            go_wp2_with fail
            go_roundg ((splitC 59 l).length - 1 - (k + 1))
            case measure => omega
            case rel =>
              refine ⟨k + 1, D ++ [(x, y, ns)], .slice (some ⟨g1', 0, none⟩) (k + 1) cap1, vs ++ [.slice na ns.length nc], _, by omega, by omega, by go_num, ?_, ?_, ?_, row_setG HO6.out HI6.out (by decide) _, (by show IRow.Rows _ _ _ _; exact (HRS6.out.snoc (p := (x, y, ns)) HNR6.out HNW.out).set HI6.out (by decide) _), row_setG HC6.out HI6.out (by decide) _, heap_set HI6.out 1 _, hb_set_ne HR6.out _ _ hnr, HF6.out.set _ hnf, HB6.out.setCell (Nat.le_of_lt hwbi) _⟩
              · show _ = _
                rw [List.length_append, HDK.out]; rfl
              · show ∀ (j : Nat) (p : List UInt8) (x' : II), _ → _ → _ → _
                intro j p x' hj hpj hxj
                by_cases e : j < k
                · rw [List.getElem?_append_left (by have := HDK.out; omega)] at hxj
                  exact HGD.out j p x' e hpj hxj
                · obtain rfl : j = k := by omega
                  rw [HPC.out] at hpj
                  cases hpj
                  rw [List.getElem?_append_right (by have := HDK.out; omega), show j - D.length = 0 by have := HDK.out; omega] at hxj
                  simp at hxj
                  rw [← hxj]; exact HN.out
              · show _ = _
                rw [flatI_snoc D vs _ _ HRS.out.1, HD2.out]
        · have hke : k = (splitC 59 l).length - 1 := by omega
          have HIN : Hid (PWoP.instsL ((splitC 59 l).drop 1) = some D) := insts_mk (by rw [List.length_drop, HDK.out, hke]) (fun j p x hp hx => HGD.out j p x (by have := (List.getElem?_eq_some_iff.1 hx).1; rw [HDK.out] at this; exact this) (by rw [List.getElem?_drop, Nat.add_comm] at hp; exact hp) hx)
          have hsz := world_sizesS HP0.out HLL.out HIN.out
          rw [← HCS.out] at hsz
          obtain ⟨hs0, hs1⟩ := hsz
          have hrow : wr.ownsRow w.heap.size 28 3 u D.length (flatI D vs) := by
            have h := HO.out
            rw [HD2.out, ← HDK.out] at h
            exact h
          obtain ⟨ua, uc, rfl⟩ := row_slice hrow
          have hir : IR wr w.heap.size (.slice ua D.length uc) D := ⟨vs, hrow, HRS.out⟩
          have HIR := hid hir
          have hcap : CS.length ≤ vc0 := row_cap HCR.out
          have HFM := hid (WV.WorldValid_spec va0 ua vc0 uc CS D wr hs0 hs1 hcap (sp_of HCR.out (by omega)) (si_of hir (by omega)))
          clear hrow hir hke HO HGD hq hcap hs0 hs1
          go_wp2_with fail
          refine HFM.out.mono ?_
          rintro e w6 ⟨rfl, hb⟩
          have HB6 : Hid (Below w.heap.size w w6) := HB.out.trans (hb.mono HB.out.size)
          have HR6 := hid (below_heap hb hlr HRR.out)
          have HI6 := hid (below_heap hb hlbi HI.out)
          have HC6 := hid (row_below hb HCR.out)
          have HIR6 := hid (HIR.out.below hb)
          have hlr6 := lt_of_heap HR6.out
          have hlbi6 := lt_of_heap HI6.out
          have hnr : w.heap.size ≠ bi := by omega
          clear hb i0 i1 g0 g1 r0 r1 z0 z1 HFM
          obtain ⟨i0, i1, g0, g1⟩ := k2 HI6.out
          obtain ⟨r0, r1, z0, z1⟩ := k2 HR6.out
          cases hf : WV.wvB CS D with
          | true =>
            have HR : Hid (rW (PWoP.specW l) = (CS, D, true)) := by
              have h := textS HP0.out HIN.out true (by rw [← HCS.out]; exact hf)
              rw [← HCS.out] at h
              exact h
            clear hf
            go_wp2
            refine bodyPost_ret (results_row_tmp rfl _ _ w.heap.size 42 #[.slice va0 CS.length vc0, .slice ua D.length uc] (0, 0) _ rfl (heap_set (heap_set HR6.out 0 _) 1 _) Tryd.underlying42 rfl (by kernel_rfl)) rfl ?_
            exact ⟨.slice va0 CS.length vc0, .slice ua D.length uc, by rw [HR.out]; rfl, by rw [HR.out]; exact row_setG (row_setG HC6.out HR6.out (by decide) _) (heap_set HR6.out 0 _) (by decide) _, by rw [HR.out]; exact IR_sets HIR6.out HR6.out _ _, (HB6.out.setCell (Nat.le_refl _) _).setCell (Nat.le_refl _) _⟩
          | false =>
            have HR : Hid (rW (PWoP.specW l) = ([], [], false)) := textS HP0.out HIN.out false (by rw [← HCS.out]; exact hf)
            clear hf
            go_wp2
            refine bodyPost_ret (results_row_tmp rfl _ _ w.heap.size 42 #[.slice none 0 0, .slice none 0 0] (0, 0) _ rfl (heap_set (heap_set HR6.out 0 _) 1 _) Tryd.underlying42 rfl (by kernel_rfl)) rfl ?_
            exact ⟨.slice none 0 0, .slice none 0 0, by rw [HR.out]; rfl, by rw [HR.out]; exact row_noneC _ _, by rw [HR.out]; exact IR.none _ _, ((HB6.out).setCell (Nat.le_refl _) _).setCell (Nat.le_refl _) _⟩

end PWo
end Go.Proofs.YtbdnhcfebgkpdaaDoor
