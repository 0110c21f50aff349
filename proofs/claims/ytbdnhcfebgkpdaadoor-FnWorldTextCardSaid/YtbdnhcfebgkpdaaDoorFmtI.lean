/- FormatInstance of both sides. Conditions: the sizes and the number of the needs, together with the head's, are at most 2^20. -/
import Derived.Test.YtbdnhcfebgkpdaaDoorInst
import Derived.Lib.Join
import Derived.Test.YtbdnhcfebgkpdaaDoorJoin
set_option linter.unusedVariables false
set_option linter.unusedSimpArgs false
set_option maxRecDepth 100000
namespace Go.Proofs.YtbdnhcfebgkpdaaDoor.FmtI
open Go.RowKit

theorem infoStr : (Tryd.prog.info? 9).map (fun i => (i.zero, i.size, i.bytes)) = some (some (.string ⟨#[]⟩), 1, 16) := by kernel_rfl
def needT (p : BB) : ByteArray := needText p.1 p.2
def fmtL (xs : List BB) : List UInt8 := Lib.join ((xs.map needT).map (·.data.toList)) [38]
/-- what FormatInstance returns -/
def fmtI (a b : ByteArray) (xs : List BB) : ByteArray := match xs with | [] => needText a b | xs => needText a b ++ ⟨#[58]⟩ ++ ⟨(fmtL xs).toArray⟩
theorem needT_data (p : BB) : (needT p).data = p.1.data ++ #[32] ++ p.2.data := by unfold needT needText; rw [ByteArray.data_append, ByteArray.data_append]
theorem needT_len (p : BB) : (needT p).data.toList.length = p.1.size + p.2.size + 1 := by
  rw [needT_data]
  simp only [Array.toList_append, List.length_append, Array.length_toList, List.length_cons, List.length_nil]
  show p.1.size + 1 + p.2.size = _
  omega
theorem fmt_tail : ∀ xs : List BB, (Lib.joinTail [38] ((xs.map needT).map (·.data.toList))).length = tot xs + 2 * xs.length
  | [] => rfl
  | p :: xs => by
    have h := fmt_tail xs
    simp only [Lib.joinTail, List.map_cons, List.flatten_cons, List.length_append] at h ⊢
    rw [h, needT_len, show tot (p :: xs) = (p.1.size + p.2.size) + tot xs from rfl]
    simp only [List.length_cons, List.length_nil]; omega
theorem fmtL_cons (p : BB) (xs : List BB) : fmtL (p :: xs) = (needT p).data.toList ++ Lib.joinTail [38] ((xs.map needT).map (·.data.toList)) := by
  unfold fmtL
  rw [List.map_cons, List.map_cons, Lib.join_cons]
theorem fmtL_len (xs : List BB) : (fmtL xs).length ≤ tot xs + 2 * xs.length := by
  cases xs with
  | nil => simp [fmtL, Lib.join_nil]
  | cons p xs =>
    rw [fmtL_cons, List.length_append, fmt_tail, needT_len, show tot (p :: xs) = (p.1.size + p.2.size) + tot xs from rfl]
    simp only [List.length_cons]; omega
theorem needText_size (a b : ByteArray) : (needText a b).size = a.size + b.size + 1 := by
  have h := needT_len (a, b)
  rw [Array.length_toList] at h
  exact h
theorem fmtI_size (a b : ByteArray) (xs : List BB) : (fmtI a b xs).size ≤ a.size + b.size + 2 + tot xs + 2 * xs.length := by
  have h := fmtL_len xs
  have h2 := needText_size a b
  cases xs with
  | nil => show (needText a b).size ≤ _; omega
  | cons p xs =>
    show (needText a b ++ ⟨#[58]⟩ ++ ⟨(fmtL (p :: xs)).toArray⟩).size ≤ _
    rw [ByteArray.size_append, ByteArray.size_append, h2, show (ByteArray.mk #[58]).size = 1 from rfl, show (ByteArray.mk (fmtL (p :: xs)).toArray).size = (fmtL (p :: xs)).length from by simp [ByteArray.size]]
    omega
theorem fmtI_one (a b : ByteArray) (p : BB) : needText a b ++ ⟨#[58]⟩ ++ needText p.1 p.2 = fmtI a b [p] := by
  apply ByteArray.ext
  apply Array.ext'
  show _ = (needText a b ++ ⟨#[58]⟩ ++ ⟨(fmtL [p]).toArray⟩).data.toList
  rw [fmtL_cons]
  simp [Lib.joinTail, ByteArray.data_append, needT]
theorem fmtI_snoc (a b : ByteArray) (x : BB) (xs : List BB) (p : BB) : fmtI a b (x :: xs) ++ ⟨#[38]⟩ ++ needText p.1 p.2 = fmtI a b (x :: xs ++ [p]) := by
  apply ByteArray.ext
  apply Array.ext'
  show (needText a b ++ ⟨#[58]⟩ ++ ⟨(fmtL (x :: xs)).toArray⟩ ++ ⟨#[38]⟩ ++ needText p.1 p.2).data.toList = (needText a b ++ ⟨#[58]⟩ ++ ⟨(fmtL (x :: xs ++ [p])).toArray⟩).data.toList
  rw [List.cons_append, fmtL_cons, fmtL_cons]
  simp [Lib.joinTail, ByteArray.data_append, needT]

theorem FormatInstance_spec (a b : ByteArray) (v : Value) (xs : List BB) (w : World) (h0 : a.size + b.size + tot xs + xs.length ≤ 1048576) (hs : SP w v xs) :
    Calls Tryd.prog 14 #[.agg #[.string a, .string b, v]] w fun e w' => e = .returned (.string (fmtI a b xs)) ∧ Below w.heap.size w w' := by
  obtain ⟨g, c, rfl⟩ : ∃ g c, v = .slice g xs.length c := by
    rcases hs with ⟨rfl, a, cap, rfl⟩ | ⟨b, off, cap, rfl, hn, hc⟩ <;> exact ⟨_, _, rfl⟩
  go_enter Tryd.func14, Tryd.ntmps14
  go_wp2_with fail
  refine (FormatNeed_spec a b _ (by omega)).mono ?_
  rintro e w1 ⟨rfl, hb⟩
  have x0 := below_heap hb (by simp) (heap_alloc_new w _)
  have k02 : w1.cell? ⟨w.heap.size, 2, none⟩ = some (.slice g xs.length c) := heap_cell x0 2
  have HB1 : Hid (Below w.heap.size w w1) := ((Below.refl _ _).alloc (Nat.le_refl _) _).trans (hb.mono (by simp))
  have hz := hb.size
  simp only [World.size_alloc] at hz
  clear hb x0
  go_wp2
  have hnt := needText_size a b
  go_loopw [3, 12] (fun o i wr => ∃ (k : Nat) (s : ByteArray), k ≤ xs.length ∧ o = .string s ∧ i = .int .i64 k ∧ Hid (s = fmtI a b (xs.take k)) ∧ s.size ≤ 4194304 ∧ Below w.heap.size w wr) (fun _ i _ => xs.length - (intOf i).toNat)
  case atStart => exact ⟨0, needText a b, Nat.zero_le _, rfl, rfl, rfl, by omega, HB1.out⟩
  case round =>
    obtain ⟨k, s, hk, rfl, rfl, hS, hsz, hb⟩ := hrel
    by_cases hlt : k < xs.length
    · rcases hs with ⟨rfl, _⟩ | ⟨bk, off, cap, he, hn, hc⟩
      · simp at hlt
      simp only [Value.slice.injEq] at he
      obtain ⟨rfl, -, rfl⟩ := he
      obtain ⟨c0, c1, z0, z1⟩ := hc k xs[k] (List.getElem?_eq_getElem hlt)
      have k0 := (hb.cell (lt_of_cell c0)).trans c0
      have k1 := (hb.cell (lt_of_cell c1)).trans c1
      have ht := tot_take xs k xs[k] (List.getElem?_eq_getElem hlt)
      have hle := tot_le xs (k + 1)
      have hts := List.take_succ_eq_append_getElem hlt
      have hfz := fmtI_size a b (xs.take (k + 1))
      have htl : (xs.take (k + 1)).length = k + 1 := by simp; omega
      have HB := hid hb
      generalize xs[k] = p at *
      obtain ⟨x, y⟩ := p
      have hx : x.size + y.size ≤ 1048576 := by simp only at ht; omega
      clear hb c0 c1 z0 z1 hc k02 hz
      by_cases hk0 : k = 0
      · subst hk0
        have hS1 : Hid (s ++ ⟨#[58]⟩ ++ needText x y = fmtI a b (xs.take (0 + 1))) := by
          show _ = _
          rw [hts, hS.out]; exact fmtI_one a b (x, y)
        have hS2 : Hid ((fmtI a b (xs.take (0 + 1))).size ≤ 4194304) := by show _ ≤ _; omega
        clear ht hle hts hfz htl
        simp only [Nat.zero_mul, Nat.add_zero] at k0 k1
        go_wp2_with fail
        refine (FormatNeed_spec x y _ (by omega)).mono ?_
        rintro e w2 ⟨rfl, hb⟩
        have HB2 : Hid (Below w.heap.size w w2) := (HB.out.alloc HB.out.size _).trans (hb.mono (by simp; have := HB.out.size; omega))
        have hns := needText_size x y
        clear hb k0 k1
        go_wp2
        exact ⟨⟨1, _, by omega, rfl, rfl, hS1, by rw [hS1.out]; exact hS2.out, HB2.out⟩, by simp [intOf]; omega⟩
      · have hS1 : Hid (s ++ ⟨#[38]⟩ ++ needText x y = fmtI a b (xs.take (k + 1))) := by
          show _ = _
          rw [hts, hS.out]
          match xs, k, hk0, hlt with
          | q :: xs, k + 1, _, _ => exact fmtI_snoc a b q (xs.take k) (x, y)
        have hS2 : Hid ((fmtI a b (xs.take (k + 1))).size ≤ 4194304) := by show _ ≤ _; omega
        clear ht hle hts hfz htl
        have hk1 : ((k : Int) == 0) = false := by rw [beq_eq_false_iff_ne]; omega
        go_wp2_with fail
        refine (FormatNeed_spec x y _ (by omega)).mono ?_
        rintro e w2 ⟨rfl, hb⟩
        have HB2 : Hid (Below w.heap.size w w2) := (HB.out.alloc HB.out.size _).trans (hb.mono (by simp; have := HB.out.size; omega))
        have hns := needText_size x y
        clear hb k0 k1
        go_wp2
        exact ⟨⟨k + 1, _, by omega, rfl, by go_num, hS1, by rw [hS1.out]; exact hS2.out, HB2.out⟩, by simp [intOf]; omega⟩
    · obtain rfl : k = xs.length := by omega
      have hS' := hS.out
      rw [List.take_length] at hS'
      have HS := hid hS'
      clear hS hS' hs k02 hz
      go_wp2
      go_ret
      exact ⟨ret_string HS.out, hb⟩

def pieceV (xs : List BB) : List Value := xs.map fun p => .string (needT p)

set_option maxHeartbeats 2000000 in
theorem FormatInstance_impl (a b : ByteArray) (v : Value) (xs : List BB) (w : World) (h0 : a.size + b.size + tot xs + xs.length ≤ 1048576) (hs : SP w v xs) :
    Calls Tryd.prog 13 #[.agg #[.string a, .string b, v]] w fun e w' => e = .returned (.string (fmtI a b xs)) ∧ Below w.heap.size w w' := by
  obtain ⟨gv, c, rfl⟩ : ∃ g c, v = .slice g xs.length c := by
    rcases hs with ⟨rfl, a, cap, rfl⟩ | ⟨b, off, cap, rfl, hn, hc⟩ <;> exact ⟨_, _, rfl⟩
  go_enter Tryd.func13, Tryd.ntmps13
  go_wp2
  go_loopw [3, 10] (fun o i wr => ∃ k g cp : Nat, k ≤ xs.length ∧ i = .int .i64 k ∧ o = .slice (some ⟨g, 0, none⟩) k cp ∧ wr.ownsRow (w.heap.size + 1) 9 1 (.slice (some ⟨g, 0, none⟩) k cp) k (pieceV (xs.take k)) ∧ wr.heap[w.heap.size]? = some (.cells #[.string a, .string b, .slice gv xs.length c] 28 (0, 0)) ∧ Below w.heap.size w wr ∧ w.heap.size + 1 ≤ wr.heap.size) (fun _ i _ => xs.length - (intOf i).toNat)
  case atStart =>
    refine ⟨0, w.heap.size + 1, 0, Nat.zero_le _, rfl, rfl, ?_, hb_alloc (heap_alloc_new w _) _, ((Below.refl _ _).alloc (Nat.le_refl _) _).alloc (by simp) _, by simp⟩
    have := World.ownsRow_made (base := w.heap.size + 1) (e := 9) (size := 1) (w.alloc (.cells #[.string a, .string b, .slice gv xs.length c] 28)) #[] 0 (by simp) (by simp [maxLen]) rfl
    simpa [pieceV] using this
  case round =>
    obtain ⟨k, g, cp, hk, rfl, rfl, hown, hx0, hb, hsz⟩ := hrel
    by_cases hlt : k < xs.length
    · rcases hs with ⟨rfl, _⟩ | ⟨bk, off, cap, he, hn, hc⟩
      · simp at hlt
      simp only [Value.slice.injEq] at he
      obtain ⟨rfl, -, rfl⟩ := he
      obtain ⟨c0, c1, z0, z1⟩ := hc k xs[k] (List.getElem?_eq_getElem hlt)
      have k0 := (hb.cell (lt_of_cell c0)).trans c0
      have k1 := (hb.cell (lt_of_cell c1)).trans c1
      have ht := tot_take xs k xs[k] (List.getElem?_eq_getElem hlt)
      have hle := tot_le xs (k + 1)
      have hP : pieceV (xs.take (k + 1)) = pieceV (xs.take k) ++ [.string (needT xs[k])] := by
        unfold pieceV
        rw [List.take_succ_eq_append_getElem hlt, List.map_append]
        rfl
      have HB := hid hb
      have HO := hid hown
      have HP := hid hP
      have HX := hid hx0
      have hpl : (pieceV (xs.take k)).length = k := by simp [pieceV]; omega
      generalize xs[k] = p at *
      obtain ⟨x, y⟩ := p
      have hx : x.size + y.size ≤ 1048576 := by simp only at ht; omega
      generalize pieceV (xs.take k) = xv at *
      clear hb hown c0 c1 z0 z1 ht hle hP hx0 hc
      go_wp2_with fail
      refine (FormatNeed_impl x y _ (by omega)).mono ?_
      rintro e w1 ⟨rfl, hb⟩
      have hz1 := hb.size
      simp only [World.size_alloc] at hz1
      have HB1 : Hid (Below w.heap.size w w1) := (HB.out.alloc HB.out.size _).trans (hb.mono (by simp; omega))
      have HO1 : Hid (w1.ownsRow (w.heap.size + 1) 9 1 (.slice (some ⟨g, 0, none⟩) k cp) k xv) := (keeps_of hb _).row (HO.out.alloc _)
      have HX1 := hid (below_heap hb (by simp; omega) (hb_alloc HX.out _))
      clear hb k0 k1
      go_wp2_with (first
        | (at_builtin; refine app_push_at 55 9 (.string ⟨#[]⟩) 1 16 Tryd.underlying55 infoStr rfl (by decide) rfl _ _ rfl (w.heap.size + 1) _ _ _ rfl (World.ownsRow.alloc HO1.out _) w1.heap.size 1 [.string (needText x y)] rfl rfl (news_one (heap_cell (heap_alloc_new _ _) 0)) (by simp [Value.oneCell']) (by unfold maxLen; omega) (by omega) (by simp; omega) ?_))
      intro g1 cap1 w2 hown hgr hlie
      simp only [World.size_alloc, Value.ownBlock, Option.some.injEq] at hlie
      have hg0 := (row_block HO1.out).1
      have HB2 : Hid (Below w.heap.size w w2) := (HB1.out.alloc (by omega) _).grown hgr (by simp; omega) (by simp [Value.ownBlock]; omega)
      have HX2 := hid (grown_keep hgr (hb_alloc HX1.out _) (by simp [Value.ownBlock]; omega))
      have hgz := hgr.size
      simp only [World.size_alloc] at hgz
      have HO2 := hid hown
      clear hown hgr
      go_wp2
      refine ⟨⟨k + 1, g1, cap1, by omega, by go_num, rfl, ?_, HX2.out, HB2.out, by omega⟩, by simp [intOf]; omega⟩
      rw [HP.out]
      exact HO2.out
    · obtain rfl : k = xs.length := by omega
      rw [List.take_length] at hown
      have k0 : wr.cell? ⟨w.heap.size, 0, none⟩ = some (.string a) := heap_cell hx0 0
      have k1 : wr.cell? ⟨w.heap.size, 1, none⟩ = some (.string b) := heap_cell hx0 1
      have hlt0 : w.heap.size < wr.heap.size := by omega
      have hnt := needText_size a b
      by_cases hnil : xs = []
      · have hR : Hid (fmtI a b xs = needText a b) := by show _ = _; rw [hnil]; rfl
        have hl : xs.length = 0 := by rw [hnil]; rfl
        have HB := hid hb
        clear hb hown hnil hs hx0
        rw [hl]
        go_wp2_with fail
        refine (FormatNeed_impl a b _ (by omega)).mono ?_
        rintro e w1 ⟨rfl, hb⟩
        have HB1 : Hid (Below w.heap.size w w1) := HB.out.trans (hb.mono (by omega))
        clear hb
        go_wp2
        go_ret
        exact ⟨ret_string hR.out.symm, HB1.out⟩
      · have hR : Hid (fmtI a b xs = needText a b ++ ⟨#[58]⟩ ++ ⟨(fmtL xs).toArray⟩) := by
          show _ = _
          cases xs with
          | nil => exact absurd rfl hnil
          | cons q xs => rfl
        have hpos : 0 < xs.length := List.length_pos_iff.2 hnil
        have hfl := fmtL_len xs
        have HB := hid hb
        have HO := hid hown
        clear hb hown hnil hs hx0
        go_wp2_with fail
        refine (FormatNeed_impl a b _ (by omega)).mono ?_
        rintro e w1 ⟨rfl, hb⟩
        have HB1 : Hid (Below w.heap.size w w1) := HB.out.trans (hb.mono (by omega))
        have HO1 : Hid (w1.ownsRow (w.heap.size + 1) 9 1 (.slice (some ⟨g, 0, none⟩) xs.length cp) xs.length (pieceV xs)) := (keeps_of hb _).row HO.out
        clear hb k0 k1
        go_wp2_with fail
        have hj := Tryd.strings_Join g 0 cp (xs.map needT) ⟨#[38]⟩ w1 (fun j x hx => by
          have h1 : (pieceV xs)[j]? = some (.string x) := by
            simp only [List.getElem?_map, Option.map_eq_some_iff] at hx
            obtain ⟨c, hc, rfl⟩ := hx
            simp [pieceV, hc]
          have := row_cell HO1.out j h1
          simpa using this) (lt_of_heap (row_block HO1.out).2.choose_spec) (by simp; omega) (by
            rcases HO1.out.2 with ⟨h0, _⟩ | ⟨g', cap', cur, h0, _, _, hle, _⟩
            · simp at h0
            · simp at h0; simp; omega) (by show (fmtL xs).length ≤ _; omega)
        rw [show Lib.join ((xs.map needT).map (·.data.toList)) (ByteArray.mk #[38]).data.toList = fmtL xs from rfl] at hj
        simp only [List.length_map] at hj
        refine hj.mono ?_
        rintro e w3 ⟨rfl, hb⟩
        have HB3 : Hid (Below w.heap.size w w3) := HB1.out.trans (hb.mono HB1.out.size)
        have hfs : (ByteArray.mk (fmtL xs).toArray).size = (fmtL xs).length := by simp [ByteArray.size]
        clear hb hj
        go_wp2
        go_ret
        exact ⟨ret_string hR.out.symm, HB3.out⟩

end Go.Proofs.YtbdnhcfebgkpdaaDoor.FmtI
