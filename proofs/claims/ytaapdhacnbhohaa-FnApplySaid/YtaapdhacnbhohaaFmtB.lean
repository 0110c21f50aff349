/- FormatBindings of both sides. Conditions: the sizes and the number of the bindings, together, are at most 2^20. -/
import Derived.Test.YtaapdhacnbhohaaBindS
import Derived.Test.YtaapdhacnbhohaaJoin
set_option linter.unusedVariables false
set_option linter.unusedSimpArgs false
set_option maxRecDepth 100000
namespace Go.Proofs.Ytaapdhacnbhohaa
open Go.RowKit

theorem infoStr : (Try.prog.info? 9).map (fun i => (i.zero, i.size, i.bytes)) = some (some (.string ⟨#[]⟩), 1, 16) := by kernel_rfl
/-- the text of a binding -/
def bindT (p : BB) : ByteArray := p.1 ++ ⟨#[61]⟩ ++ p.2
def fmtL (xs : List BB) : List UInt8 := Lib.join ((xs.map bindT).map (·.data.toList)) [32]
def fmtB (xs : List BB) : ByteArray := ⟨(fmtL xs).toArray⟩
/-- what FormatBindings returns -/
def fmtR (xs : List BB) : ByteArray := match xs with | [] => ⟨#[45]⟩ | xs => fmtB xs
theorem bindT_len (p : BB) : (bindT p).data.toList.length = p.1.size + p.2.size + 1 := by
  have h : (bindT p).data = p.1.data ++ #[61] ++ p.2.data := by unfold bindT; rw [ByteArray.data_append, ByteArray.data_append]
  rw [h]
  simp only [Array.toList_append, List.length_append, Array.length_toList, List.length_cons, List.length_nil]
  show p.1.size + 1 + p.2.size = _
  omega
theorem fmt_tail : ∀ xs : List BB, (Lib.joinTail [32] ((xs.map bindT).map (·.data.toList))).length = tot xs + 2 * xs.length
  | [] => rfl
  | p :: xs => by
    have h := fmt_tail xs
    simp only [Lib.joinTail, List.map_cons, List.flatten_cons, List.length_append] at h ⊢
    rw [h, bindT_len, show tot (p :: xs) = (p.1.size + p.2.size) + tot xs from rfl]
    simp only [List.length_cons, List.length_nil]; omega
theorem fmtL_len (xs : List BB) : (fmtL xs).length ≤ tot xs + 2 * xs.length := by
  cases xs with
  | nil => simp [fmtL, Lib.join_nil]
  | cons p xs =>
    unfold fmtL
    rw [List.map_cons, List.map_cons, Lib.join_cons, List.length_append, fmt_tail, bindT_len, show tot (p :: xs) = (p.1.size + p.2.size) + tot xs from rfl]
    simp only [List.length_cons]; omega
theorem fmtB_size (xs : List BB) : (fmtB xs).size ≤ tot xs + 2 * xs.length := by
  have := fmtL_len xs
  simpa [fmtB, ByteArray.size] using this
theorem fmtL_cons (p : BB) (xs : List BB) : fmtL (p :: xs) = (bindT p).data.toList ++ Lib.joinTail [32] ((xs.map bindT).map (·.data.toList)) := by
  unfold fmtL
  rw [List.map_cons, List.map_cons, Lib.join_cons]
theorem fmtB_one (p : BB) : (⟨#[]⟩ : ByteArray) ++ p.1 ++ ⟨#[61]⟩ ++ p.2 = fmtB [p] := by
  apply ByteArray.ext
  apply Array.ext'
  simp [fmtB, fmtL_cons, bindT, Lib.joinTail, ByteArray.data_append]
theorem fmtB_snoc (x : BB) (xs : List BB) (p : BB) : fmtB (x :: xs) ++ ⟨#[32]⟩ ++ p.1 ++ ⟨#[61]⟩ ++ p.2 = fmtB (x :: xs ++ [p]) := by
  apply ByteArray.ext
  apply Array.ext'
  rw [List.cons_append]
  simp [fmtB, fmtL_cons, bindT, Lib.joinTail, ByteArray.data_append]
theorem fmtB_ne (p : BB) (xs : List BB) : (fmtB (p :: xs)).toList.isEmpty = false := by
  rw [ByteArray.toList_eq]
  show ((fmtL (p :: xs)).toArray).toList.isEmpty = false
  rw [fmtL_cons]
  have h := bindT_len p
  cases hb : (bindT p).data.toList with
  | nil => rw [hb] at h; simp at h
  | cons a b => simp

theorem FormatBindings_spec (v : Value) (xs : List BB) (w : World) (h0 : tot xs + xs.length ≤ 1048576) (hs : SP w v xs) :
    Calls Try.prog 38 #[v] w fun e w' => e = .returned (.string (fmtR xs)) ∧ Below w.heap.size w w' := by
  rcases hs with ⟨rfl, a, cap, rfl⟩ | ⟨b, off, cap, rfl, hn, hc⟩
  · go_enter Try.func38, Try.ntmps38
    go_wp2
    go_loopw [3, 8] (fun o i wr => o = .string ⟨#[]⟩ ∧ i = .int .i64 0 ∧ Below w.heap.size w wr) (fun _ _ _ => 0)
    case atStart => exact ⟨rfl, rfl, Below.refl _ _⟩
    case round =>
      obtain ⟨rfl, rfl, hb⟩ := hrel
      go_wp2
      go_ret
      exact ⟨rfl, hb⟩
  · go_enter Try.func38, Try.ntmps38
    go_wp2
    go_loopw [3, 8] (fun o i wr => ∃ (k : Nat) (s : ByteArray), k ≤ xs.length ∧ o = .string s ∧ i = .int .i64 k ∧ Hid (s = fmtB (xs.take k)) ∧ s.size ≤ 2097152 ∧ Below w.heap.size w wr) (fun _ i _ => xs.length - (intOf i).toNat)
    case atStart => exact ⟨0, ⟨#[]⟩, Nat.zero_le _, rfl, rfl, rfl, by simp [ByteArray.size], Below.refl _ _⟩
    case round =>
      obtain ⟨k, s, hk, rfl, rfl, hS, hsz, hb⟩ := hrel
      by_cases hlt : k < xs.length
      · obtain ⟨c0, c1, z0, z1⟩ := hc k xs[k] (List.getElem?_eq_getElem hlt)
        have k0 := (hb.cell (lt_of_cell c0)).trans c0
        have k1 := (hb.cell (lt_of_cell c1)).trans c1
        have ht := tot_take xs k xs[k] (List.getElem?_eq_getElem hlt)
        have hle := tot_le xs (k + 1)
        have hts := List.take_succ_eq_append_getElem hlt
        have hfz := fmtB_size (xs.take (k + 1))
        have htl : (xs.take (k + 1)).length = k + 1 := by simp; omega
        have HB := hid hb
        generalize xs[k] = p at *
        obtain ⟨x, y⟩ := p
        have hx : x.size ≤ 1048576 := by simp only at ht; omega
        have hy : y.size ≤ 1048576 := by simp only at ht; omega
        clear hb c0 c1 z0 z1
        by_cases hk0 : k = 0
        · subst hk0
          have hS1 : Hid (s ++ x ++ ⟨#[61]⟩ ++ y = fmtB (xs.take (0 + 1))) := by
            show _ = _
            rw [hts, hS.out]; exact fmtB_one (x, y)
          have hS2 : Hid ((fmtB (xs.take (0 + 1))).size ≤ 2097152) := by show _ ≤ _; omega
          clear ht hle hts hfz htl
          simp only [Nat.zero_mul, Nat.add_zero] at k0 k1
          go_wp2_with fail
          exact ⟨⟨1, _, by omega, rfl, rfl, hS1, by rw [hS1.out]; exact hS2.out, HB.out.alloc HB.out.size _⟩, by simp [intOf]; omega⟩
        · have hS1 : Hid (s ++ ⟨#[32]⟩ ++ x ++ ⟨#[61]⟩ ++ y = fmtB (xs.take (k + 1))) := by
            show _ = _
            rw [hts, hS.out]
            match xs, k, hk0, hlt with
            | q :: xs, k + 1, _, _ => exact fmtB_snoc q (xs.take k) (x, y)
          have hS2 : Hid ((fmtB (xs.take (k + 1))).size ≤ 2097152) := by show _ ≤ _; omega
          clear ht hle hts hfz htl
          go_wp2_with fail
          exact ⟨⟨k + 1, _, by omega, rfl, by go_num, hS1, by rw [hS1.out]; exact hS2.out, HB.out.alloc HB.out.size _⟩, by simp [intOf]; omega⟩
      · obtain rfl : k = xs.length := by omega
        have hS' := hS.out
        rw [List.take_length] at hS'
        clear hS
        by_cases hnil : xs = []
        · have hs0 : s = ⟨#[]⟩ := by rw [hS', hnil]; rfl
          have HR : Hid (fmtR xs = ⟨#[45]⟩) := by show _ = _; rw [hnil]; rfl
          subst hs0
          clear hS' hnil
          go_wp2
          go_ret
          exact ⟨ret_string HR.out.symm, hb⟩
        · have HR : Hid (fmtR xs = s) := by
            show _ = _
            rw [hS']
            cases xs with
            | nil => exact absurd rfl hnil
            | cons q xs => rfl
          have he : s.toList.isEmpty = false := by
            rw [hS']
            cases xs with
            | nil => exact absurd rfl hnil
            | cons q xs => exact fmtB_ne q xs
          clear hS' hnil
          go_wp2
          go_ret
          exact ⟨ret_string HR.out.symm, hb⟩

def pieceV (xs : List BB) : List Value := xs.map fun p => .string (bindT p)

set_option maxHeartbeats 2000000 in
theorem FormatBindings_impl (v : Value) (xs : List BB) (w : World) (h0 : tot xs + xs.length ≤ 1048576) (hs : SP w v xs) :
    Calls Try.prog 37 #[v] w fun e w' => e = .returned (.string (fmtR xs)) ∧ Below w.heap.size w w' := by
  rcases hs with ⟨rfl, a, cap, rfl⟩ | ⟨b, off, cap, rfl, hn, hc⟩
  · go_enter Try.func37, Try.ntmps37
    go_wp2
    go_loopw [3, 9] (fun o i wr => o = .slice (some ⟨w.heap.size, 0, none⟩) 0 0 ∧ i = .int .i64 0 ∧ Below w.heap.size w wr) (fun _ _ _ => 0)
    case atStart => exact ⟨rfl, rfl, (Below.refl _ _).alloc (Nat.le_refl _) _⟩
    case round =>
      obtain ⟨rfl, rfl, hb⟩ := hrel
      go_wp2
      go_ret
      exact ⟨rfl, hb⟩
  · go_enter Try.func37, Try.ntmps37
    go_wp2
    go_loopw [3, 9] (fun o i wr => ∃ k g cp : Nat, k ≤ xs.length ∧ i = .int .i64 k ∧ o = .slice (some ⟨g, 0, none⟩) k cp ∧ wr.ownsRow w.heap.size 9 1 (.slice (some ⟨g, 0, none⟩) k cp) k (pieceV (xs.take k)) ∧ Below w.heap.size w wr) (fun _ i _ => xs.length - (intOf i).toNat)
    case atStart => exact ⟨0, w.heap.size, 0, Nat.zero_le _, rfl, rfl, World.ownsRow_made w #[] 0 (Nat.le_refl _) (by simp [maxLen]) rfl, (Below.refl _ _).alloc (Nat.le_refl _) _⟩
    case round =>
      obtain ⟨k, g, cp, hk, rfl, rfl, hown, hb⟩ := hrel
      by_cases hlt : k < xs.length
      · obtain ⟨c0, c1, z0, z1⟩ := hc k xs[k] (List.getElem?_eq_getElem hlt)
        have k0 := (hb.cell (lt_of_cell c0)).trans c0
        have k1 := (hb.cell (lt_of_cell c1)).trans c1
        have ht := tot_take xs k xs[k] (List.getElem?_eq_getElem hlt)
        have hle := tot_le xs (k + 1)
        have hP : pieceV (xs.take (k + 1)) = pieceV (xs.take k) ++ [.string (bindT xs[k])] := by
          unfold pieceV
          rw [List.take_succ_eq_append_getElem hlt, List.map_append]
          rfl
        have HB := hid hb
        have HO := hid hown
        have HP := hid hP
        have hpl : (pieceV (xs.take k)).length = k := by simp [pieceV]; omega
        generalize xs[k] = p at *
        obtain ⟨x, y⟩ := p
        have hx : x.size ≤ 1048576 := by simp only at ht; omega
        have hy : y.size ≤ 1048576 := by simp only at ht; omega
        generalize pieceV (xs.take k) = xv at *
        have hbs := hb.size
        clear hb hown c0 c1 z0 z1 ht hle hP
        go_wp2_with (first
          | (at_builtin; refine app_push_at 31 9 (.string ⟨#[]⟩) 1 16 Try.underlying31 infoStr rfl (by decide) rfl _ _ rfl w.heap.size _ _ _ rfl (World.ownsRow.alloc (World.ownsRow.alloc HO.out _) _) (wr.heap.size + 1) 1 [.string (x ++ ⟨#[61]⟩ ++ y)] rfl rfl (news_one (heap_cell (hb_new2 _ _ _ _ rfl) 0)) (by simp [Value.oneCell']) (by unfold maxLen; omega) (by omega) (by simp; omega) ?_))
        intro g1 cap1 w1 hown hgr hlie
        simp only [World.size_alloc, Value.ownBlock, Option.some.injEq] at hlie
        have HB1 : Hid (Below w.heap.size w w1) := ((HB.out.alloc hbs _).alloc (by simp; omega) _).grown hgr (by simp; omega) (by have := (row_block HO.out).1; simp [Value.ownBlock]; omega)
        have HO1 := hid hown
        clear hown hgr k0 k1
        go_wp2
        refine ⟨⟨k + 1, g1, cap1, by omega, by go_num, rfl, ?_, HB1.out⟩, by simp [intOf]; omega⟩
        rw [HP.out]
        exact HO1.out
      · obtain rfl : k = xs.length := by omega
        rw [List.take_length] at hown
        by_cases hnil : xs = []
        · subst hnil
          have HB := hid hb
          clear hb hown
          go_wp2
          go_ret
          exact ⟨rfl, HB.out⟩
        · have HB := hid hb
          have HO := hid hown
          have hpos : 0 < xs.length := List.length_pos_iff.2 hnil
          have HR : Hid (fmtR xs = fmtB xs) := by
            show _ = _
            cases xs with
            | nil => exact absurd rfl hnil
            | cons q xs => rfl
          have hfl := fmtL_len xs
          clear hb hown hnil
          go_wp2_with fail
          have hj := Try.strings_Join g 0 cp (xs.map bindT) ⟨#[32]⟩ wr (fun j x hx => by
            have h1 : (pieceV xs)[j]? = some (.string x) := by
              simp only [List.getElem?_map, Option.map_eq_some_iff] at hx
              obtain ⟨c, hc, rfl⟩ := hx
              simp [pieceV, hc]
            have := row_cell HO.out j h1
            simpa using this) (lt_of_heap (row_block HO.out).2.choose_spec) (by simp; omega) (by
              rcases HO.out.2 with ⟨h0, _⟩ | ⟨g', cap', cur, h0, _, _, hle, _⟩
              · simp at h0
              · simp at h0; simp; omega) (by show (fmtL xs).length ≤ _; omega)
          rw [show Lib.join ((xs.map bindT).map (·.data.toList)) (ByteArray.mk #[32]).data.toList = fmtL xs from rfl] at hj
          simp only [List.length_map] at hj
          refine hj.mono ?_
          rintro e w3 ⟨rfl, hb⟩
          have HB3 : Hid (Below w.heap.size w w3) := HB.out.trans (hb.mono HB.out.size)
          clear hb hj
          go_wp2
          go_ret
          exact ⟨by rw [HR.out]; rfl, HB3.out⟩

end Go.Proofs.Ytaapdhacnbhohaa
