/- An argument that is a slice of strings: what it is to hold them, how it is opened, the laws' size and copy of it. Conditions: those typed. -/
import Derived.Test.YtidcfefgpfobaaaRows
import Derived.Test.YtidcfefgpfobaaaListS
import Derived.ProofKit
import Derived.SliceStrings
import Derived.Deep.Strs
import Derived.OpenShut
import Derived.ShutString
set_option linter.unusedVariables false
set_option linter.unusedSimpArgs false
set_option maxRecDepth 100000
namespace Go.Proofs.Ytidcfefgpfobaaa
open Go.RowKit Go.ChangeShapes Go.WideShapes Go.Deep
namespace StrsArg
theorem lt_cell {w : World} {a : Addr} {v : Value} (h : w.cell? a = some v) : a.block < w.heap.size := by
  rcases Nat.lt_or_ge a.block w.heap.size with hlt | hge
  · exact hlt
  · have : w.heap[a.block]? = none := Array.getElem?_eq_none_iff.2 hge
    simp [World.cell?, this] at h
/-- the slice v holds the strings xs -/
def SA (w : World) (v : Value) (xs : List ByteArray) : Prop :=
  (xs = [] ∧ ∃ a cap, v = .slice a 0 cap) ∨ ∃ (b off cap : Nat), v = .slice (some ⟨b, off, none⟩) xs.length cap ∧ xs.length ≤ maxLen ∧
    ∀ (i : Nat) (p : ByteArray), xs[i]? = some p → w.cell? ⟨b, off + i, none⟩ = some (.string p) ∧ p.size ≤ maxLen
theorem SA.below {w w' : World} {v : Value} {xs : List ByteArray} (h : SA w v xs) (hb : Below w.heap.size w w') : SA w' v xs := by
  rcases h with h | ⟨b, off, cap, hv, hn, hc⟩
  · exact .inl h
  · refine .inr ⟨b, off, cap, hv, hn, fun i p hp => ?_⟩
    obtain ⟨h0, h1⟩ := hc i p hp
    exact ⟨(hb.cell (lt_cell h0)).trans h0, h1⟩
/-- the sizes, together -/
def tot (xs : List ByteArray) : Nat := (xs.map fun p => p.size).sum
theorem tot_app (xs ys : List ByteArray) : tot (xs ++ ys) = tot xs + tot ys := by unfold tot; rw [List.map_append, List.sum_append]
theorem tot_take (xs : List ByteArray) (k : Nat) (p : ByteArray) (h : xs[k]? = some p) : tot (xs.take (k + 1)) = tot (xs.take k) + p.size := by
  obtain ⟨hk, rfl⟩ := List.getElem?_eq_some_iff.1 h
  rw [List.take_succ_eq_append_getElem hk, tot_app]
  simp [tot]
theorem tot_le (xs : List ByteArray) (k : Nat) : tot (xs.take k) ≤ tot xs := by
  have h := tot_app (xs.take k) (xs.drop k)
  rw [List.take_append_drop] at h
  omega
theorem tot_mem {xs : List ByteArray} {p : ByteArray} (h : p ∈ xs) : p.size ≤ tot xs := by
  induction xs with
  | nil => simp at h
  | cons q xs ih =>
    have e : tot (q :: xs) = q.size + tot xs := by simp [tot]
    rcases List.mem_cons.1 h with rfl | h
    · omega
    · have := ih h; omega
def szS (xs : List ByteArray) (L : Int) : Int := if (xs.length : Int) + tot xs ≤ L then L - xs.length - tot xs else -1
section
variable {H : Type} {enc : TypeId × Value → H} {P : Program} {w : World} {base : Nat} {spare : Nat → Bool} {held : Bool}
theorem open_sa {r : Reach} {b0 : Nat} {t e : TypeId} {v : Value} {d : DataW H} {p : List MemPlace} (ht : P.underlying t = some (.slice e)) (he : P.underlying e = some .string) (hc : P.cellsOf e = 1)
    (hv : Value.okWide P w r b0 t v) (h : DataW.Trod enc P w base spare held t v d p) : ∃ xs, SA w v xs := by
  obtain ⟨a, len, cap, rfl⟩ := okWide_slice ht hv
  obtain ⟨fuel, hf⟩ := h
  rcases open_strings ht he hc hf with ⟨hcs, hx⟩ | ⟨a, len', cap', ss, hcs, hb, hlc, hm, hmm, hx, hcell, hsz⟩
  · simp [Value.cells] at hcs
    obtain ⟨rfl, rfl, rfl⟩ := hcs
    exact ⟨[], .inl ⟨rfl, _, _, rfl⟩⟩
  · simp [Value.cells] at hcs
    obtain ⟨rfl, rfl, rfl⟩ := hcs
    have hlm : len ≤ ss.length := by rw [hmm]; split <;> omega
    by_cases hl0 : len = 0
    · subst hl0
      exact ⟨[], .inl ⟨rfl, _, _, rfl⟩⟩
    obtain ⟨b, off, spot⟩ := a
    obtain rfl : spot = none := by simpa [Addr.add] using World.cell?_spot (hcell 0 (by omega))
    simp only [add_plain] at hcell
    refine ⟨ss.take len, .inr ⟨b, off, cap, by simp [Nat.min_eq_left hlm], by simp; omega, fun i p hp => ?_⟩⟩
    have hi : i < len := by
      have := (List.getElem?_eq_some_iff.1 hp).1
      simp at this
      omega
    rw [List.getElem?_take_of_lt hi] at hp
    have e1 : ss.getD i ByteArray.empty = p := by simp [List.getD_eq_getElem?_getD, hp]
    exact ⟨by rw [hcell i (by omega), e1], hsz p (List.mem_of_getElem? hp)⟩
end
theorem szStringS_any (v : Value) (xs : List ByteArray) (L : Int) (w : World) (hL : 0 ≤ L) (h0 : L ≤ 1048576) (hs : SA w v xs) :
    Calls Try.prog 38 #[v, .int .i64 L] w fun e w' => e = .returned (.int .i64 (szS xs L)) ∧ w = w' := by
  rcases hs with ⟨rfl, a, cap, rfl⟩ | ⟨b, off, cap, rfl, hn, hc⟩
  · go_enter Try.func38, Try.ntmps38
    go_wp2
    refine wp_loop_rounds 1 ?_
    rw [rounds_succ]
    go_wp2
    go_ret
    exact ⟨ret_int (by simp [szS, tot]; omega), rfl⟩
  · unfold maxLen at hn
    by_cases h1 : (xs.length : Int) ≤ L
    rotate_left
    · go_enter Try.func38, Try.ntmps38
      go_wp2
      go_ret
      refine ⟨ret_int ?_, rfl⟩
      simp only [szS]; rw [if_neg (by omega)]
    · have HC := hid hc
      clear hc
      go_enter Try.func38, Try.ntmps38
      go_wp2
      go_loopg [5, 1] xs.length (fun q i l wr => ∃ k m : Nat, k ≤ xs.length ∧ xs.length - k ≤ q ∧ i = .int .i64 k ∧ Hid (tot (xs.take k) = m) ∧ l = .int .i64 (L - xs.length - m) ∧ (xs.length : Int) + m ≤ L ∧ w = wr)
      case atStart => exact ⟨0, 0, Nat.zero_le _, by simp, rfl, rfl, by simp, by simpa using h1, rfl⟩
      case round =>
        obtain ⟨k, m, hk, hq, rfl, hm, rfl, hle, rfl⟩ := hrel
        by_cases hlt : k < xs.length
        · obtain ⟨c0, z0⟩ := HC.out k xs[k] (List.getElem?_eq_getElem hlt)
          have ht := tot_take xs k xs[k] (List.getElem?_eq_getElem hlt)
          have hle2 := tot_le xs (k + 1)
          unfold maxLen at z0
          generalize xs[k] = x at *
          by_cases hf : (x.size : Int) ≤ L - xs.length - m
          · have hf2 : ¬ (L - xs.length - m - (x.size : Int) < 0) := by omega
            have HT := hid ht
            clear ht hle2
            go_wp2
            go_roundg (gk - 1)
            case measure => omega
            case rel => exact ⟨k + 1, m + x.size, by omega, by omega, by go_num, by show _ = _; rw [HT.out, hm.out], by congr 1; omega, by omega, rfl⟩
          · have hneg : szS xs L = -1 := by
              have h2 := hle2
              rw [ht, hm.out] at h2
              unfold szS
              rw [if_neg (by omega)]
            have HN := hid hneg
            have hf2 : (L - xs.length - m - (x.size : Int) < 0) := by omega
            clear ht hneg hle2
            go_wp2
            go_ret
            exact ⟨ret_int HN.out.symm, rfl⟩
        · obtain rfl : k = xs.length := by omega
          have hm2 := hm.out
          rw [List.take_length] at hm2
          have HN : Hid (szS xs L = L - xs.length - m) := by
            show szS xs L = _
            unfold szS
            rw [hm2, if_pos hle]
          clear hm hm2
          go_wp2
          go_ret
          exact ⟨ret_int HN.out.symm, rfl⟩
theorem toStringS_info : (Try.prog.info? 9).map (fun i => (i.zero, i.size, i.bytes)) = some (some (.string ⟨#[]⟩), 1, 16) := by kernel_rfl
theorem toStringS_make (n : Nat) (h : n ≤ 1048576) (w : World) : (Instr.makeSlice 38 (.int .i64 (n : Int)) (.int .i64 (n : Int))).run Try.prog w = .ok (.slice (some ⟨w.heap.size, 0, none⟩) n n) (w.alloc (.cells (List.replicate n (.string ⟨#[]⟩)).toArray 9)) := by
  obtain ⟨i, hi, hz⟩ := Option.map_eq_some_iff.1 toStringS_info
  simp only [Prod.mk.injEq] at hz
  have hr := run_make (P := Try.prog) w 38 9 i _ Try.underlying38 hi hz.1 .i64 .i64 n n (by omega) (Int.le_refl _) (by rw [hz.2.2]; omega) (by omega)
  rw [hr]
  have e : madeCells #[.string ⟨#[]⟩] n = (List.replicate n (Value.string ⟨#[]⟩)).toArray := by
    apply Array.ext
    · simp [madeCells]
    · intro i h1 h2; simp [madeCells, Nat.mod_one]
  simp [hz.2.1, Value.cells, e]
/-- the cells of a slice that is being filled, behind k rounds -/
def fill (xs : List ByteArray) (k : Nat) : List Value := (xs.take k).map Value.string ++ List.replicate (xs.length - k) (.string ⟨#[]⟩)
theorem fill_zero (xs : List ByteArray) : fill xs 0 = List.replicate xs.length (.string ⟨#[]⟩) := by simp [fill]
theorem fill_all (xs : List ByteArray) : fill xs xs.length = ListS.strs xs := by simp [fill, ListS.strs]
theorem fill_len (xs : List ByteArray) (k : Nat) (h : k ≤ xs.length) : (fill xs k).length = xs.length := by simp [fill]; omega
theorem fill_succ (xs : List ByteArray) (k : Nat) (h : k < xs.length) : (fill xs k).set k (.string xs[k]) = fill xs (k + 1) := by
  have hl : ((xs.take k).map Value.string).length = k := by simp; omega
  unfold fill
  rw [List.take_succ_eq_append_getElem h, show xs.length - k = (xs.length - (k + 1)) + 1 by omega, List.replicate_succ, List.set_append_right _ _ (by omega), hl, Nat.sub_self]
  simp only [List.set_cons_zero, List.map_append, List.map_cons, List.map_nil, List.append_assoc, List.cons_append, List.nil_append]
theorem row_of_heap {w : World} {g base : Nat} {xs : List ByteArray} (h : w.heap[g]? = some (.cells (ListS.strs xs).toArray 9 (0, 0))) (hb : base ≤ g) (hn : xs.length ≤ maxLen) : w.ownsRow base 9 1 (.slice (some ⟨g, 0, none⟩) xs.length xs.length) xs.length (ListS.strs xs) := by
  refine ⟨by simp [ListS.strs], .inr ⟨g, xs.length, (ListS.strs xs).toArray, rfl, hb, h, Nat.le_refl _, hn, by simp [ListS.strs], by simp [ListS.strs]; exact List.take_of_length_le (by simp)⟩⟩
set_option maxHeartbeats 1000000 in
theorem toStringS_any (v : Value) (xs : List ByteArray) (w : World) (h0 : xs.length ≤ 1048576) (hs : SA w v xs) :
    Calls Try.prog 40 #[v] w (ListS.LPost w xs) := by
  rcases hs with ⟨rfl, a, cap, rfl⟩ | ⟨b, off, cap, rfl, hn, hc⟩
  · have hmk : (Instr.makeSlice 38 (.int .i64 0) (.int .i64 0)).run Try.prog w = .ok (.slice (some ⟨w.heap.size, 0, none⟩) 0 0) (w.alloc (.cells #[] 9)) := toStringS_make 0 (by omega) w
    go_enter Try.func40, Try.ntmps40
    go_wp2
    refine wp_loop_rounds 1 ?_
    rw [rounds_succ]
    go_wp2
    go_ret
    exact ⟨w.heap.size, 0, rfl, row_of_heap (xs := []) (heap_alloc_new _ _) (Nat.le_refl _) (by simp), (Below.refl _ _).alloc (Nat.le_refl _) _⟩
  · have HC := hid hc
    clear hc
    go_enter Try.func40, Try.ntmps40
    go_wp2
    rw [toStringS_make xs.length h0]
    go_wp2
    go_loopg [4] xs.length (fun q i wr => ∃ k : Nat, k ≤ xs.length ∧ xs.length - k ≤ q ∧ i = .int .i64 k ∧ wr.heap[w.heap.size]? = some (.cells (fill xs k).toArray 9 (0, 0)) ∧ Below w.heap.size w wr)
    case atStart => exact ⟨0, Nat.zero_le _, by simp, rfl, by rw [fill_zero]; exact heap_alloc_new _ _, (Below.refl _ _).alloc (Nat.le_refl _) _⟩
    case round =>
      obtain ⟨k, hk, hq, rfl, hh, hb⟩ := hrel
      by_cases hlt : k < xs.length
      · obtain ⟨c0, z0⟩ := HC.out k xs[k] (List.getElem?_eq_getElem hlt)
        have k0 := (hb.cell (lt_cell c0)).trans c0
        have hfs := fill_succ xs k hlt
        have hfl := fill_len xs k hk
        generalize fill xs k = ys at *
        have hlt2 := lt_of_heap hh
        have HB := hid hb
        have HH := hid hh
        have HFS := hid hfs
        have m0 : wr.cell? ⟨w.heap.size, k, none⟩ = some (ys[k]'(by omega)) := by rw [heap_cell hh]; simp [hfl, hlt]
        have f0 := heap_free hh k
        generalize xs[k] = x at *
        clear hb c0 hh hfs
        go_wp2_with fail
        go_roundg (gk - 1)
        case measure => omega
        case rel =>
          refine ⟨k + 1, by omega, by omega, by go_num, ?_, HB.out.setCell (Nat.le_refl _) _⟩
          rw [heap_set HH.out k (.string x), ← HFS.out]
          simp
      · obtain rfl : k = xs.length := by omega
        rw [fill_all] at hh
        have HH := hid hh
        clear hh
        go_wp2
        go_ret
        exact ⟨w.heap.size, xs.length, rfl, row_of_heap HH.out (Nat.le_refl _) hn, hb⟩
end StrsArg
end Go.Proofs.Ytidcfefgpfobaaa
