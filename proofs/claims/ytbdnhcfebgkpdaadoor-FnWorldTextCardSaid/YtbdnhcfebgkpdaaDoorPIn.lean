/- ParseInstance of both sides. Conditions: the text is at most 2^20 bytes long; a variable of the library holds a number. -/
import Derived.Test.YtbdnhcfebgkpdaaDoorCutS
import Derived.Test.YtbdnhcfebgkpdaaDoorPInP
import Derived.Test.YtbdnhcfebgkpdaaDoorIV
import Derived.Test.YtbdnhcfebgkpdaaDoorJoin
set_option linter.unusedVariables false
set_option linter.unusedSimpArgs false
set_option maxRecDepth 100000
namespace Go.Proofs.YtbdnhcfebgkpdaaDoor
open Go.RowKit Ty SplP ListS CutS PInP Classes
namespace PIn
/-- strings.Split at one byte -/
theorem splitB_C (l : List UInt8) (c : UInt8) : (Lib.splitB ⟨#[c]⟩ 0 (Lib.countB ⟨l.toArray⟩ ⟨#[c]⟩) ⟨l.toArray⟩).map Value.string = pieces (splitC c l) := by
  have h1 := Lib.splitB_data ⟨#[c]⟩ 0 (Lib.countB ⟨l.toArray⟩ ⟨#[c]⟩) ⟨l.toArray⟩
  have h2 : Lib.countB ⟨l.toArray⟩ ⟨#[c]⟩ = l.count c := Lib.count_one c l
  rw [h2] at h1 ⊢
  have h3 : Lib.splitK [c] 0 (l.count c) l = splitC c l := splitK_C c l.length l (Nat.le_refl _)
  rw [show ((ByteArray.mk #[c]).data.toList) = [c] from rfl, show ((ByteArray.mk l.toArray).data.toList) = l from rfl, h3] at h1
  unfold pieces
  rw [← h1, List.map_map]
  apply List.map_congr_left
  intro x hx
  rfl
theorem countB_C (l : List UInt8) (c : UInt8) : Lib.countB ⟨l.toArray⟩ ⟨#[c]⟩ + 1 = (splitC c l).length := by
  rw [splitC_len]
  have h2 : Lib.countB ⟨l.toArray⟩ ⟨#[c]⟩ = l.count c := Lib.count_one c l
  omega
def SpPost (w : World) (ps : List (List UInt8)) (e : Ending) (w' : World) : Prop := ∃ g, e = .returned (.slice (some ⟨g, 0, none⟩) ps.length ps.length) ∧ w'.heap[g]? = some (.cells (pieces ps).toArray 9 (0, 0)) ∧ w.heap.size ≤ g ∧ Below w.heap.size w w'
theorem split_any (l : List UInt8) (c : UInt8) (w : World) (hl : l.length ≤ 1048576) (hm : ∃ m, w.cell? ⟨0, 0, none⟩ = some (.int .i64 m)) :
    Calls Tryd.prog 33 #[.string ⟨l.toArray⟩, .string ⟨#[c]⟩] w (SpPost w (splitC c l)) := by
  obtain ⟨m, hm⟩ := hm
  refine (Tryd.strings_Split ⟨l.toArray⟩ ⟨#[c]⟩ m w (by simp [ByteArray.size]; omega) hm (by simp [ByteArray.size])).mono ?_
  rintro e w' ⟨rfl, rfl⟩
  refine ⟨w.heap.size, ?_, ?_, Nat.le_refl _, (Below.refl _ _).alloc (Nat.le_refl _) _⟩
  · rw [countB_C]
  · rw [splitB_C]; exact heap_alloc_new _ _
theorem hm_below {w w' : World} (h : ∃ m, w.cell? ⟨0, 0, none⟩ = some (.int .i64 m)) (hb : Below w.heap.size w w') : ∃ m, w'.cell? ⟨0, 0, none⟩ = some (.int .i64 m) := by
  obtain ⟨m, hm⟩ := h
  exact ⟨m, (hb.cell (lt_of_cell hm)).trans hm⟩
theorem infoNeed : (Tryd.prog.info? 25).map (fun i => (i.zero, i.size, i.bytes)) = some (some (.agg #[.string ⟨#[]⟩, .string ⟨#[]⟩]), 2, 32) := by kernel_rfl
/-- what ParseInstance returns -/
def rI (l : List UInt8) : BB × List BB × Bool := match instL l with | some (n, ns) => (n, ns, true) | none => ((⟨#[]⟩, ⟨#[]⟩), [], false)
def PIPost (w : World) (r : BB × List BB × Bool) (e : Ending) (w' : World) : Prop := ∃ v, e = .returned (.tuple #[.agg #[.string r.1.1, .string r.1.2, v], .bool r.2.2]) ∧ w'.ownsRow w.heap.size 25 2 v r.2.1.length (flat r.2.1) ∧ Below w.heap.size w w'
theorem rI_none {l : List UInt8} (h : instL l = none) : rI l = ((⟨#[]⟩, ⟨#[]⟩), [], false) := by unfold rI; rw [h]
theorem rI_some {l : List UInt8} {n : BB} {ns : List BB} (h : instL l = some (n, ns)) : rI l = (n, ns, true) := by unfold rI; rw [h]
theorem need_no {l : List UInt8} (h : needB l = none) : need l = none := by unfold needB at h; simpa using h
theorem need_yes {l : List UInt8} {p : BB} (h : needB l = some p) : ∃ c t, need l = some (c, t) ∧ p = (⟨#[c]⟩, ⟨t.toArray⟩) := by
  unfold needB at h
  obtain ⟨⟨c, t⟩, h1, h2⟩ := Option.map_eq_some_iff.1 h
  exact ⟨c, t, h1, h2.symm⟩
/-- ParseNeed, in these words -/
def NB (w : World) (o : Option BB) (e : Ending) (w' : World) : Prop := e = .returned (match o with | some p => .tuple #[.agg #[.string p.1, .string p.2], .bool true] | none => .tuple #[.agg #[.string ⟨#[]⟩, .string ⟨#[]⟩], .bool false]) ∧ Below w.heap.size w w'
theorem nb_of {w : World} {l : List UInt8} {e : Ending} {w' : World} (h : NeedPost w l e w') : NB w (needB l) e w' := by
  obtain ⟨h1, h2⟩ := h
  refine ⟨?_, h2⟩
  rw [h1]
  cases hn : needB l with
  | none => rw [need_no hn]
  | some p => obtain ⟨c, t, h3, rfl⟩ := need_yes hn; rw [h3]
theorem PN_impl (l : List UInt8) (w : World) (hl : l.length ≤ 2147483648) : Calls Tryd.prog 9 #[.string ⟨l.toArray⟩] w (NB w (needB l)) := (ParseNeed_impl l w hl).mono fun _ _ h => nb_of h
theorem PN_spec (l : List UInt8) (w : World) (hl : l.length ≤ 2147483648) : Calls Tryd.prog 10 #[.string ⟨l.toArray⟩] w (NB w (needB l)) := (ParseNeed_spec l w hl).mono fun _ _ h => nb_of h
theorem keep_row {w w' : World} {base n : Nat} {v : Value} {xs : List Value} (hg : w.grownBy w' v.ownBlock) (ho : w.ownsRow base 25 2 v n xs) {k : Nat} {cs : Array Value} {e : TypeId} {fr : Nat × Nat} (h : w.heap[k]? = some (.cells cs e fr)) (hne : e ≠ 25) : w'.heap[k]? = some (.cells cs e fr) := by
  refine grown_keep hg h fun hk => ?_
  rcases ho.2 with ⟨rfl, _⟩ | ⟨g, cap, cur, rfl, hb, hgg, rest⟩
  · simp [Value.ownBlock] at hk
  · simp [Value.ownBlock] at hk
    subst hk
    rw [h] at hgg
    cases hgg
    exact hne rfl
theorem row_base {w : World} {base n : Nat} {v : Value} {xs : List Value} (ho : w.ownsRow base 25 2 v n xs) : ∀ g, v.ownBlock = some g → base ≤ g := fun g h => (row_own ho g h).1
theorem pieces_at {ps : List (List UInt8)} {k : Nat} {p : List UInt8} (h : ps[k]? = some p) : (pieces ps)[k]? = some (.string ⟨p.toArray⟩) := by unfold pieces; rw [List.getElem?_map, h]; rfl
theorem piece_len {c : UInt8} {l : List UInt8} {k : Nat} {p : List UInt8} (h : (splitC c l)[k]? = some p) : p.length ≤ l.length := by
  have hj := splitC_join c l
  obtain ⟨hk, hg⟩ := List.getElem?_eq_some_iff.1 h
  have key : ∀ (ps : List (List UInt8)) (j : Nat) (hj : j < ps.length), ps[j].length ≤ (Lib.join ps [c]).length := by
    intro ps
    cases ps with
    | nil => intro j hj; simp at hj
    | cons q qs =>
      intro j hj
      rw [Lib.join_cons, List.length_append]
      cases j with
      | zero => simp
      | succ j =>
        have : ∀ (r : List (List UInt8)) (j : Nat) (hj : j < r.length), r[j].length ≤ (Lib.joinTail [c] r).length := by
          intro r
          induction r with
          | nil => intro j hj; simp at hj
          | cons a r ih =>
            intro j hj
            simp only [Lib.joinTail, List.map_cons, List.flatten_cons, List.length_append]
            cases j with
            | zero => simp; omega
            | succ j =>
              have := ih j (by simpa using hj)
              simp only [Lib.joinTail] at this
              simp only [List.getElem_cons_succ]
              omega
        have h2 := this qs j (by simpa using hj)
        simp only [List.getElem_cons_succ]
        omega
  have := key _ k hk
  rw [hj, hg] at this
  exact this
theorem flat_app (xs : List BB) (p : BB) : flat (xs ++ [p]) = flat xs ++ [.string p.1, .string p.2] := by
  induction xs with
  | nil => rfl
  | cons q r ih => simp [flat, ih]
theorem k3 {w : World} {b : Nat} {x y z : Value} {e : TypeId} (h : w.heap[b]? = some (.cells #[x, y, z] e (0, 0))) : w.cell? ⟨b, 0, none⟩ = some x ∧ w.cell? ⟨b, 1, none⟩ = some y ∧ w.cell? ⟨b, 2, none⟩ = some z ∧ w.frozen? ⟨b, 0, none⟩ = false ∧ w.frozen? ⟨b, 1, none⟩ = false ∧ w.frozen? ⟨b, 2, none⟩ = false :=
  ⟨heap_cell h 0, heap_cell h 1, heap_cell h 2, heap_free h 0, heap_free h 1, heap_free h 2⟩
/-- block pb holds these texts, and perhaps more room -/
def PB (w : World) (pb : Nat) (ps : List (List UInt8)) : Prop := ∃ cur, w.heap[pb]? = some (.cells cur 9 (0, 0)) ∧ ∀ (j : Nat) (u : Value), (pieces ps)[j]? = some u → cur[j]? = some u
theorem PB.lt {w : World} {pb : Nat} {ps : List (List UInt8)} (h : PB w pb ps) : pb < w.heap.size := by obtain ⟨cur, h1, -⟩ := h; exact lt_of_heap h1
theorem PB.at {w : World} {pb : Nat} {ps : List (List UInt8)} (h : PB w pb ps) {k : Nat} {p : List UInt8} (hk : ps[k]? = some p) : w.cell? ⟨pb, k, none⟩ = some (.string ⟨p.toArray⟩) := by
  obtain ⟨cur, h1, h2⟩ := h
  rw [heap_cell h1]
  exact h2 k _ (pieces_at hk)
theorem PB.below {w w' : World} {pb : Nat} {ps : List (List UInt8)} (h : PB w pb ps) (hb : Below w.heap.size w w') : PB w' pb ps := by
  obtain ⟨cur, h1, h2⟩ := h
  exact ⟨cur, below_heap hb (lt_of_heap h1) h1, h2⟩
theorem PB.alloc {w : World} {pb : Nat} {ps : List (List UInt8)} (h : PB w pb ps) (o : Obj) : PB (w.alloc o) pb ps := h.below ((Below.refl _ _).alloc (Nat.le_refl _) _)
theorem PB.keep {w w' : World} {base n : Nat} {v : Value} {xs : List Value} {pb : Nat} {ps : List (List UInt8)} (hg : w.grownBy w' v.ownBlock) (ho : w.ownsRow base 25 2 v n xs) (h : PB w pb ps) : PB w' pb ps := by
  obtain ⟨cur, h1, h2⟩ := h
  exact ⟨cur, keep_row hg ho h1 (by decide), h2⟩
theorem PB.set {w : World} {pb : Nat} {ps : List (List UInt8)} (h : PB w pb ps) {b o : Nat} (u : Value) (hne : pb ≠ b) : PB (w.setCell ⟨b, o, none⟩ u) pb ps := by
  obtain ⟨cur, h1, h2⟩ := h
  exact ⟨cur, hb_set_ne h1 _ _ hne, h2⟩
theorem PB.ne {w : World} {pb k : Nat} {ps : List (List UInt8)} (h : PB w pb ps) {cs : Array Value} {fr : Nat × Nat} (hk : w.heap[k]? = some (.cells cs 28 fr)) : pb ≠ k := by
  obtain ⟨cur, h1, -⟩ := h
  exact heap_ne h1 hk (by decide)
theorem PB.of_heap {w : World} {pb : Nat} {ps : List (List UInt8)} (h : w.heap[pb]? = some (.cells (pieces ps).toArray 9 (0, 0))) : PB w pb ps := ⟨_, h, fun j u hu => by simpa using hu⟩
theorem PB.of_row {w : World} {base g cap : Nat} {ps : List (List UInt8)} (h : w.ownsRow base 9 1 (.slice (some ⟨g, 0, none⟩) ps.length cap) ps.length (pieces ps)) : PB w g ps := by
  obtain ⟨-, cur, hc⟩ := row_block h
  refine ⟨cur, hc, fun j u hu => ?_⟩
  have := row_cell h j hu
  rw [heap_cell hc] at this
  exact this
theorem row_set_v {w : World} {base n : Nat} {v : Value} {xs : List Value} (ho : w.ownsRow base 25 2 v n xs) {k o : Nat} {cs : Array Value} {e : TypeId} {fr : Nat × Nat} (h : w.heap[k]? = some (.cells cs e fr)) (hne : e ≠ 25) (u : Value) : (w.setCell ⟨k, o, none⟩ u).ownsRow base 25 2 v n xs := by
  refine ⟨ho.1, ?_⟩
  rcases ho.2 with hn | ⟨g, cap, cur, rfl, hb, hgg, rest⟩
  · exact .inl hn
  · refine .inr ⟨g, cap, cur, rfl, hb, hb_set_ne hgg _ _ (fun (e' : g = k) => ?_), rest⟩
    subst e'
    rw [h] at hgg
    cases hgg
    exact hne rfl
theorem row_sets {w : World} {base n k : Nat} {v : Value} {xs : List Value} {x y z x' y' z' : Value} (ho : w.ownsRow base 25 2 v n xs) (h : w.heap[k]? = some (.cells #[x, y, z] 28 (0, 0))) : (((w.setCell ⟨k, 0, none⟩ x').setCell ⟨k, 1, none⟩ y').setCell ⟨k, 2, none⟩ z').ownsRow base 25 2 v n xs :=
  row_set_v (row_set_v (row_set_v ho h (by decide) _) (heap_set h 0 _) (by decide) _) (heap_set (heap_set h 0 _) 1 _) (by decide) _
theorem row_none (w : World) (b : Nat) : w.ownsRow b 25 2 (.slice none 0 0) ([] : List BB).length (flat []) := ⟨by simp [flat], .inl ⟨rfl, rfl⟩⟩
set_option maxHeartbeats 8000000 in
theorem ParseInstance_impl (l : List UInt8) (w : World) (hl : l.length ≤ 1048576) (hm : ∃ m, w.cell? ⟨0, 0, none⟩ = some (.int .i64 m)) :
    Calls Tryd.prog 6 #[.string ⟨l.toArray⟩] w (PIPost w (rI l)) := by
  have HMX := hid hm
  clear hm
  rcases cut_first 58 l with hno | ⟨a, b, rfl, hno⟩
  · have HC := hid (sCut_no l 58 (w.alloc (.cells #[.string ⟨#[]⟩, .string ⟨#[]⟩, .slice none 0 0] 28)) hno)
    have HIL := hid (inst_plain hno)
    clear hno
    go_enter Tryd.func6, Tryd.ntmps6
    go_wp2_with fail
    refine HC.out.mono ?_
    rintro e w1 ⟨rfl, rfl⟩
    have HB1 : Hid (Below w.heap.size w (w.alloc (.cells #[.string ⟨#[]⟩, .string ⟨#[]⟩, .slice none 0 0] 28))) := (Below.refl _ _).alloc (Nat.le_refl _) _
    have HR1 : Hid ((w.alloc (.cells #[.string ⟨#[]⟩, .string ⟨#[]⟩, .slice none 0 0] 28)).heap[w.heap.size]? = some (.cells #[.string ⟨#[]⟩, .string ⟨#[]⟩, .slice none 0 0] 28 (0, 0))) := heap_alloc_new _ _
    clear HC
    generalize w.alloc (.cells #[.string ⟨#[]⟩, .string ⟨#[]⟩, .slice none 0 0] 28) = w1 at *
    go_wp2_with fail
    refine (PN_impl l w1 (by omega)).mono ?_
    rintro e w2 ⟨rfl, hb⟩
    have HB2 : Hid (Below w.heap.size w w2) := HB1.out.trans (hb.mono HB1.out.size)
    have hr2 := below_heap hb (lt_of_heap HR1.out) HR1.out
    have HR2 := hid hr2
    have hlr := lt_of_heap hr2
    obtain ⟨k0, k1, k2, f0, f1, f2⟩ := k3 hr2
    clear hb hr2
    cases hn : needB l with
    | none =>
      have HR : Hid (rI l = ((⟨#[]⟩, ⟨#[]⟩), [], false)) := rI_none (by rw [HIL.out, hn]; rfl)
      clear hn
      go_wp2
      refine bodyPost_ret (results_row_tmp rfl _ _ w.heap.size 28 #[.string ⟨#[]⟩, .string ⟨#[]⟩, .slice none 0 0] (0, 0) _ rfl (hb_alloc (heap_set (heap_set (heap_set HR2.out 0 _) 1 _) 2 _) _) Tryd.underlying28 rfl (by kernel_rfl)) rfl ?_
      exact ⟨.slice none 0 0, by rw [HR.out]; rfl, by rw [HR.out]; exact row_none _ _, ((((HB2.out).setCell (Nat.le_refl _) _).setCell (Nat.le_refl _) _).setCell (Nat.le_refl _) _).alloc (by simp; omega) _⟩
    | some p =>
      obtain ⟨x, y⟩ := p
      have HR : Hid (rI l = ((x, y), [], true)) := rI_some (by rw [HIL.out, hn]; rfl)
      clear hn
      go_wp2
      refine bodyPost_ret (results_row_tmp rfl _ _ w.heap.size 28 #[.string x, .string y, .slice none 0 0] (0, 0) _ rfl (hb_alloc (hb_alloc (heap_set (heap_set (heap_set HR2.out 0 _) 1 _) 2 _) _) _) Tryd.underlying28 rfl (by kernel_rfl)) rfl ?_
      exact ⟨.slice none 0 0, by rw [HR.out]; rfl, by rw [HR.out]; exact row_none _ _, (((((HB2.out).setCell (Nat.le_refl _) _).setCell (Nat.le_refl _) _).setCell (Nat.le_refl _) _).alloc (by simp; omega) _).alloc (by simp; omega) _⟩
  · have HC := hid (sCut a b 58 (w.alloc (.cells #[.string ⟨#[]⟩, .string ⟨#[]⟩, .slice none 0 0] 28)) hno (by simp at hl; omega))
    have HIL := hid (inst_cut (b := b) hno)
    have hal : a.length ≤ 1048576 := by simp at hl; omega
    have hbl : b.length ≤ 1048576 := by simp at hl; omega
    clear hno hl
    go_enter Tryd.func6, Tryd.ntmps6
    go_wp2_with fail
    refine HC.out.mono ?_
    rintro e w1 ⟨rfl, n1, rfl⟩
    have HB1 : Hid (Below w.heap.size w ((w.alloc (.cells #[.string ⟨#[]⟩, .string ⟨#[]⟩, .slice none 0 0] 28)).drewN n1)) := below_drewN ((Below.refl _ _).alloc (Nat.le_refl _) _) n1
    have HR1 : Hid (((w.alloc (.cells #[.string ⟨#[]⟩, .string ⟨#[]⟩, .slice none 0 0] 28)).drewN n1).heap[w.heap.size]? = some (.cells #[.string ⟨#[]⟩, .string ⟨#[]⟩, .slice none 0 0] 28 (0, 0))) := heap_alloc_new _ _
    clear HC
    generalize (w.alloc (.cells #[.string ⟨#[]⟩, .string ⟨#[]⟩, .slice none 0 0] 28)).drewN n1 = w1 at *
    go_wp2_with fail
    refine (PN_impl a w1 (by omega)).mono ?_
    rintro e w2 ⟨rfl, hb⟩
    have HB2 : Hid (Below w.heap.size w w2) := HB1.out.trans (hb.mono HB1.out.size)
    have hr2 := below_heap hb (lt_of_heap HR1.out) HR1.out
    have HR2 := hid hr2
    have hlr := lt_of_heap hr2
    obtain ⟨k0, k1, k2, f0, f1, f2⟩ := k3 hr2
    clear hb hr2
    cases hn : needB a with
    | none =>
      have HR : Hid (rI (a ++ 58 :: b) = ((⟨#[]⟩, ⟨#[]⟩), [], false)) := rI_none (by rw [HIL.out, hn])
      clear hn
      go_wp2
      refine bodyPost_ret (results_row_tmp rfl _ _ w.heap.size 28 #[.string ⟨#[]⟩, .string ⟨#[]⟩, .slice none 0 0] (0, 0) _ rfl (hb_alloc (heap_set (heap_set (heap_set HR2.out 0 _) 1 _) 2 _) _) Tryd.underlying28 rfl (by kernel_rfl)) rfl ?_
      exact ⟨.slice none 0 0, by rw [HR.out]; rfl, by rw [HR.out]; exact row_none _ _, ((((HB2.out).setCell (Nat.le_refl _) _).setCell (Nat.le_refl _) _).setCell (Nat.le_refl _) _).alloc (by simp; omega) _⟩
    | some p =>
      obtain ⟨x0, y0⟩ := p
      have HN := hid hn
      clear hn
      go_wp2_with fail
      have HB3 : Hid (Below w.heap.size w ((w2.alloc (.cells #[.string x0, .string y0] 25)).alloc (.cells #[.string x0, .string y0, .slice none 0 0] 28))) := (HB2.out.alloc (by omega) _).alloc (by simp; omega) _
      have HR3 : Hid (((w2.alloc (.cells #[.string x0, .string y0] 25)).alloc (.cells #[.string x0, .string y0, .slice none 0 0] 28)).heap[w.heap.size]? = some (.cells #[.string ⟨#[]⟩, .string ⟨#[]⟩, .slice none 0 0] 28 (0, 0))) := hb_alloc (hb_alloc HR2.out _) _
      have HI3 : Hid (((w2.alloc (.cells #[.string x0, .string y0] 25)).alloc (.cells #[.string x0, .string y0, .slice none 0 0] 28)).heap[w2.heap.size + 1]? = some (.cells #[.string x0, .string y0, .slice none 0 0] 28 (0, 0))) := heap_alloc2_new _ _ _
      clear k0 k1 k2 f0 f1 f2
      generalize (w2.alloc (.cells #[.string x0, .string y0] 25)).alloc (.cells #[.string x0, .string y0, .slice none 0 0] 28) = w3 at *
      obtain ⟨bi, hbi⟩ : ∃ x, x = w2.heap.size + 1 := ⟨_, rfl⟩
      rw [← hbi] at HI3
      rw [← hbi]
      have hwbi : w.heap.size < bi := by omega
      clear hbi
      refine (split_any b 38 w3 hbl (hm_below HMX.out HB3.out)).mono ?_
      rintro e w4 ⟨pb, rfl, hpb, hpl, hb⟩
      have HB4 : Hid (Below w.heap.size w w4) := HB3.out.trans (hb.mono HB3.out.size)
      have HR4 := hid (below_heap hb (lt_of_heap HR3.out) HR3.out)
      have HI4 := hid (below_heap hb (lt_of_heap HI3.out) HI3.out)
      have HP4 := hid (PB.of_heap hpb)
      clear hb hpb
      have hsl : (splitC 38 b).length ≤ 1048577 := by rw [splitC_len]; have := List.count_le_length (a := (38 : UInt8)) (l := b); omega
      go_wp2_with fail
      go_loopg [36] (splitC 38 b).length (fun q i wr => ∃ (k : Nat) (D : List BB) (v : Value), k ≤ (splitC 38 b).length ∧ (splitC 38 b).length - k ≤ q ∧ i = .int .i64 k ∧ D.length = k ∧ Hid (∀ (j : Nat) (p : List UInt8) (x : BB), j < k → (splitC 38 b)[j]? = some p → D[j]? = some x → needB p = some x) ∧ Hid (wr.ownsRow w.heap.size 25 2 v D.length (flat D)) ∧ Hid (wr.heap[bi]? = some (.cells #[.string x0, .string y0, v] 28 (0, 0))) ∧ Hid (wr.heap[w.heap.size]? = some (.cells #[.string ⟨#[]⟩, .string ⟨#[]⟩, .slice none 0 0] 28 (0, 0))) ∧ Hid (PB wr pb (splitC 38 b)) ∧ Below w.heap.size w wr)
      case atStart => exact ⟨0, [], .slice none 0 0, Nat.zero_le _, by simp, rfl, rfl, (fun j p x h => by omega), row_none _ _, HI4.out, HR4.out, HP4.out, HB4.out⟩
      case round =>
        obtain ⟨k, D, v, hk, hq, rfl, hD, hgd, hrow, hbi, hr, hp, hb⟩ := hrel
        have HGD := hid hgd.out
        have HO := hid hrow.out
        have HI := hid hbi.out
        have HRR := hid hr.out
        have HP := hid hp.out
        have HB := hid hb
        have hbz := hb.size
        have hlr2 := lt_of_heap hr.out
        have hlbi := lt_of_heap hbi.out
        have HDL := hid hD
        have hdl1 : D.length ≤ k := by omega
        have hdl2 : k ≤ D.length := by omega
        obtain ⟨i0, i1, i2, g0, g1, g2⟩ := k3 hbi.out
        obtain ⟨r0, r1, r2, z0, z1, z2⟩ := k3 hr.out
        clear hgd hrow hbi hr hp hb hD
        by_cases hlt : k < (splitC 38 b).length
        · obtain ⟨pc, hpc⟩ : ∃ pc, (splitC 38 b)[k]? = some pc := ⟨_, List.getElem?_eq_getElem hlt⟩
          have kp : wr.cell? ⟨pb, k, none⟩ = some (.string ⟨pc.toArray⟩) := HP.out.at hpc
          have hpcl := piece_len hpc
          have HPC := hid hpc
          clear hpc
          go_wp2_with fail
          refine (PN_impl pc wr (by omega)).mono ?_
          rintro e w5 ⟨rfl, hb⟩
          have HB5 : Hid (Below w.heap.size w w5) := HB.out.trans (hb.mono HB.out.size)
          have HI5 := hid (below_heap hb hlbi HI.out)
          have HR5 := hid (below_heap hb hlr2 HRR.out)
          have HP5 := hid (HP.out.below hb)
          have HO5 := hid (row_below hb HO.out)
          have hz5 := hb.size
          have hlr5 := lt_of_heap HR5.out
          have hlbi5 := lt_of_heap HI5.out
          clear hb kp i0 i1 i2 g0 g1 g2 r0 r1 r2 z0 z1 z2
          obtain ⟨i0, i1, i2, g0, g1, g2⟩ := k3 HI5.out
          obtain ⟨r0, r1, r2, z0, z1, z2⟩ := k3 HR5.out
          cases hn : needB pc with
          | none =>
            have HR : Hid (rI (a ++ 58 :: b) = ((⟨#[]⟩, ⟨#[]⟩), [], false)) := rI_none (by rw [HIL.out, HN.out, allN_none HPC.out hn])
            clear hn
            go_wp2
            refine bodyPost_ret (results_row_tmp rfl _ _ w.heap.size 28 #[.string ⟨#[]⟩, .string ⟨#[]⟩, .slice none 0 0] (0, 0) _ rfl (hb_alloc (heap_set (heap_set (heap_set HR5.out 0 _) 1 _) 2 _) _) Tryd.underlying28 rfl (by kernel_rfl)) rfl ?_
            exact ⟨.slice none 0 0, by rw [HR.out]; rfl, by rw [HR.out]; exact row_none _ _, ((((HB5.out).setCell (Nat.le_refl _) _).setCell (Nat.le_refl _) _).setCell (Nat.le_refl _) _).alloc (by simp; omega) _⟩
          | some p =>
            obtain ⟨x, y⟩ := p
            have HNN := hid hn
            clear hn
            have HOA : Hid ((w5.alloc (.cells #[.string x, .string y] 25)).ownsRow w.heap.size 25 2 v D.length (flat D)) := World.ownsRow.alloc HO5.out _
            have HBA : Hid (Below w.heap.size w (w5.alloc (.cells #[.string x, .string y] 25))) := HB5.out.alloc (by omega) _
            go_wp2_with (first
              | (at_builtin; refine app_push_at 26 25 (.agg #[.string ⟨#[]⟩, .string ⟨#[]⟩]) 2 32 Tryd.underlying26 infoNeed rfl (by decide) rfl _ _ rfl w.heap.size v D.length (flat D) rfl (World.ownsRow.alloc HOA.out _) (w5.heap.size + 1) 1 [.string x, .string y] (by simp [go_sem]) (by simp) (news_two (heap_cell (hb_new2 _ _ _ _ rfl) 0) (heap_cell (hb_new2 _ _ _ _ rfl) 1)) (by simp [Value.oneCell']) (by unfold maxLen; omega) (by omega) (by first | omega | (simp; omega)) ?_))
            intro g1' cap1 w6 hown hgr hlie
            have HI6 : Hid (w6.heap[bi]? = some (.cells #[.string x0, .string y0, v] 28 (0, 0))) := keep_row hgr (World.ownsRow.alloc HOA.out _) (hb_alloc (hb_alloc HI5.out _) _) (by decide)
            have HR6 : Hid (w6.heap[w.heap.size]? = some (.cells #[.string ⟨#[]⟩, .string ⟨#[]⟩, .slice none 0 0] 28 (0, 0))) := keep_row hgr (World.ownsRow.alloc HOA.out _) (hb_alloc (hb_alloc HR5.out _) _) (by decide)
            have HPA : PB (w5.alloc (.cells #[.string x, .string y] 25)) pb (splitC 38 b) := PB.alloc HP5.out _
            have HPB : PB ((w5.alloc (.cells #[.string x, .string y] 25)).alloc (.cells #[.string x, .string y] 25)) pb (splitC 38 b) := PB.alloc HPA _
            have HP6 : Hid (PB w6 pb (splitC 38 b)) := PB.keep hgr (World.ownsRow.alloc HOA.out (.cells #[.string x, .string y] 25)) HPB
            clear HPA HPB
            have HB6 : Hid (Below w.heap.size w w6) := (HBA.out.alloc (by simp; omega) _).grown hgr (by simp; omega) (fun g hg => row_base (World.ownsRow.alloc HOA.out (.cells #[.string x, .string y] 25)) g hg)
            have HG6 := hid (row_block hown).2
            have HO6 : Hid (w6.ownsRow w.heap.size 25 2 (.slice (some ⟨g1', 0, none⟩) (D.length + 1) cap1) (D.length + 1) (flat (D ++ [(x, y)]))) := by
              show World.ownsRow _ _ _ _ _ _ _
              rw [flat_app]
              exact hown
            have hne : g1' ≠ bi := by
              obtain ⟨cur, hcur⟩ := HG6.out
              exact fun e => heap_ne HI6.out hcur (by decide) e.symm
            have hnr : w.heap.size ≠ bi := by omega
            have hnp : pb ≠ bi := HP6.out.ne HI6.out
            clear hown hgr hlie i0 i1 i2 g0 g1 g2 r0 r1 r2 z0 z1 z2
            obtain ⟨i0, i1, i2, g0, g1, g2⟩ := k3 HI6.out
            go_wp2_with fail
            go_roundg ((splitC 38 b).length - (k + 1))
            case measure => omega
            case rel =>
              refine ⟨k + 1, D ++ [(x, y)], .slice (some ⟨g1', 0, none⟩) (D.length + 1) cap1, by omega, by omega, by go_num, by simp; omega, ?_, ?_, heap_set HI6.out 2 _, hb_set_ne HR6.out _ _ hnr, HP6.out.set _ hnp, HB6.out.setCell (Nat.le_of_lt hwbi) _⟩
              · show ∀ (j : Nat) (p : List UInt8) (x' : BB), _ → _ → _ → _
                intro j p x' hj hpj hxj
                by_cases e : j < k
                · rw [List.getElem?_append_left (by omega)] at hxj
                  exact HGD.out j p x' e hpj hxj
                · obtain rfl : j = k := by omega
                  rw [HPC.out] at hpj
                  cases hpj
                  rw [List.getElem?_append_right (by omega), show j - D.length = 0 by omega] at hxj
                  simp at hxj
                  rw [← hxj]; exact HNN.out
              · show World.ownsRow _ _ _ _ _ _ _
                rw [List.length_append]
                exact row_set HO6.out _ hne
        · have hke : k = (splitC 38 b).length := by omega
          have HR : Hid (rI (a ++ 58 :: b) = ((x0, y0), D, true)) := rI_some (by
            rw [HIL.out, HN.out, allN_mk (xs := D) (by omega) (fun j p x hp hx => HGD.out j p x (by have := (List.getElem?_eq_some_iff.1 hp).1; omega) hp hx)])
          have hnr : w.heap.size ≠ bi := by omega
          clear hke hq
          obtain ⟨va, vc, rfl⟩ := row_slice HO.out
          go_wp2
          refine bodyPost_ret (results_row_tmp rfl _ _ w.heap.size 28 #[.string x0, .string y0, .slice va D.length vc] (0, 0) _ rfl (heap_set (heap_set (heap_set HRR.out 0 _) 1 _) 2 _) Tryd.underlying28 rfl (by kernel_rfl)) rfl ?_
          exact ⟨.slice va D.length vc, by rw [HR.out]; rfl, by rw [HR.out]; exact (row_sets HO.out HRR.out), (((HB.out).setCell (Nat.le_refl _) _).setCell (Nat.le_refl _) _).setCell (Nat.le_refl _) _⟩
end PIn
end Go.Proofs.YtbdnhcfebgkpdaaDoor
