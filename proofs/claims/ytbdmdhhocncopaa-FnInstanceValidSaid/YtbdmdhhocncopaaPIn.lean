/- ParseInstance of both sides. Conditions: the text is at most 2^20 bytes long; a variable of the library holds a number. -/
import Derived.Test.YtbdmdhhocncopaaCutS
import Derived.Test.YtbdmdhhocncopaaPInP
import Derived.Test.YtbdmdhhocncopaaIV
import Derived.Test.YtbdmdhhocncopaaJoin
set_option linter.unusedVariables false
set_option linter.unusedSimpArgs false
set_option maxRecDepth 100000
namespace Go.Proofs.Ytbdmdhhocncopaa
open Go.RowKit Ty SplP ListS CutS PInP Classes
namespace PIn
/-- strings.Split at one byte -/
theorem splitB_C (l : List UInt8) (c : UInt8) : (Lib.splitB ⟨#[c]⟩ 0 (Lib.countB ⟨l.toArray⟩ ⟨#[c]⟩) ⟨l.toArray⟩).map Value.string = pieces (splitC c l) := by
  have h1 := Lib.splitB_data ⟨#[c]⟩ 0 (Lib.countB ⟨l.toArray⟩ ⟨#[c]⟩) ⟨l.toArray⟩
  have h2 : Lib.countB ⟨l.toArray⟩ ⟨#[c]⟩ = l.count c := Lib.count_one c l
  rw [h2] at h1 ⊢
  have h3 : Lib.splitK [c] 0 (l.count c) l = splitC c l := splitK_C c l.length l (Nat.le_refl _)
  rw [show ((ByteArray.mk #[c]).data.toList) = [c] from rfl, show ((ByteArray.mk l.toArray).data.toList) = l from rfl, h3] at h1
  unfold pieces
  rw [← h1, List.map_map]
  apply List.map_congr_left
  intro x hx
  rfl
theorem countB_C (l : List UInt8) (c : UInt8) : Lib.countB ⟨l.toArray⟩ ⟨#[c]⟩ + 1 = (splitC c l).length := by
  rw [splitC_len]
  have h2 : Lib.countB ⟨l.toArray⟩ ⟨#[c]⟩ = l.count c := Lib.count_one c l
  omega
def SpPost (w : World) (ps : List (List UInt8)) (e : Ending) (w' : World) : Prop := ∃ g, e = .returned (.slice (some ⟨g, 0, none⟩) ps.length ps.length) ∧ w'.heap[g]? = some (.cells (pieces ps).toArray 9 (0, 0)) ∧ w.heap.size ≤ g ∧ Below w.heap.size w w'
theorem hm_below {w w' : World} (h : ∃ m, w.cell? ⟨0, 0, none⟩ = some (.int .i64 m)) (hb : Below w.heap.size w w') : ∃ m, w'.cell? ⟨0, 0, none⟩ = some (.int .i64 m) := by
  obtain ⟨m, hm⟩ := h
  exact ⟨m, (hb.cell (lt_of_cell hm)).trans hm⟩
theorem infoNeed : (Try.prog.info? 36).map (fun i => (i.zero, i.size, i.bytes)) = some (some (.agg #[.string ⟨#[]⟩, .string ⟨#[]⟩]), 2, 32) := by kernel_rfl
/-- what ParseInstance returns -/
def rI (l : List UInt8) : BB × List BB × Bool := match instL l with | some (n, ns) => (n, ns, true) | none => ((⟨#[]⟩, ⟨#[]⟩), [], false)
def PIPost (w : World) (r : BB × List BB × Bool) (e : Ending) (w' : World) : Prop := ∃ v, e = .returned (.tuple #[.agg #[.string r.1.1, .string r.1.2, v], .bool r.2.2]) ∧ w'.ownsRow w.heap.size 36 2 v r.2.1.length (flat r.2.1) ∧ Below w.heap.size w w'
theorem rI_none {l : List UInt8} (h : instL l = none) : rI l = ((⟨#[]⟩, ⟨#[]⟩), [], false) := by unfold rI; rw [h]
theorem rI_some {l : List UInt8} {n : BB} {ns : List BB} (h : instL l = some (n, ns)) : rI l = (n, ns, true) := by unfold rI; rw [h]
theorem need_no {l : List UInt8} (h : needB l = none) : need l = none := by unfold needB at h; simpa using h
theorem need_yes {l : List UInt8} {p : BB} (h : needB l = some p) : ∃ c t, need l = some (c, t) ∧ p = (⟨#[c]⟩, ⟨t.toArray⟩) := by
  unfold needB at h
  obtain ⟨⟨c, t⟩, h1, h2⟩ := Option.map_eq_some_iff.1 h
  exact ⟨c, t, h1, h2.symm⟩
/-- ParseNeed, in these words -/
def NB (w : World) (o : Option BB) (e : Ending) (w' : World) : Prop := e = .returned (match o with | some p => .tuple #[.agg #[.string p.1, .string p.2], .bool true] | none => .tuple #[.agg #[.string ⟨#[]⟩, .string ⟨#[]⟩], .bool false]) ∧ Below w.heap.size w w'
theorem nb_of {w : World} {l : List UInt8} {e : Ending} {w' : World} (h : NeedPost w l e w') : NB w (needB l) e w' := by
  obtain ⟨h1, h2⟩ := h
  refine ⟨?_, h2⟩
  rw [h1]
  cases hn : needB l with
  | none => rw [need_no hn]
  | some p => obtain ⟨c, t, h3, rfl⟩ := need_yes hn; rw [h3]
theorem PN_spec (l : List UInt8) (w : World) (hl : l.length ≤ 2147483648) : Calls Try.prog 90 #[.string ⟨l.toArray⟩] w (NB w (needB l)) := (ParseNeed_spec l w hl).mono fun _ _ h => nb_of h
theorem keep_row {w w' : World} {base n : Nat} {v : Value} {xs : List Value} (hg : w.grownBy w' v.ownBlock) (ho : w.ownsRow base 36 2 v n xs) {k : Nat} {cs : Array Value} {e : TypeId} {fr : Nat × Nat} (h : w.heap[k]? = some (.cells cs e fr)) (hne : e ≠ 36) : w'.heap[k]? = some (.cells cs e fr) := by
  refine grown_keep hg h fun hk => ?_
  rcases ho.2 with ⟨rfl, _⟩ | ⟨g, cap, cur, rfl, hb, hgg, rest⟩
  · simp [Value.ownBlock] at hk
  · simp [Value.ownBlock] at hk
    subst hk
    rw [h] at hgg
    cases hgg
    exact hne rfl
theorem row_base {w : World} {base n : Nat} {v : Value} {xs : List Value} (ho : w.ownsRow base 36 2 v n xs) : ∀ g, v.ownBlock = some g → base ≤ g := fun g h => (row_own ho g h).1
theorem pieces_at {ps : List (List UInt8)} {k : Nat} {p : List UInt8} (h : ps[k]? = some p) : (pieces ps)[k]? = some (.string ⟨p.toArray⟩) := by unfold pieces; rw [List.getElem?_map, h]; rfl
theorem piece_len {c : UInt8} {l : List UInt8} {k : Nat} {p : List UInt8} (h : (splitC c l)[k]? = some p) : p.length ≤ l.length := by
  have hj := splitC_join c l
  obtain ⟨hk, hg⟩ := List.getElem?_eq_some_iff.1 h
  have key : ∀ (ps : List (List UInt8)) (j : Nat) (hj : j < ps.length), ps[j].length ≤ (Lib.join ps [c]).length := by
    intro ps
    cases ps with
    | nil => intro j hj; simp at hj
    | cons q qs =>
      intro j hj
      rw [Lib.join_cons, List.length_append]
      cases j with
      | zero => simp
      | succ j =>
        have : ∀ (r : List (List UInt8)) (j : Nat) (hj : j < r.length), r[j].length ≤ (Lib.joinTail [c] r).length := by
          intro r
          induction r with
          | nil => intro j hj; simp at hj
          | cons a r ih =>
            intro j hj
            simp only [Lib.joinTail, List.map_cons, List.flatten_cons, List.length_append]
            cases j with
            | zero => simp; omega
            | succ j =>
              have := ih j (by simpa using hj)
              simp only [Lib.joinTail] at this
              simp only [List.getElem_cons_succ]
              omega
        have h2 := this qs j (by simpa using hj)
        simp only [List.getElem_cons_succ]
        omega
  have := key _ k hk
  rw [hj, hg] at this
  exact this
theorem flat_app (xs : List BB) (p : BB) : flat (xs ++ [p]) = flat xs ++ [.string p.1, .string p.2] := by
  induction xs with
  | nil => rfl
  | cons q r ih => simp [flat, ih]
theorem k3 {w : World} {b : Nat} {x y z : Value} {e : TypeId} (h : w.heap[b]? = some (.cells #[x, y, z] e (0, 0))) : w.cell? ⟨b, 0, none⟩ = some x ∧ w.cell? ⟨b, 1, none⟩ = some y ∧ w.cell? ⟨b, 2, none⟩ = some z ∧ w.frozen? ⟨b, 0, none⟩ = false ∧ w.frozen? ⟨b, 1, none⟩ = false ∧ w.frozen? ⟨b, 2, none⟩ = false :=
  ⟨heap_cell h 0, heap_cell h 1, heap_cell h 2, heap_free h 0, heap_free h 1, heap_free h 2⟩
/-- block pb holds these texts, and perhaps more room -/
def PB (w : World) (pb : Nat) (ps : List (List UInt8)) : Prop := ∃ cur, w.heap[pb]? = some (.cells cur 9 (0, 0)) ∧ ∀ (j : Nat) (u : Value), (pieces ps)[j]? = some u → cur[j]? = some u
theorem PB.lt {w : World} {pb : Nat} {ps : List (List UInt8)} (h : PB w pb ps) : pb < w.heap.size := by obtain ⟨cur, h1, -⟩ := h; exact lt_of_heap h1
theorem PB.at {w : World} {pb : Nat} {ps : List (List UInt8)} (h : PB w pb ps) {k : Nat} {p : List UInt8} (hk : ps[k]? = some p) : w.cell? ⟨pb, k, none⟩ = some (.string ⟨p.toArray⟩) := by
  obtain ⟨cur, h1, h2⟩ := h
  rw [heap_cell h1]
  exact h2 k _ (pieces_at hk)
theorem PB.below {w w' : World} {pb : Nat} {ps : List (List UInt8)} (h : PB w pb ps) (hb : Below w.heap.size w w') : PB w' pb ps := by
  obtain ⟨cur, h1, h2⟩ := h
  exact ⟨cur, below_heap hb (lt_of_heap h1) h1, h2⟩
theorem PB.alloc {w : World} {pb : Nat} {ps : List (List UInt8)} (h : PB w pb ps) (o : Obj) : PB (w.alloc o) pb ps := h.below ((Below.refl _ _).alloc (Nat.le_refl _) _)
theorem PB.keep {w w' : World} {base n : Nat} {v : Value} {xs : List Value} {pb : Nat} {ps : List (List UInt8)} (hg : w.grownBy w' v.ownBlock) (ho : w.ownsRow base 36 2 v n xs) (h : PB w pb ps) : PB w' pb ps := by
  obtain ⟨cur, h1, h2⟩ := h
  exact ⟨cur, keep_row hg ho h1 (by decide), h2⟩
theorem PB.set {w : World} {pb : Nat} {ps : List (List UInt8)} (h : PB w pb ps) {b o : Nat} (u : Value) (hne : pb ≠ b) : PB (w.setCell ⟨b, o, none⟩ u) pb ps := by
  obtain ⟨cur, h1, h2⟩ := h
  exact ⟨cur, hb_set_ne h1 _ _ hne, h2⟩
theorem PB.ne {w : World} {pb k : Nat} {ps : List (List UInt8)} (h : PB w pb ps) {cs : Array Value} {fr : Nat × Nat} (hk : w.heap[k]? = some (.cells cs 39 fr)) : pb ≠ k := by
  obtain ⟨cur, h1, -⟩ := h
  exact heap_ne h1 hk (by decide)
theorem PB.of_heap {w : World} {pb : Nat} {ps : List (List UInt8)} (h : w.heap[pb]? = some (.cells (pieces ps).toArray 9 (0, 0))) : PB w pb ps := ⟨_, h, fun j u hu => by simpa using hu⟩
theorem PB.of_row {w : World} {base g cap : Nat} {ps : List (List UInt8)} (h : w.ownsRow base 9 1 (.slice (some ⟨g, 0, none⟩) ps.length cap) ps.length (pieces ps)) : PB w g ps := by
  obtain ⟨-, cur, hc⟩ := row_block h
  refine ⟨cur, hc, fun j u hu => ?_⟩
  have := row_cell h j hu
  rw [heap_cell hc] at this
  exact this
theorem row_set_v {w : World} {base n : Nat} {v : Value} {xs : List Value} (ho : w.ownsRow base 36 2 v n xs) {k o : Nat} {cs : Array Value} {e : TypeId} {fr : Nat × Nat} (h : w.heap[k]? = some (.cells cs e fr)) (hne : e ≠ 36) (u : Value) : (w.setCell ⟨k, o, none⟩ u).ownsRow base 36 2 v n xs := by
  refine ⟨ho.1, ?_⟩
  rcases ho.2 with hn | ⟨g, cap, cur, rfl, hb, hgg, rest⟩
  · exact .inl hn
  · refine .inr ⟨g, cap, cur, rfl, hb, hb_set_ne hgg _ _ (fun (e' : g = k) => ?_), rest⟩
    subst e'
    rw [h] at hgg
    cases hgg
    exact hne rfl
theorem row_sets {w : World} {base n k : Nat} {v : Value} {xs : List Value} {x y z x' y' z' : Value} (ho : w.ownsRow base 36 2 v n xs) (h : w.heap[k]? = some (.cells #[x, y, z] 39 (0, 0))) : (((w.setCell ⟨k, 0, none⟩ x').setCell ⟨k, 1, none⟩ y').setCell ⟨k, 2, none⟩ z').ownsRow base 36 2 v n xs :=
  row_set_v (row_set_v (row_set_v ho h (by decide) _) (heap_set h 0 _) (by decide) _) (heap_set (heap_set h 0 _) 1 _) (by decide) _
theorem row_none (w : World) (b : Nat) : w.ownsRow b 36 2 (.slice none 0 0) ([] : List BB).length (flat []) := ⟨by simp [flat], .inl ⟨rfl, rfl⟩⟩
end PIn
end Go.Proofs.Ytbdmdhhocncopaa
