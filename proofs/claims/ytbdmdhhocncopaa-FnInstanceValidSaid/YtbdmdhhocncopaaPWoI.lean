/- ParseWorld of the program. Conditions: the text is at most 2^20 bytes long; a variable of the library holds a number. -/
import Derived.Test.YtbdmdhhocncopaaTail
set_option linter.unusedVariables false
set_option linter.unusedSimpArgs false
set_option maxRecDepth 100000
namespace Go.Proofs.Ytbdmdhhocncopaa
open Go.RowKit Ty SplP ListS CutS PIn PInP IRow
namespace PWo
theorem infoClass : (Try.prog.info? 33).map (fun i => (i.zero, i.size, i.bytes)) = some (some (.agg #[.string ⟨#[]⟩, .string ⟨#[]⟩]), 2, 32) := by kernel_rfl
theorem infoInst : (Try.prog.info? 39).map (fun i => (i.zero, i.size, i.bytes)) = some (some (.agg #[.string ⟨#[]⟩, .string ⟨#[]⟩, .slice none 0 0]), 3, 56) := by kernel_rfl
theorem clsI_none {x : List UInt8} (h : (60 : UInt8) ∉ x) : PWoP.clsI x = (⟨x.toArray⟩, ⟨#[]⟩) := by
  unfold PWoP.clsI
  have h1 : ∀ c ∈ x, (c != 60) = true := fun c hc => by
    have : c ≠ 60 := by rintro rfl; exact h hc
    simpa using this
  have h2 : x.takeWhile (· != 60) = x := by
    clear h
    induction x with
    | nil => rfl
    | cons c r ih => rw [List.takeWhile_cons, h1 c (by simp), if_pos rfl, ih (fun d hd => h1 d (by simp [hd]))]
  have h3 : x.dropWhile (· != 60) = [] := by
    clear h h2
    induction x with
    | nil => rfl
    | cons c r ih => rw [List.dropWhile_cons, h1 c (by simp), if_pos rfl, ih (fun d hd => h1 d (by simp [hd]))]
  rw [h2, h3]
  rfl
theorem clsI_cut {a : List UInt8} (b : List UInt8) (h : (60 : UInt8) ∉ a) : PWoP.clsI (a ++ 60 :: b) = (⟨a.toArray⟩, ⟨b.toArray⟩) := by
  unfold PWoP.clsI
  have h2 : (a ++ 60 :: b).takeWhile (· != 60) = a ∧ (a ++ 60 :: b).dropWhile (· != 60) = 60 :: b := by
    induction a with
    | nil => simp
    | cons c r ih =>
      have hc : (c != 60) = true := by
        have : c ≠ 60 := by rintro rfl; exact h (by simp)
        simpa using this
      obtain ⟨i1, i2⟩ := ih (fun hm => h (by simp [hm]))
      refine ⟨?_, ?_⟩
      · rw [List.cons_append, List.takeWhile_cons, hc, if_pos rfl, i1]
      · rw [List.cons_append, List.dropWhile_cons, hc, if_pos rfl, i2]
  rw [h2.1, h2.2]
  rfl
/-- a block of another kind stands when a row grows -/
theorem keep_rowG {w w' : World} {base n size : Nat} {v : Value} {xs : List Value} {e0 : TypeId} (hg : w.grownBy w' v.ownBlock) (ho : w.ownsRow base e0 size v n xs) {k : Nat} {cs : Array Value} {e : TypeId} {fr : Nat × Nat} (h : w.heap[k]? = some (.cells cs e fr)) (hne : e ≠ e0) : w'.heap[k]? = some (.cells cs e fr) := by
  refine grown_keep hg h fun hk => ?_
  rcases ho.2 with ⟨rfl, _⟩ | ⟨g, cap, cur, rfl, hb, hgg, rest⟩
  · simp [Value.ownBlock] at hk
  · simp [Value.ownBlock] at hk
    subst hk
    rw [h] at hgg
    cases hgg
    exact hne rfl
theorem PB_keepG {w w' : World} {base n size : Nat} {v : Value} {xs : List Value} {e0 : TypeId} {pb : Nat} {ps : List (List UInt8)} (hg : w.grownBy w' v.ownBlock) (ho : w.ownsRow base e0 size v n xs) (hne : 9 ≠ e0) (h : PB w pb ps) : PB w' pb ps := by
  obtain ⟨cur, h1, h2⟩ := h
  exact ⟨cur, keep_rowG hg ho h1 hne, h2⟩
theorem k2 {w : World} {b : Nat} {x y : Value} {e : TypeId} (h : w.heap[b]? = some (.cells #[x, y] e (0, 0))) : w.cell? ⟨b, 0, none⟩ = some x ∧ w.cell? ⟨b, 1, none⟩ = some y ∧ w.frozen? ⟨b, 0, none⟩ = false ∧ w.frozen? ⟨b, 1, none⟩ = false :=
  ⟨heap_cell h 0, heap_cell h 1, heap_free h 0, heap_free h 1⟩
theorem take_map_snoc {α β : Type} (f : α → β) (ps : List α) (k : Nat) (x : α) (h : ps[k]? = some x) : (ps.take (k + 1)).map f = (ps.take k).map f ++ [f x] := by
  obtain ⟨hl, hg⟩ := List.getElem?_eq_some_iff.1 h
  rw [List.take_succ_eq_append_getElem hl, hg, List.map_append]
  rfl
/-- the call's results: a world of the call's own, and whether there was one -/
def WoPost (w : World) (r : List BB × List II × Bool) (e : Ending) (w' : World) : Prop := ∃ v u, e = .returned (.tuple #[.agg #[v, u], .bool r.2.2]) ∧ w'.ownsRow w.heap.size 33 2 v r.1.length (flat r.1) ∧ IR w' w.heap.size u r.2.1 ∧ Below w.heap.size w w'
theorem row_mono {w : World} {b b2 n size : Nat} {e : TypeId} {v : Value} {xs : List Value} (h : w.ownsRow b e size v n xs) (hb : b2 ≤ b) : w.ownsRow b2 e size v n xs := by
  refine ⟨h.1, ?_⟩
  rcases h.2 with h | ⟨g, cap, cur, h1, h2, rest⟩
  · exact .inl h
  · exact .inr ⟨g, cap, cur, h1, Nat.le_trans hb h2, rest⟩
theorem IR_sets {w : World} {base k : Nat} {v x y : Value} {is : List II} (h : IR w base v is) (hk : w.heap[k]? = some (.cells #[x, y] 26 (0, 0))) (x' y' : Value) : IR ((w.setCell ⟨k, 0, none⟩ x').setCell ⟨k, 1, none⟩ y') base v is := by
  obtain ⟨vs, h1, h2⟩ := h
  exact ⟨vs, row_setG (row_setG h1 hk (by decide) _) (heap_set hk 0 _) (by decide) _, (h2.set hk (by decide) _).set (heap_set hk 0 _) (by decide) _⟩
theorem mk_of_toList {a : ByteArray} {l : List UInt8} (h : a.toList = l) : a = ⟨l.toArray⟩ := by
  rw [← h]; apply ByteArray.ext; simp [ByteArray.toList_eq]
theorem row_noneI (w : World) (b : Nat) : w.ownsRow b 39 3 (.slice none 0 0) 0 (flatI [] []) := ⟨by simp [flatI], .inl ⟨rfl, rfl⟩⟩
theorem row_noneC (w : World) (b : Nat) : w.ownsRow b 33 2 (.slice none 0 0) 0 (flat []) := ⟨by simp [flat], .inl ⟨rfl, rfl⟩⟩
end PWo
end Go.Proofs.Ytbdmdhhocncopaa
