/- The laws' size, copy and comparison of instances. Conditions: those typed. -/
import Derived.Test.YtlckalgdfbpejaaDoorNeedS
set_option linter.unusedVariables false
set_option linter.unusedSimpArgs false
set_option maxRecDepth 100000
namespace Go.Proofs.YtlckalgdfbpejaaDoor
open Go.RowKit

/-- what the laws' size of an instance returns -/
def szI (a b : ByteArray) (xs : List BB) (L : Int) : Int := if (a.size : Int) + b.size + xs.length + tot xs ≤ L then L - a.size - b.size - xs.length - tot xs else -1

/-- a new instance: its texts, and a slice that holds its needs -/
def InstPost (w : World) (a b : ByteArray) (xs : List BB) (en : Ending) (w' : World) : Prop :=
  ∃ g, en = .returned (.agg #[.string a, .string b, .slice (some ⟨g, 0, none⟩) xs.length xs.length]) ∧ w.heap.size ≤ g ∧ w'.heap[g]? = some (.cells (flat xs).toArray 36 (0, 0)) ∧ SP w' (.slice (some ⟨g, 0, none⟩) xs.length xs.length) xs ∧ Below w.heap.size w w'

theorem hb_new3 (w : World) (A B C : Obj) : (((w.alloc A).alloc B).alloc C).heap[w.heap.size + 1 + 1]? = some C := by
  have := heap_alloc_new ((w.alloc A).alloc B) C
  simpa using this

theorem eqInstance_same (a b : ByteArray) (v v' : Value) (xs : List BB) (w : World) (hs : SP w v xs) (hs' : SP w v' xs) :
    Calls Tryd.prog 24 #[.agg #[.string a, .string b, v], .agg #[.string a, .string b, v']] w fun e w' => e = .returned (.bool true) ∧ Below w.heap.size w w' := by
  obtain ⟨g, n, c, rfl⟩ : ∃ g n c, v = .slice g n c := by
    rcases hs with ⟨rfl, a, cap, rfl⟩ | ⟨b, off, cap, rfl, hn, hc⟩ <;> exact ⟨_, _, _, rfl⟩
  obtain ⟨g', n', c', rfl⟩ : ∃ g n c, v' = .slice g n c := by
    rcases hs' with ⟨rfl, a, cap, rfl⟩ | ⟨b, off, cap, rfl, hn, hc⟩ <;> exact ⟨_, _, _, rfl⟩
  go_enter Tryd.func24, Tryd.ntmps24
  go_wp2_with fail
  refine (eqNeed_both a b _).mono ?_
  rintro e w1 ⟨rfl, hb⟩
  have x0 := below_heap hb (by simp; omega) (hb_alloc (heap_alloc_new w _) _)
  have x1 := below_heap hb (by simp) (hb_new2 w _ _ _ rfl)
  have k02 : w1.cell? ⟨w.heap.size, 2, none⟩ = some (.slice g n c) := heap_cell x0 2
  have k12 : w1.cell? ⟨w.heap.size + 1, 2, none⟩ = some (.slice g' n' c') := heap_cell x1 2
  have HB1 : Hid (Below w.heap.size w w1) := (((Below.refl _ _).alloc (Nat.le_refl _) _).alloc (by simp) _).trans (hb.mono (by simp; omega))
  have HS := hid (hs.below HB1.out)
  have HS' := hid (hs'.below HB1.out)
  have hz := hb.size
  simp only [World.size_alloc] at hz
  have hz1 : w.heap.size + 1 < w1.heap.size := by omega
  have hz2 : w.heap.size < w1.heap.size := by omega
  clear hb x0 x1 hs hs'
  go_wp2_with fail
  refine (eqNeedS_same _ _ xs _ HS.out HS'.out).mono ?_
  rintro e w2 ⟨rfl, hb⟩
  have HB2 : Hid (Below w.heap.size w w2) := HB1.out.trans (hb.mono HB1.out.size)
  clear hb
  go_wp2
  go_ret
  exact ⟨rfl, HB2.out⟩

end Go.Proofs.YtlckalgdfbpejaaDoor
