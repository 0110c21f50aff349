/- Which instances of a world are chosen: the plain part. Conditions: none. -/
import Derived.Test.YtaijklafgcocmaaHC
import Derived.Test.YtaijklafgcocmaaListS
set_option linter.unusedVariables false
set_option linter.unusedSimpArgs false
set_option maxRecDepth 100000
namespace Go.Proofs.Ytaijklafgcocmaa
open Go.RowKit Known Classes Ty IV
open WV HC ListS
namespace Among
/-- the numbers of the instances of a class for which h holds -/
def selB (h : II → Bool) (is : List II) (x : ByteArray) (k : Nat) : List Int := ((List.range k).filter (fun i => match is[i]? with | some p => decide (p.1 = x) && h p | none => false)).map Int.ofNat
theorem selB_zero (h : II → Bool) (is : List II) (x : ByteArray) : selB h is x 0 = [] := rfl
theorem selB_step {h : II → Bool} {is : List II} {x : ByteArray} {k : Nat} {p : II} (hp : is[k]? = some p) : selB h is x (k + 1) = selB h is x k ++ if decide (p.1 = x) && h p then [(k : Int)] else [] := by
  unfold selB
  rw [List.range_succ, List.filter_append, List.map_append]
  congr 1
  simp only [List.filter_cons, List.filter_nil, hp]
  split <;> rfl
theorem selB_len (h : II → Bool) (is : List II) (x : ByteArray) (k : Nat) : (selB h is x k).length ≤ k := by
  unfold selB
  rw [List.length_map]
  simpa using List.length_filter_le _ (List.range k)
theorem infoInt : (Try.prog.info? 3).map (fun i => (i.zero, i.size, i.bytes)) = some (some (.int .i64 0), 1, 8) := by kernel_rfl
/-- a list of numbers, and a truth -/
def LB (w : World) (xs : List Int) (ok : Bool) (e : Ending) (w' : World) : Prop := ∃ v, e = .returned (.tuple #[v, .bool ok]) ∧ w'.ownsRow w.heap.size 3 1 v xs.length (ints xs) ∧ Below w.heap.size w w'
theorem row_nil (w : World) (b : Nat) : w.ownsRow b 3 1 (.slice none 0 0) ([] : List Int).length (ints []) := ⟨by simp [ints], .inl ⟨rfl, rfl⟩⟩
theorem eqInt_b (v v2 : Value) (xs : List Int) (w : World) (b1 b2 : Nat) (hn : xs.length ≤ 1099511627776) (h1 : w.ownsRow b1 3 1 v xs.length (ints xs)) (h2 : w.ownsRow b2 3 1 v2 xs.length (ints xs)) :
    Calls Try.prog 31 #[v, v2] w fun e w' => e = .returned (.bool true) ∧ Below w.heap.size w w' :=
  (eqIntS_same v v2 xs w b1 b2 hn h1 h2).mono (by rintro e w' ⟨rfl, n, rfl⟩; exact ⟨rfl, below_grownN _ _⟩)
theorem eq_b {x y : ByteArray} (h : x = y) : (x.toList == y.toList) = true := by rw [h]; simp
end Among
end Go.Proofs.Ytaijklafgcocmaa
