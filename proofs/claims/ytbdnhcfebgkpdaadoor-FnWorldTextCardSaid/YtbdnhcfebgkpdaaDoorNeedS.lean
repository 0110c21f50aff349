/- The laws' size, copy and comparison of slices of Need. Conditions: those typed. -/
import Derived.Test.YtbdnhcfebgkpdaaDoorPairs
import Derived.Test.YtbdnhcfebgkpdaaDoorReg
import Derived.Test.YtbdnhcfebgkpdaaDoorStr
import Derived.Test.YtbdnhcfebgkpdaaDoorNeed
set_option linter.unusedVariables false
set_option linter.unusedSimpArgs false
set_option maxRecDepth 100000
namespace Go.Proofs.YtbdnhcfebgkpdaaDoor
open Go.RowKit

theorem toNeedS_info : (Tryd.prog.info? 25).map (fun i => (i.zero, i.size, i.bytes)) = some (some (.agg #[.string ⟨#[]⟩, .string ⟨#[]⟩]), 2, 32) := by kernel_rfl
theorem toNeedS_make (n : Nat) (h : n ≤ 1048576) (w : World) : (Instr.makeSlice 26 (.int .i64 (n : Int)) (.int .i64 (n : Int))).run Tryd.prog w = .ok (.slice (some ⟨w.heap.size, 0, none⟩) n n) (w.alloc (.cells (flat (List.replicate n (⟨#[]⟩, ⟨#[]⟩))).toArray 25)) := by
  obtain ⟨i, hi, hz⟩ := Option.map_eq_some_iff.1 toNeedS_info
  simp only [Prod.mk.injEq] at hz
  have hr := run_make (P := Tryd.prog) w 26 25 i _ Tryd.underlying26 hi hz.1 .i64 .i64 n n (by omega) (Int.le_refl _) (by rw [hz.2.2]; omega) (by omega)
  rw [hr, ← made_rep]
  simp [hz.2.1, Value.cells]

end Go.Proofs.YtbdnhcfebgkpdaaDoor
