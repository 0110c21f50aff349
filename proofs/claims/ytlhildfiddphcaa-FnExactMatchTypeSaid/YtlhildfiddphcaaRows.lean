/-
  No cell of these rows narrows 'for every input' (looked for: loops, veiled, ifaces, maps, wideKeys, modest, calm, conditions, laid).
  DERIVED. THE GIVEN ROWS OF THIS SEAT. 2 by the template 'for every input the law returns true; each argument reads behind the call as it read before'; 0 by the template 'total and deterministic' (their statements: YtlhildfiddphcaaTotals.lean).
  GIVEN WITH THE SEED: the statements are not yours to turn. If you find one false, say at which input.
  Laid BY PROGRAM, IN A SANDBOX (cutbox-rows.mjs): the forced cells as the released guide's own fill.sh prints them over the translation 8934c9c88f7ec565… (all of the seat's roots in one cut). By AI agents, Wed Nov 11 2026. No macro, syntax, notation, axiom, sorry.
-/
import Derived.Test.YtlhildfiddphcaaChecked
import GoSem.Claim
import GoSem.ClaimJoined
import GoSem.ClaimMapViews
import Derived.JoinedTies
import Derived.KernelRfl
namespace Go.Proofs.Ytlhildfiddphcaa
/- THE CELL 'sum', in the pinned program and in every row, IS THE sha256 OF THE DUMP (.gsa) THAT YtlhildfiddphcaaProg.lean LOADS. Nothing in Lean hashes anything: it is a label: what it is worth is what the hold of that sum in a sandbox is worth. -/
noncomputable def Try.pinned : Pinned := { name := "ytlhildfiddphcaa", sum := "8934c9c88f7ec5655808497c767d107a6bbd5d8f3f1d9bdfb914872f5688f5fd", checked := Try.checked }
namespace Rows
def none {H : Type} : Left H := { results := [], args := [] }

/-- 'laws.FnExactMatchType': WHATEVER THE INPUT: true; the input reads as it did. -/
def fnExactMatchTypeSpec : ChangeSpec := { name := "fnExactMatchType", fn := fun _ => fun
  | [d1, d2] => { results := [.lit (.bool true)], args := [d1, d2] }
  | _ => none }
def fnExactMatchTypeRow : OpenClaim := { program := "ytlhildfiddphcaa", sum := "8934c9c88f7ec5655808497c767d107a6bbd5d8f3f1d9bdfb914872f5688f5fd", func := "loop.example/instancesearch/laws.FnExactMatchType", spec := "fnExactMatchType", inPlace := ["internal/bytealg.IndexByteString", "internal/bytealg.IndexString", "internal/abi.NoEscape", "internal/bytealg.MakeNoZero"], unfollowed := true, recurses := true, named := ["internal/bytealg.MaxLen"], apart := false }
def FnExactMatchTypeSaid : Prop := fnExactMatchTypeRow.holds Try.pinned (OpenSpec.ofChange fnExactMatchTypeSpec)

/-- ITS FALSE NEIGHBOUR: 'it returns false'. Refute it at one input. -/
def fnExactMatchTypeWrong : ChangeSpec := { name := "fnExactMatchType", fn := fun _ => fun
  | [d1, d2] => { results := [.lit (.bool false)], args := [d1, d2] }
  | _ => none }
def FnExactMatchTypeWrongFalsely : Prop := fnExactMatchTypeRow.holds Try.pinned (OpenSpec.ofChange fnExactMatchTypeWrong)

/-- 'laws.FnExactIsInstance': WHATEVER THE INPUT: true; the input reads as it did. -/
def fnExactIsInstanceSpec : ChangeSpec := { name := "fnExactIsInstance", fn := fun _ => fun
  | [d1, d2] => { results := [.lit (.bool true)], args := [d1, d2] }
  | _ => none }
def fnExactIsInstanceRow : OpenClaim := { program := "ytlhildfiddphcaa", sum := "8934c9c88f7ec5655808497c767d107a6bbd5d8f3f1d9bdfb914872f5688f5fd", func := "loop.example/instancesearch/laws.FnExactIsInstance", spec := "fnExactIsInstance", inPlace := ["internal/bytealg.IndexByteString", "internal/bytealg.IndexString", "internal/abi.NoEscape", "internal/bytealg.MakeNoZero"], unfollowed := true, recurses := true, named := ["internal/bytealg.MaxLen"], apart := false }
def FnExactIsInstanceSaid : Prop := fnExactIsInstanceRow.holds Try.pinned (OpenSpec.ofChange fnExactIsInstanceSpec)

/-- ITS FALSE NEIGHBOUR: 'it returns false'. Refute it at one input. -/
def fnExactIsInstanceWrong : ChangeSpec := { name := "fnExactIsInstance", fn := fun _ => fun
  | [d1, d2] => { results := [.lit (.bool false)], args := [d1, d2] }
  | _ => none }
def FnExactIsInstanceWrongFalsely : Prop := fnExactIsInstanceRow.holds Try.pinned (OpenSpec.ofChange fnExactIsInstanceWrong)

/- THE SECOND FORM. 'bulk': how many values and letters a reading holds, each counted each time it is reached (what is shared counts as often as it is met; a slice's spare places count too). A statement '..UptoSaid' is the law's where the arguments, and the package variables that the reading takes, are together of bulk at most 1048576: NARROWER than '..Said'. Prove '..Said' where nothing that the law and all that it calls make is longer than what came in: it says more and counts as full. Else prove '..UptoSaid'. A law counts once. -/
mutual
def uptoBulk {H : Type} : DataW H → Nat
  | .lit (.string bytes) => bytes.length + 1
  | .lit _ => 1
  | .nil => 1
  | .ptr d => uptoBulk d + 1
  | .slice elems spare => uptoBulkAll elems + uptoBulkAll spare + 1
  | .agg parts => uptoBulkAll parts + 1
  | .iface _ d => uptoBulk d + 1
  | .map entries => uptoBulkEntries entries + 1
  | .held _ => 1
def uptoBulkAll {H : Type} : List (DataW H) → Nat
  | [] => 0
  | d :: r => uptoBulk d + uptoBulkAll r
def uptoBulkEntries {H : Type} : List (Lit × DataW H) → Nat
  | [] => 0
  | x :: r => uptoBulkEntry x + uptoBulkEntries r
def uptoBulkEntry {H : Type} : Lit × DataW H → Nat
  | (.string bytes, d) => bytes.length + uptoBulk d + 1
  | (_, d) => uptoBulk d + 1
 end
def uptoSmall : (H : Type) → List (DataW H) → Bool := fun _ ds => decide (uptoBulkAll ds ≤ 1048576)
def OpenSpec.upto (s : _root_.Go.ChangeSpec) : _root_.Go.OpenSpec := { _root_.Go.OpenSpec.ofChange s with cond := some uptoSmall }

/-- 'laws.FnExactMatchType', WHERE WHAT IT READS IS OF BULK AT MOST 1048576: true; the input reads as it did. -/
def fnExactMatchTypeUptoRow : OpenClaim := { program := "ytlhildfiddphcaa", sum := "8934c9c88f7ec5655808497c767d107a6bbd5d8f3f1d9bdfb914872f5688f5fd", func := "loop.example/instancesearch/laws.FnExactMatchType", spec := "fnExactMatchType", inPlace := ["internal/bytealg.IndexByteString", "internal/bytealg.IndexString", "internal/abi.NoEscape", "internal/bytealg.MakeNoZero"], unfollowed := true, recurses := true, named := ["internal/bytealg.MaxLen"], apart := false, narrowed := true }
def FnExactMatchTypeUptoSaid : Prop := fnExactMatchTypeUptoRow.holds Try.pinned (OpenSpec.upto fnExactMatchTypeSpec)

/-- 'laws.FnExactIsInstance', WHERE WHAT IT READS IS OF BULK AT MOST 1048576: true; the input reads as it did. -/
def fnExactIsInstanceUptoRow : OpenClaim := { program := "ytlhildfiddphcaa", sum := "8934c9c88f7ec5655808497c767d107a6bbd5d8f3f1d9bdfb914872f5688f5fd", func := "loop.example/instancesearch/laws.FnExactIsInstance", spec := "fnExactIsInstance", inPlace := ["internal/bytealg.IndexByteString", "internal/bytealg.IndexString", "internal/abi.NoEscape", "internal/bytealg.MakeNoZero"], unfollowed := true, recurses := true, named := ["internal/bytealg.MaxLen"], apart := false, narrowed := true }
def FnExactIsInstanceUptoSaid : Prop := fnExactIsInstanceUptoRow.holds Try.pinned (OpenSpec.upto fnExactIsInstanceSpec)

end Rows
end Go.Proofs.Ytlhildfiddphcaa
