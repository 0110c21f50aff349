/-
  No cell of these rows narrows 'for every input' (looked for: loops, veiled, ifaces, maps, wideKeys, modest, calm, conditions, laid).
  DERIVED. THE GIVEN ROWS OF THIS SEAT. 5 by the template 'for every input the law returns true; each argument reads behind the call as it read before'; 0 by the template 'total and deterministic' (their statements: YtaapdhacnbhohaaTotals.lean).
  GIVEN WITH THE SEED: the statements are not yours to turn. If you find one false, say at which input.
  Laid BY PROGRAM, IN A SANDBOX (cutbox-rows.mjs): the forced cells as the released guide's own fill.sh prints them over the translation dcd7c1a9e00761a8… (all of the seat's roots in one cut). By AI agents, Wed Nov 11 2026. No macro, syntax, notation, axiom, sorry.
-/
import Derived.Test.YtaapdhacnbhohaaChecked
import GoSem.Claim
import GoSem.ClaimJoined
import GoSem.ClaimMapViews
import Derived.JoinedTies
import Derived.KernelRfl
namespace Go.Proofs.Ytaapdhacnbhohaa
/- THE CELL 'sum', in the pinned program and in every row, IS THE sha256 OF THE DUMP (.gsa) THAT YtaapdhacnbhohaaProg.lean LOADS. Nothing in Lean hashes anything: it is a label: what it is worth is what the hold of that sum in a sandbox is worth. -/
noncomputable def Try.pinned : Pinned := { name := "ytaapdhacnbhohaa", sum := "dcd7c1a9e00761a832af65893154becdf8a778f81b4d1fcca11d03aca03780f8", checked := Try.checked }
namespace Rows
def none {H : Type} : Left H := { results := [], args := [] }

/-- 'laws.FnVarsOf': WHATEVER THE INPUT: true; the input reads as it did. -/
def fnVarsOfSpec : ChangeSpec := { name := "fnVarsOf", fn := fun _ => fun
  | [d1, d2] => { results := [.lit (.bool true)], args := [d1, d2] }
  | _ => none }
def fnVarsOfRow : OpenClaim := { program := "ytaapdhacnbhohaa", sum := "dcd7c1a9e00761a832af65893154becdf8a778f81b4d1fcca11d03aca03780f8", func := "loop.example/instancesearch/laws.FnVarsOf", spec := "fnVarsOf", inPlace := ["internal/bytealg.IndexByteString", "internal/bytealg.IndexString", "internal/abi.NoEscape", "internal/bytealg.MakeNoZero", "internal/bytealg.CountString"], recurses := true, named := ["internal/bytealg.MaxLen"], apart := false }
def FnVarsOfSaid : Prop := fnVarsOfRow.holds Try.pinned (OpenSpec.ofChange fnVarsOfSpec)

/-- ITS FALSE NEIGHBOUR: 'it returns false'. Refute it at one input. -/
def fnVarsOfWrong : ChangeSpec := { name := "fnVarsOf", fn := fun _ => fun
  | [d1, d2] => { results := [.lit (.bool false)], args := [d1, d2] }
  | _ => none }
def FnVarsOfWrongFalsely : Prop := fnVarsOfRow.holds Try.pinned (OpenSpec.ofChange fnVarsOfWrong)

/-- 'laws.FnMakeType': WHATEVER THE INPUT: true; the input reads as it did. -/
def fnMakeTypeSpec : ChangeSpec := { name := "fnMakeType", fn := fun _ => fun
  | [d1, d2] => { results := [.lit (.bool true)], args := [d1, d2] }
  | _ => none }
def fnMakeTypeRow : OpenClaim := { program := "ytaapdhacnbhohaa", sum := "dcd7c1a9e00761a832af65893154becdf8a778f81b4d1fcca11d03aca03780f8", func := "loop.example/instancesearch/laws.FnMakeType", spec := "fnMakeType", inPlace := ["internal/bytealg.IndexByteString", "internal/bytealg.IndexString", "internal/abi.NoEscape", "internal/bytealg.MakeNoZero", "internal/bytealg.CountString"], recurses := true, named := ["internal/bytealg.MaxLen"], apart := false }
def FnMakeTypeSaid : Prop := fnMakeTypeRow.holds Try.pinned (OpenSpec.ofChange fnMakeTypeSpec)

/-- ITS FALSE NEIGHBOUR: 'it returns false'. Refute it at one input. -/
def fnMakeTypeWrong : ChangeSpec := { name := "fnMakeType", fn := fun _ => fun
  | [d1, d2] => { results := [.lit (.bool false)], args := [d1, d2] }
  | _ => none }
def FnMakeTypeWrongFalsely : Prop := fnMakeTypeRow.holds Try.pinned (OpenSpec.ofChange fnMakeTypeWrong)

/-- 'laws.FnApply': WHATEVER THE INPUT: true; the input reads as it did. -/
def fnApplySpec : ChangeSpec := { name := "fnApply", fn := fun _ => fun
  | [d1, d2] => { results := [.lit (.bool true)], args := [d1, d2] }
  | _ => none }
def fnApplyRow : OpenClaim := { program := "ytaapdhacnbhohaa", sum := "dcd7c1a9e00761a832af65893154becdf8a778f81b4d1fcca11d03aca03780f8", func := "loop.example/instancesearch/laws.FnApply", spec := "fnApply", inPlace := ["internal/bytealg.IndexByteString", "internal/bytealg.IndexString", "internal/abi.NoEscape", "internal/bytealg.MakeNoZero"], recurses := true, named := ["internal/bytealg.MaxLen"], apart := false }
def FnApplySaid : Prop := fnApplyRow.holds Try.pinned (OpenSpec.ofChange fnApplySpec)

/-- ITS FALSE NEIGHBOUR: 'it returns false'. Refute it at one input. -/
def fnApplyWrong : ChangeSpec := { name := "fnApply", fn := fun _ => fun
  | [d1, d2] => { results := [.lit (.bool false)], args := [d1, d2] }
  | _ => none }
def FnApplyWrongFalsely : Prop := fnApplyRow.holds Try.pinned (OpenSpec.ofChange fnApplyWrong)

/-- 'laws.FnSupersOf': WHATEVER THE INPUT: true; the input reads as it did. -/
def fnSupersOfSpec : ChangeSpec := { name := "fnSupersOf", fn := fun _ => fun
  | [d] => { results := [.lit (.bool true)], args := [d] }
  | _ => none }
def fnSupersOfRow : OpenClaim := { program := "ytaapdhacnbhohaa", sum := "dcd7c1a9e00761a832af65893154becdf8a778f81b4d1fcca11d03aca03780f8", func := "loop.example/instancesearch/laws.FnSupersOf", spec := "fnSupersOf", inPlace := ["internal/bytealg.IndexByteString", "internal/bytealg.IndexString"], unfollowed := true, recurses := true, named := ["internal/bytealg.MaxLen"], apart := false }
def FnSupersOfSaid : Prop := fnSupersOfRow.holds Try.pinned (OpenSpec.ofChange fnSupersOfSpec)

/-- ITS FALSE NEIGHBOUR: 'it returns false'. Refute it at one input. -/
def fnSupersOfWrong : ChangeSpec := { name := "fnSupersOf", fn := fun _ => fun
  | [d] => { results := [.lit (.bool false)], args := [d] }
  | _ => none }
def FnSupersOfWrongFalsely : Prop := fnSupersOfRow.holds Try.pinned (OpenSpec.ofChange fnSupersOfWrong)

/-- 'laws.FnInstanceValid': WHATEVER THE INPUT: true; the input reads as it did. -/
def fnInstanceValidSpec : ChangeSpec := { name := "fnInstanceValid", fn := fun _ => fun
  | [d] => { results := [.lit (.bool true)], args := [d] }
  | _ => none }
def fnInstanceValidRow : OpenClaim := { program := "ytaapdhacnbhohaa", sum := "dcd7c1a9e00761a832af65893154becdf8a778f81b4d1fcca11d03aca03780f8", func := "loop.example/instancesearch/laws.FnInstanceValid", spec := "fnInstanceValid", inPlace := ["internal/bytealg.IndexByteString", "internal/bytealg.IndexString", "internal/abi.NoEscape", "internal/bytealg.MakeNoZero", "internal/bytealg.CountString"], unfollowed := true, recurses := true, named := ["internal/bytealg.MaxLen"], apart := false }
def FnInstanceValidSaid : Prop := fnInstanceValidRow.holds Try.pinned (OpenSpec.ofChange fnInstanceValidSpec)

/-- ITS FALSE NEIGHBOUR: 'it returns false'. Refute it at one input. -/
def fnInstanceValidWrong : ChangeSpec := { name := "fnInstanceValid", fn := fun _ => fun
  | [d] => { results := [.lit (.bool false)], args := [d] }
  | _ => none }
def FnInstanceValidWrongFalsely : Prop := fnInstanceValidRow.holds Try.pinned (OpenSpec.ofChange fnInstanceValidWrong)

/- THE SECOND FORM. 'bulk': how many values and letters a reading holds, each counted each time it is reached (what is shared counts as often as it is met; a slice's spare places count too). A statement '..UptoSaid' is the law's where the arguments, and the package variables that the reading takes, are together of bulk at most 1048576: NARROWER than '..Said'. Prove '..Said' where nothing that the law and all that it calls make is longer than what came in: it says more and counts as full. Else prove '..UptoSaid'. A law counts once. -/
mutual
def uptoBulk {H : Type} : DataW H → Nat
  | .lit (.string bytes) => bytes.length + 1
  | .lit _ => 1
  | .nil => 1
  | .ptr d => uptoBulk d + 1
  | .slice elems spare => uptoBulkAll elems + uptoBulkAll spare + 1
  | .agg parts => uptoBulkAll parts + 1
  | .iface _ d => uptoBulk d + 1
  | .map entries => uptoBulkEntries entries + 1
  | .held _ => 1
def uptoBulkAll {H : Type} : List (DataW H) → Nat
  | [] => 0
  | d :: r => uptoBulk d + uptoBulkAll r
def uptoBulkEntries {H : Type} : List (Lit × DataW H) → Nat
  | [] => 0
  | x :: r => uptoBulkEntry x + uptoBulkEntries r
def uptoBulkEntry {H : Type} : Lit × DataW H → Nat
  | (.string bytes, d) => bytes.length + uptoBulk d + 1
  | (_, d) => uptoBulk d + 1
 end
def uptoSmall : (H : Type) → List (DataW H) → Bool := fun _ ds => decide (uptoBulkAll ds ≤ 1048576)
def OpenSpec.upto (s : _root_.Go.ChangeSpec) : _root_.Go.OpenSpec := { _root_.Go.OpenSpec.ofChange s with cond := some uptoSmall }

/-- 'laws.FnVarsOf', WHERE WHAT IT READS IS OF BULK AT MOST 1048576: true; the input reads as it did. -/
def fnVarsOfUptoRow : OpenClaim := { program := "ytaapdhacnbhohaa", sum := "dcd7c1a9e00761a832af65893154becdf8a778f81b4d1fcca11d03aca03780f8", func := "loop.example/instancesearch/laws.FnVarsOf", spec := "fnVarsOf", inPlace := ["internal/bytealg.IndexByteString", "internal/bytealg.IndexString", "internal/abi.NoEscape", "internal/bytealg.MakeNoZero", "internal/bytealg.CountString"], recurses := true, named := ["internal/bytealg.MaxLen"], apart := false, narrowed := true }
def FnVarsOfUptoSaid : Prop := fnVarsOfUptoRow.holds Try.pinned (OpenSpec.upto fnVarsOfSpec)

/-- 'laws.FnMakeType', WHERE WHAT IT READS IS OF BULK AT MOST 1048576: true; the input reads as it did. -/
def fnMakeTypeUptoRow : OpenClaim := { program := "ytaapdhacnbhohaa", sum := "dcd7c1a9e00761a832af65893154becdf8a778f81b4d1fcca11d03aca03780f8", func := "loop.example/instancesearch/laws.FnMakeType", spec := "fnMakeType", inPlace := ["internal/bytealg.IndexByteString", "internal/bytealg.IndexString", "internal/abi.NoEscape", "internal/bytealg.MakeNoZero", "internal/bytealg.CountString"], recurses := true, named := ["internal/bytealg.MaxLen"], apart := false, narrowed := true }
def FnMakeTypeUptoSaid : Prop := fnMakeTypeUptoRow.holds Try.pinned (OpenSpec.upto fnMakeTypeSpec)

/-- 'laws.FnApply', WHERE WHAT IT READS IS OF BULK AT MOST 1048576: true; the input reads as it did. -/
def fnApplyUptoRow : OpenClaim := { program := "ytaapdhacnbhohaa", sum := "dcd7c1a9e00761a832af65893154becdf8a778f81b4d1fcca11d03aca03780f8", func := "loop.example/instancesearch/laws.FnApply", spec := "fnApply", inPlace := ["internal/bytealg.IndexByteString", "internal/bytealg.IndexString", "internal/abi.NoEscape", "internal/bytealg.MakeNoZero"], recurses := true, named := ["internal/bytealg.MaxLen"], apart := false, narrowed := true }
def FnApplyUptoSaid : Prop := fnApplyUptoRow.holds Try.pinned (OpenSpec.upto fnApplySpec)

/-- 'laws.FnSupersOf', WHERE WHAT IT READS IS OF BULK AT MOST 1048576: true; the input reads as it did. -/
def fnSupersOfUptoRow : OpenClaim := { program := "ytaapdhacnbhohaa", sum := "dcd7c1a9e00761a832af65893154becdf8a778f81b4d1fcca11d03aca03780f8", func := "loop.example/instancesearch/laws.FnSupersOf", spec := "fnSupersOf", inPlace := ["internal/bytealg.IndexByteString", "internal/bytealg.IndexString"], unfollowed := true, recurses := true, named := ["internal/bytealg.MaxLen"], apart := false, narrowed := true }
def FnSupersOfUptoSaid : Prop := fnSupersOfUptoRow.holds Try.pinned (OpenSpec.upto fnSupersOfSpec)

/-- 'laws.FnInstanceValid', WHERE WHAT IT READS IS OF BULK AT MOST 1048576: true; the input reads as it did. -/
def fnInstanceValidUptoRow : OpenClaim := { program := "ytaapdhacnbhohaa", sum := "dcd7c1a9e00761a832af65893154becdf8a778f81b4d1fcca11d03aca03780f8", func := "loop.example/instancesearch/laws.FnInstanceValid", spec := "fnInstanceValid", inPlace := ["internal/bytealg.IndexByteString", "internal/bytealg.IndexString", "internal/abi.NoEscape", "internal/bytealg.MakeNoZero", "internal/bytealg.CountString"], unfollowed := true, recurses := true, named := ["internal/bytealg.MaxLen"], apart := false, narrowed := true }
def FnInstanceValidUptoSaid : Prop := fnInstanceValidUptoRow.holds Try.pinned (OpenSpec.upto fnInstanceValidSpec)

end Rows
end Go.Proofs.Ytaapdhacnbhohaa
