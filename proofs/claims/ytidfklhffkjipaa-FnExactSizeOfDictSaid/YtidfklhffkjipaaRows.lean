/-
  No cell of these rows narrows 'for every input' (looked for: loops, veiled, ifaces, maps, wideKeys, modest, calm, conditions, laid).
  DERIVED. THE GIVEN ROWS OF THIS SEAT. 12 by the template 'for every input the law returns true; each argument reads behind the call as it read before'; 0 by the template 'total and deterministic' (their statements: YtidfklhffkjipaaTotals.lean).
  GIVEN WITH THE SEED: the statements are not yours to turn. If you find one false, say at which input.
  Laid BY PROGRAM, IN A SANDBOX (cutbox-rows.mjs): the forced cells as the released guide's own fill.sh prints them over the translation 312e2e53e334fa16… (all of the seat's roots in one cut). By AI agents, Wed Nov 11 2026. No macro, syntax, notation, axiom, sorry.
-/
import Derived.Test.YtidfklhffkjipaaChecked
import GoSem.Claim
import GoSem.ClaimJoined
import GoSem.ClaimMapViews
import Derived.JoinedTies
import Derived.KernelRfl
namespace Go.Proofs.Ytidfklhffkjipaa
/- THE CELL 'sum', in the pinned program and in every row, IS THE sha256 OF THE DUMP (.gsa) THAT YtidfklhffkjipaaProg.lean LOADS. Nothing in Lean hashes anything: it is a label: what it is worth is what the hold of that sum in a sandbox is worth. -/
noncomputable def Try.pinned : Pinned := { name := "ytidfklhffkjipaa", sum := "312e2e53e334fa16c15b04f3884d5eaa9c8e817d6a41c23864f81c96fcb19833", checked := Try.checked }
namespace Rows
def none {H : Type} : Left H := { results := [], args := [] }

/-- 'laws.FnExactConstants': WHATEVER THE INPUT: true; the input reads as it did. -/
def fnExactConstantsSpec : ChangeSpec := { name := "fnExactConstants", fn := fun _ => fun
  | [] => { results := [.lit (.bool true)], args := [] }
  | _ => none }
def fnExactConstantsRow : OpenClaim := { program := "ytidfklhffkjipaa", sum := "312e2e53e334fa16c15b04f3884d5eaa9c8e817d6a41c23864f81c96fcb19833", func := "loop.example/instancesearch/laws.FnExactConstants", spec := "fnExactConstants", apart := false }
def FnExactConstantsSaid : Prop := fnExactConstantsRow.holds Try.pinned (OpenSpec.ofChange fnExactConstantsSpec)

/-- ITS FALSE NEIGHBOUR: 'it returns false'. Refute it at one input. -/
def fnExactConstantsWrong : ChangeSpec := { name := "fnExactConstants", fn := fun _ => fun
  | [] => { results := [.lit (.bool false)], args := [] }
  | _ => none }
def FnExactConstantsWrongFalsely : Prop := fnExactConstantsRow.holds Try.pinned (OpenSpec.ofChange fnExactConstantsWrong)

/-- 'laws.FnExactFormatNeed': WHATEVER THE INPUT: true; the input reads as it did. -/
def fnExactFormatNeedSpec : ChangeSpec := { name := "fnExactFormatNeed", fn := fun _ => fun
  | [d] => { results := [.lit (.bool true)], args := [d] }
  | _ => none }
def fnExactFormatNeedRow : OpenClaim := { program := "ytidfklhffkjipaa", sum := "312e2e53e334fa16c15b04f3884d5eaa9c8e817d6a41c23864f81c96fcb19833", func := "loop.example/instancesearch/laws.FnExactFormatNeed", spec := "fnExactFormatNeed", apart := false }
def FnExactFormatNeedSaid : Prop := fnExactFormatNeedRow.holds Try.pinned (OpenSpec.ofChange fnExactFormatNeedSpec)

/-- ITS FALSE NEIGHBOUR: 'it returns false'. Refute it at one input. -/
def fnExactFormatNeedWrong : ChangeSpec := { name := "fnExactFormatNeed", fn := fun _ => fun
  | [d] => { results := [.lit (.bool false)], args := [d] }
  | _ => none }
def FnExactFormatNeedWrongFalsely : Prop := fnExactFormatNeedRow.holds Try.pinned (OpenSpec.ofChange fnExactFormatNeedWrong)

/-- 'laws.FnExactDictValid': WHATEVER THE INPUT: true; the input reads as it did. -/
def fnExactDictValidSpec : ChangeSpec := { name := "fnExactDictValid", fn := fun _ => fun
  | [d] => { results := [.lit (.bool true)], args := [d] }
  | _ => none }
def fnExactDictValidRow : OpenClaim := { program := "ytidfklhffkjipaa", sum := "312e2e53e334fa16c15b04f3884d5eaa9c8e817d6a41c23864f81c96fcb19833", func := "loop.example/instancesearch/laws.FnExactDictValid", spec := "fnExactDictValid", recurses := true, apart := false }
def FnExactDictValidSaid : Prop := fnExactDictValidRow.holds Try.pinned (OpenSpec.ofChange fnExactDictValidSpec)

/-- ITS FALSE NEIGHBOUR: 'it returns false'. Refute it at one input. -/
def fnExactDictValidWrong : ChangeSpec := { name := "fnExactDictValid", fn := fun _ => fun
  | [d] => { results := [.lit (.bool false)], args := [d] }
  | _ => none }
def FnExactDictValidWrongFalsely : Prop := fnExactDictValidRow.holds Try.pinned (OpenSpec.ofChange fnExactDictValidWrong)

/-- 'laws.FnExactInstanceOf': WHATEVER THE INPUT: true; the input reads as it did. -/
def fnExactInstanceOfSpec : ChangeSpec := { name := "fnExactInstanceOf", fn := fun _ => fun
  | [d] => { results := [.lit (.bool true)], args := [d] }
  | _ => none }
def fnExactInstanceOfRow : OpenClaim := { program := "ytidfklhffkjipaa", sum := "312e2e53e334fa16c15b04f3884d5eaa9c8e817d6a41c23864f81c96fcb19833", func := "loop.example/instancesearch/laws.FnExactInstanceOf", spec := "fnExactInstanceOf", recurses := true, apart := false }
def FnExactInstanceOfSaid : Prop := fnExactInstanceOfRow.holds Try.pinned (OpenSpec.ofChange fnExactInstanceOfSpec)

/-- ITS FALSE NEIGHBOUR: 'it returns false'. Refute it at one input. -/
def fnExactInstanceOfWrong : ChangeSpec := { name := "fnExactInstanceOf", fn := fun _ => fun
  | [d] => { results := [.lit (.bool false)], args := [d] }
  | _ => none }
def FnExactInstanceOfWrongFalsely : Prop := fnExactInstanceOfRow.holds Try.pinned (OpenSpec.ofChange fnExactInstanceOfWrong)

/-- 'laws.FnExactSizeOfDict': WHATEVER THE INPUT: true; the input reads as it did. -/
def fnExactSizeOfDictSpec : ChangeSpec := { name := "fnExactSizeOfDict", fn := fun _ => fun
  | [d] => { results := [.lit (.bool true)], args := [d] }
  | _ => none }
def fnExactSizeOfDictRow : OpenClaim := { program := "ytidfklhffkjipaa", sum := "312e2e53e334fa16c15b04f3884d5eaa9c8e817d6a41c23864f81c96fcb19833", func := "loop.example/instancesearch/laws.FnExactSizeOfDict", spec := "fnExactSizeOfDict", recurses := true, apart := false }
def FnExactSizeOfDictSaid : Prop := fnExactSizeOfDictRow.holds Try.pinned (OpenSpec.ofChange fnExactSizeOfDictSpec)

/-- ITS FALSE NEIGHBOUR: 'it returns false'. Refute it at one input. -/
def fnExactSizeOfDictWrong : ChangeSpec := { name := "fnExactSizeOfDict", fn := fun _ => fun
  | [d] => { results := [.lit (.bool false)], args := [d] }
  | _ => none }
def FnExactSizeOfDictWrongFalsely : Prop := fnExactSizeOfDictRow.holds Try.pinned (OpenSpec.ofChange fnExactSizeOfDictWrong)

/-- 'laws.FnExactDepthOfDict': WHATEVER THE INPUT: true; the input reads as it did. -/
def fnExactDepthOfDictSpec : ChangeSpec := { name := "fnExactDepthOfDict", fn := fun _ => fun
  | [d] => { results := [.lit (.bool true)], args := [d] }
  | _ => none }
def fnExactDepthOfDictRow : OpenClaim := { program := "ytidfklhffkjipaa", sum := "312e2e53e334fa16c15b04f3884d5eaa9c8e817d6a41c23864f81c96fcb19833", func := "loop.example/instancesearch/laws.FnExactDepthOfDict", spec := "fnExactDepthOfDict", recurses := true, apart := false }
def FnExactDepthOfDictSaid : Prop := fnExactDepthOfDictRow.holds Try.pinned (OpenSpec.ofChange fnExactDepthOfDictSpec)

/-- ITS FALSE NEIGHBOUR: 'it returns false'. Refute it at one input. -/
def fnExactDepthOfDictWrong : ChangeSpec := { name := "fnExactDepthOfDict", fn := fun _ => fun
  | [d] => { results := [.lit (.bool false)], args := [d] }
  | _ => none }
def FnExactDepthOfDictWrongFalsely : Prop := fnExactDepthOfDictRow.holds Try.pinned (OpenSpec.ofChange fnExactDepthOfDictWrong)

/-- 'laws.FnExactFormatBindings': WHATEVER THE INPUT: true; the input reads as it did. -/
def fnExactFormatBindingsSpec : ChangeSpec := { name := "fnExactFormatBindings", fn := fun _ => fun
  | [d] => { results := [.lit (.bool true)], args := [d] }
  | _ => none }
def fnExactFormatBindingsRow : OpenClaim := { program := "ytidfklhffkjipaa", sum := "312e2e53e334fa16c15b04f3884d5eaa9c8e817d6a41c23864f81c96fcb19833", func := "loop.example/instancesearch/laws.FnExactFormatBindings", spec := "fnExactFormatBindings", inPlace := ["internal/abi.NoEscape", "internal/bytealg.MakeNoZero"], apart := false }
def FnExactFormatBindingsSaid : Prop := fnExactFormatBindingsRow.holds Try.pinned (OpenSpec.ofChange fnExactFormatBindingsSpec)

/-- ITS FALSE NEIGHBOUR: 'it returns false'. Refute it at one input. -/
def fnExactFormatBindingsWrong : ChangeSpec := { name := "fnExactFormatBindings", fn := fun _ => fun
  | [d] => { results := [.lit (.bool false)], args := [d] }
  | _ => none }
def FnExactFormatBindingsWrongFalsely : Prop := fnExactFormatBindingsRow.holds Try.pinned (OpenSpec.ofChange fnExactFormatBindingsWrong)

/-- 'laws.FnExactFormatInstance': WHATEVER THE INPUT: true; the input reads as it did. -/
def fnExactFormatInstanceSpec : ChangeSpec := { name := "fnExactFormatInstance", fn := fun _ => fun
  | [d] => { results := [.lit (.bool true)], args := [d] }
  | _ => none }
def fnExactFormatInstanceRow : OpenClaim := { program := "ytidfklhffkjipaa", sum := "312e2e53e334fa16c15b04f3884d5eaa9c8e817d6a41c23864f81c96fcb19833", func := "loop.example/instancesearch/laws.FnExactFormatInstance", spec := "fnExactFormatInstance", inPlace := ["internal/abi.NoEscape", "internal/bytealg.MakeNoZero"], apart := false }
def FnExactFormatInstanceSaid : Prop := fnExactFormatInstanceRow.holds Try.pinned (OpenSpec.ofChange fnExactFormatInstanceSpec)

/-- ITS FALSE NEIGHBOUR: 'it returns false'. Refute it at one input. -/
def fnExactFormatInstanceWrong : ChangeSpec := { name := "fnExactFormatInstance", fn := fun _ => fun
  | [d] => { results := [.lit (.bool false)], args := [d] }
  | _ => none }
def FnExactFormatInstanceWrongFalsely : Prop := fnExactFormatInstanceRow.holds Try.pinned (OpenSpec.ofChange fnExactFormatInstanceWrong)

/-- 'laws.FnExactTypeValid': WHATEVER THE INPUT: true; the input reads as it did. -/
def fnExactTypeValidSpec : ChangeSpec := { name := "fnExactTypeValid", fn := fun _ => fun
  | [d] => { results := [.lit (.bool true)], args := [d] }
  | _ => none }
def fnExactTypeValidRow : OpenClaim := { program := "ytidfklhffkjipaa", sum := "312e2e53e334fa16c15b04f3884d5eaa9c8e817d6a41c23864f81c96fcb19833", func := "loop.example/instancesearch/laws.FnExactTypeValid", spec := "fnExactTypeValid", inPlace := ["internal/bytealg.IndexByteString", "internal/bytealg.IndexString"], recurses := true, named := ["internal/bytealg.MaxLen"], apart := false }
def FnExactTypeValidSaid : Prop := fnExactTypeValidRow.holds Try.pinned (OpenSpec.ofChange fnExactTypeValidSpec)

/-- ITS FALSE NEIGHBOUR: 'it returns false'. Refute it at one input. -/
def fnExactTypeValidWrong : ChangeSpec := { name := "fnExactTypeValid", fn := fun _ => fun
  | [d] => { results := [.lit (.bool false)], args := [d] }
  | _ => none }
def FnExactTypeValidWrongFalsely : Prop := fnExactTypeValidRow.holds Try.pinned (OpenSpec.ofChange fnExactTypeValidWrong)

/-- 'laws.FnExactHeadOf': WHATEVER THE INPUT: true; the input reads as it did. -/
def fnExactHeadOfSpec : ChangeSpec := { name := "fnExactHeadOf", fn := fun _ => fun
  | [d] => { results := [.lit (.bool true)], args := [d] }
  | _ => none }
def fnExactHeadOfRow : OpenClaim := { program := "ytidfklhffkjipaa", sum := "312e2e53e334fa16c15b04f3884d5eaa9c8e817d6a41c23864f81c96fcb19833", func := "loop.example/instancesearch/laws.FnExactHeadOf", spec := "fnExactHeadOf", inPlace := ["internal/bytealg.IndexByteString", "internal/bytealg.IndexString"], recurses := true, named := ["internal/bytealg.MaxLen"], apart := false }
def FnExactHeadOfSaid : Prop := fnExactHeadOfRow.holds Try.pinned (OpenSpec.ofChange fnExactHeadOfSpec)

/-- ITS FALSE NEIGHBOUR: 'it returns false'. Refute it at one input. -/
def fnExactHeadOfWrong : ChangeSpec := { name := "fnExactHeadOf", fn := fun _ => fun
  | [d] => { results := [.lit (.bool false)], args := [d] }
  | _ => none }
def FnExactHeadOfWrongFalsely : Prop := fnExactHeadOfRow.holds Try.pinned (OpenSpec.ofChange fnExactHeadOfWrong)

/-- 'laws.FnExactDepthOf': WHATEVER THE INPUT: true; the input reads as it did. -/
def fnExactDepthOfSpec : ChangeSpec := { name := "fnExactDepthOf", fn := fun _ => fun
  | [d] => { results := [.lit (.bool true)], args := [d] }
  | _ => none }
def fnExactDepthOfRow : OpenClaim := { program := "ytidfklhffkjipaa", sum := "312e2e53e334fa16c15b04f3884d5eaa9c8e817d6a41c23864f81c96fcb19833", func := "loop.example/instancesearch/laws.FnExactDepthOf", spec := "fnExactDepthOf", inPlace := ["internal/bytealg.IndexByteString", "internal/bytealg.IndexString"], recurses := true, named := ["internal/bytealg.MaxLen"], apart := false }
def FnExactDepthOfSaid : Prop := fnExactDepthOfRow.holds Try.pinned (OpenSpec.ofChange fnExactDepthOfSpec)

/-- ITS FALSE NEIGHBOUR: 'it returns false'. Refute it at one input. -/
def fnExactDepthOfWrong : ChangeSpec := { name := "fnExactDepthOf", fn := fun _ => fun
  | [d] => { results := [.lit (.bool false)], args := [d] }
  | _ => none }
def FnExactDepthOfWrongFalsely : Prop := fnExactDepthOfRow.holds Try.pinned (OpenSpec.ofChange fnExactDepthOfWrong)

/-- 'laws.FnExactSizeOf': WHATEVER THE INPUT: true; the input reads as it did. -/
def fnExactSizeOfSpec : ChangeSpec := { name := "fnExactSizeOf", fn := fun _ => fun
  | [d] => { results := [.lit (.bool true)], args := [d] }
  | _ => none }
def fnExactSizeOfRow : OpenClaim := { program := "ytidfklhffkjipaa", sum := "312e2e53e334fa16c15b04f3884d5eaa9c8e817d6a41c23864f81c96fcb19833", func := "loop.example/instancesearch/laws.FnExactSizeOf", spec := "fnExactSizeOf", inPlace := ["internal/bytealg.IndexByteString", "internal/bytealg.IndexString", "internal/bytealg.CountString"], recurses := true, named := ["internal/bytealg.MaxLen"], apart := false }
def FnExactSizeOfSaid : Prop := fnExactSizeOfRow.holds Try.pinned (OpenSpec.ofChange fnExactSizeOfSpec)

/-- ITS FALSE NEIGHBOUR: 'it returns false'. Refute it at one input. -/
def fnExactSizeOfWrong : ChangeSpec := { name := "fnExactSizeOf", fn := fun _ => fun
  | [d] => { results := [.lit (.bool false)], args := [d] }
  | _ => none }
def FnExactSizeOfWrongFalsely : Prop := fnExactSizeOfRow.holds Try.pinned (OpenSpec.ofChange fnExactSizeOfWrong)

/- THE SECOND FORM. 'bulk': how many values and letters a reading holds, each counted each time it is reached (what is shared counts as often as it is met; a slice's spare places count too). A statement '..UptoSaid' is the law's where the arguments, and the package variables that the reading takes, are together of bulk at most 1048576: NARROWER than '..Said'. Prove '..Said' where nothing that the law and all that it calls make is longer than what came in: it says more and counts as full. Else prove '..UptoSaid'. A law counts once. -/
mutual
def uptoBulk {H : Type} : DataW H → Nat
  | .lit (.string bytes) => bytes.length + 1
  | .lit _ => 1
  | .nil => 1
  | .ptr d => uptoBulk d + 1
  | .slice elems spare => uptoBulkAll elems + uptoBulkAll spare + 1
  | .agg parts => uptoBulkAll parts + 1
  | .iface _ d => uptoBulk d + 1
  | .map entries => uptoBulkEntries entries + 1
  | .held _ => 1
def uptoBulkAll {H : Type} : List (DataW H) → Nat
  | [] => 0
  | d :: r => uptoBulk d + uptoBulkAll r
def uptoBulkEntries {H : Type} : List (Lit × DataW H) → Nat
  | [] => 0
  | x :: r => uptoBulkEntry x + uptoBulkEntries r
def uptoBulkEntry {H : Type} : Lit × DataW H → Nat
  | (.string bytes, d) => bytes.length + uptoBulk d + 1
  | (_, d) => uptoBulk d + 1
 end
def uptoSmall : (H : Type) → List (DataW H) → Bool := fun _ ds => decide (uptoBulkAll ds ≤ 1048576)
def OpenSpec.upto (s : _root_.Go.ChangeSpec) : _root_.Go.OpenSpec := { _root_.Go.OpenSpec.ofChange s with cond := some uptoSmall }

/-- 'laws.FnExactConstants', WHERE WHAT IT READS IS OF BULK AT MOST 1048576: true; the input reads as it did. -/
def fnExactConstantsUptoRow : OpenClaim := { program := "ytidfklhffkjipaa", sum := "312e2e53e334fa16c15b04f3884d5eaa9c8e817d6a41c23864f81c96fcb19833", func := "loop.example/instancesearch/laws.FnExactConstants", spec := "fnExactConstants", apart := false, narrowed := true }
def FnExactConstantsUptoSaid : Prop := fnExactConstantsUptoRow.holds Try.pinned (OpenSpec.upto fnExactConstantsSpec)

/-- 'laws.FnExactFormatNeed', WHERE WHAT IT READS IS OF BULK AT MOST 1048576: true; the input reads as it did. -/
def fnExactFormatNeedUptoRow : OpenClaim := { program := "ytidfklhffkjipaa", sum := "312e2e53e334fa16c15b04f3884d5eaa9c8e817d6a41c23864f81c96fcb19833", func := "loop.example/instancesearch/laws.FnExactFormatNeed", spec := "fnExactFormatNeed", apart := false, narrowed := true }
def FnExactFormatNeedUptoSaid : Prop := fnExactFormatNeedUptoRow.holds Try.pinned (OpenSpec.upto fnExactFormatNeedSpec)

/-- 'laws.FnExactDictValid', WHERE WHAT IT READS IS OF BULK AT MOST 1048576: true; the input reads as it did. -/
def fnExactDictValidUptoRow : OpenClaim := { program := "ytidfklhffkjipaa", sum := "312e2e53e334fa16c15b04f3884d5eaa9c8e817d6a41c23864f81c96fcb19833", func := "loop.example/instancesearch/laws.FnExactDictValid", spec := "fnExactDictValid", recurses := true, apart := false, narrowed := true }
def FnExactDictValidUptoSaid : Prop := fnExactDictValidUptoRow.holds Try.pinned (OpenSpec.upto fnExactDictValidSpec)

/-- 'laws.FnExactInstanceOf', WHERE WHAT IT READS IS OF BULK AT MOST 1048576: true; the input reads as it did. -/
def fnExactInstanceOfUptoRow : OpenClaim := { program := "ytidfklhffkjipaa", sum := "312e2e53e334fa16c15b04f3884d5eaa9c8e817d6a41c23864f81c96fcb19833", func := "loop.example/instancesearch/laws.FnExactInstanceOf", spec := "fnExactInstanceOf", recurses := true, apart := false, narrowed := true }
def FnExactInstanceOfUptoSaid : Prop := fnExactInstanceOfUptoRow.holds Try.pinned (OpenSpec.upto fnExactInstanceOfSpec)

/-- 'laws.FnExactSizeOfDict', WHERE WHAT IT READS IS OF BULK AT MOST 1048576: true; the input reads as it did. -/
def fnExactSizeOfDictUptoRow : OpenClaim := { program := "ytidfklhffkjipaa", sum := "312e2e53e334fa16c15b04f3884d5eaa9c8e817d6a41c23864f81c96fcb19833", func := "loop.example/instancesearch/laws.FnExactSizeOfDict", spec := "fnExactSizeOfDict", recurses := true, apart := false, narrowed := true }
def FnExactSizeOfDictUptoSaid : Prop := fnExactSizeOfDictUptoRow.holds Try.pinned (OpenSpec.upto fnExactSizeOfDictSpec)

/-- 'laws.FnExactDepthOfDict', WHERE WHAT IT READS IS OF BULK AT MOST 1048576: true; the input reads as it did. -/
def fnExactDepthOfDictUptoRow : OpenClaim := { program := "ytidfklhffkjipaa", sum := "312e2e53e334fa16c15b04f3884d5eaa9c8e817d6a41c23864f81c96fcb19833", func := "loop.example/instancesearch/laws.FnExactDepthOfDict", spec := "fnExactDepthOfDict", recurses := true, apart := false, narrowed := true }
def FnExactDepthOfDictUptoSaid : Prop := fnExactDepthOfDictUptoRow.holds Try.pinned (OpenSpec.upto fnExactDepthOfDictSpec)

/-- 'laws.FnExactFormatBindings', WHERE WHAT IT READS IS OF BULK AT MOST 1048576: true; the input reads as it did. -/
def fnExactFormatBindingsUptoRow : OpenClaim := { program := "ytidfklhffkjipaa", sum := "312e2e53e334fa16c15b04f3884d5eaa9c8e817d6a41c23864f81c96fcb19833", func := "loop.example/instancesearch/laws.FnExactFormatBindings", spec := "fnExactFormatBindings", inPlace := ["internal/abi.NoEscape", "internal/bytealg.MakeNoZero"], apart := false, narrowed := true }
def FnExactFormatBindingsUptoSaid : Prop := fnExactFormatBindingsUptoRow.holds Try.pinned (OpenSpec.upto fnExactFormatBindingsSpec)

/-- 'laws.FnExactFormatInstance', WHERE WHAT IT READS IS OF BULK AT MOST 1048576: true; the input reads as it did. -/
def fnExactFormatInstanceUptoRow : OpenClaim := { program := "ytidfklhffkjipaa", sum := "312e2e53e334fa16c15b04f3884d5eaa9c8e817d6a41c23864f81c96fcb19833", func := "loop.example/instancesearch/laws.FnExactFormatInstance", spec := "fnExactFormatInstance", inPlace := ["internal/abi.NoEscape", "internal/bytealg.MakeNoZero"], apart := false, narrowed := true }
def FnExactFormatInstanceUptoSaid : Prop := fnExactFormatInstanceUptoRow.holds Try.pinned (OpenSpec.upto fnExactFormatInstanceSpec)

/-- 'laws.FnExactTypeValid', WHERE WHAT IT READS IS OF BULK AT MOST 1048576: true; the input reads as it did. -/
def fnExactTypeValidUptoRow : OpenClaim := { program := "ytidfklhffkjipaa", sum := "312e2e53e334fa16c15b04f3884d5eaa9c8e817d6a41c23864f81c96fcb19833", func := "loop.example/instancesearch/laws.FnExactTypeValid", spec := "fnExactTypeValid", inPlace := ["internal/bytealg.IndexByteString", "internal/bytealg.IndexString"], recurses := true, named := ["internal/bytealg.MaxLen"], apart := false, narrowed := true }
def FnExactTypeValidUptoSaid : Prop := fnExactTypeValidUptoRow.holds Try.pinned (OpenSpec.upto fnExactTypeValidSpec)

/-- 'laws.FnExactHeadOf', WHERE WHAT IT READS IS OF BULK AT MOST 1048576: true; the input reads as it did. -/
def fnExactHeadOfUptoRow : OpenClaim := { program := "ytidfklhffkjipaa", sum := "312e2e53e334fa16c15b04f3884d5eaa9c8e817d6a41c23864f81c96fcb19833", func := "loop.example/instancesearch/laws.FnExactHeadOf", spec := "fnExactHeadOf", inPlace := ["internal/bytealg.IndexByteString", "internal/bytealg.IndexString"], recurses := true, named := ["internal/bytealg.MaxLen"], apart := false, narrowed := true }
def FnExactHeadOfUptoSaid : Prop := fnExactHeadOfUptoRow.holds Try.pinned (OpenSpec.upto fnExactHeadOfSpec)

/-- 'laws.FnExactDepthOf', WHERE WHAT IT READS IS OF BULK AT MOST 1048576: true; the input reads as it did. -/
def fnExactDepthOfUptoRow : OpenClaim := { program := "ytidfklhffkjipaa", sum := "312e2e53e334fa16c15b04f3884d5eaa9c8e817d6a41c23864f81c96fcb19833", func := "loop.example/instancesearch/laws.FnExactDepthOf", spec := "fnExactDepthOf", inPlace := ["internal/bytealg.IndexByteString", "internal/bytealg.IndexString"], recurses := true, named := ["internal/bytealg.MaxLen"], apart := false, narrowed := true }
def FnExactDepthOfUptoSaid : Prop := fnExactDepthOfUptoRow.holds Try.pinned (OpenSpec.upto fnExactDepthOfSpec)

/-- 'laws.FnExactSizeOf', WHERE WHAT IT READS IS OF BULK AT MOST 1048576: true; the input reads as it did. -/
def fnExactSizeOfUptoRow : OpenClaim := { program := "ytidfklhffkjipaa", sum := "312e2e53e334fa16c15b04f3884d5eaa9c8e817d6a41c23864f81c96fcb19833", func := "loop.example/instancesearch/laws.FnExactSizeOf", spec := "fnExactSizeOf", inPlace := ["internal/bytealg.IndexByteString", "internal/bytealg.IndexString", "internal/bytealg.CountString"], recurses := true, named := ["internal/bytealg.MaxLen"], apart := false, narrowed := true }
def FnExactSizeOfUptoSaid : Prop := fnExactSizeOfUptoRow.holds Try.pinned (OpenSpec.upto fnExactSizeOfSpec)

end Rows
end Go.Proofs.Ytidfklhffkjipaa
