/-
  No cell of these rows narrows 'for every input' (looked for: loops, veiled, ifaces, maps, wideKeys, modest, calm, conditions, laid).
  DERIVED. THE GIVEN ROWS OF THIS SEAT. 8 by the template 'for every input the law returns true; each argument reads behind the call as it read before'; 0 by the template 'total and deterministic' (their statements: YtaijklafgcocmaaTotals.lean).
  GIVEN WITH THE SEED: the statements are not yours to turn. If you find one false, say at which input.
  Laid BY PROGRAM, IN A SANDBOX (cutbox-rows.mjs): the forced cells as the released guide's own fill.sh prints them over the translation 07fc6dd5e74b1665… (all of the seat's roots in one cut). By AI agents, Wed Nov 11 2026. No macro, syntax, notation, axiom, sorry.
-/
import Derived.Test.YtaijklafgcocmaaChecked
import GoSem.Claim
import GoSem.ClaimJoined
import GoSem.ClaimMapViews
import Derived.JoinedTies
import Derived.KernelRfl
namespace Go.Proofs.Ytaijklafgcocmaa
/- THE CELL 'sum', in the pinned program and in every row, IS THE sha256 OF THE DUMP (.gsa) THAT YtaijklafgcocmaaProg.lean LOADS. Nothing in Lean hashes anything: it is a label: what it is worth is what the hold of that sum in a sandbox is worth. -/
noncomputable def Try.pinned : Pinned := { name := "ytaijklafgcocmaa", sum := "07fc6dd5e74b1665f7817f3605abf7b175c6b162aa8d61ddeead1b8bb8300802", checked := Try.checked }
namespace Rows
def none {H : Type} : Left H := { results := [], args := [] }

/-- 'laws.FnExactInstanceValid': WHATEVER THE INPUT: true; the input reads as it did. -/
def fnExactInstanceValidSpec : ChangeSpec := { name := "fnExactInstanceValid", fn := fun _ => fun
  | [d1, d2] => { results := [.lit (.bool true)], args := [d1, d2] }
  | _ => none }
def fnExactInstanceValidRow : OpenClaim := { program := "ytaijklafgcocmaa", sum := "07fc6dd5e74b1665f7817f3605abf7b175c6b162aa8d61ddeead1b8bb8300802", func := "loop.example/instancesearch/laws.FnExactInstanceValid", spec := "fnExactInstanceValid", inPlace := ["internal/bytealg.IndexByteString", "internal/bytealg.IndexString"], unfollowed := true, recurses := true, named := ["internal/bytealg.MaxLen"], apart := false }
def FnExactInstanceValidSaid : Prop := fnExactInstanceValidRow.holds Try.pinned (OpenSpec.ofChange fnExactInstanceValidSpec)

/-- ITS FALSE NEIGHBOUR: 'it returns false'. Refute it at one input. -/
def fnExactInstanceValidWrong : ChangeSpec := { name := "fnExactInstanceValid", fn := fun _ => fun
  | [d1, d2] => { results := [.lit (.bool false)], args := [d1, d2] }
  | _ => none }
def FnExactInstanceValidWrongFalsely : Prop := fnExactInstanceValidRow.holds Try.pinned (OpenSpec.ofChange fnExactInstanceValidWrong)

/-- 'laws.FnExactWorldValid': WHATEVER THE INPUT: true; the input reads as it did. -/
def fnExactWorldValidSpec : ChangeSpec := { name := "fnExactWorldValid", fn := fun _ => fun
  | [d] => { results := [.lit (.bool true)], args := [d] }
  | _ => none }
def fnExactWorldValidRow : OpenClaim := { program := "ytaijklafgcocmaa", sum := "07fc6dd5e74b1665f7817f3605abf7b175c6b162aa8d61ddeead1b8bb8300802", func := "loop.example/instancesearch/laws.FnExactWorldValid", spec := "fnExactWorldValid", inPlace := ["internal/bytealg.IndexByteString", "internal/bytealg.IndexString"], unfollowed := true, recurses := true, named := ["internal/bytealg.MaxLen"], apart := false }
def FnExactWorldValidSaid : Prop := fnExactWorldValidRow.holds Try.pinned (OpenSpec.ofChange fnExactWorldValidSpec)

/-- ITS FALSE NEIGHBOUR: 'it returns false'. Refute it at one input. -/
def fnExactWorldValidWrong : ChangeSpec := { name := "fnExactWorldValid", fn := fun _ => fun
  | [d] => { results := [.lit (.bool false)], args := [d] }
  | _ => none }
def FnExactWorldValidWrongFalsely : Prop := fnExactWorldValidRow.holds Try.pinned (OpenSpec.ofChange fnExactWorldValidWrong)

/-- 'laws.FnExactHasClass': WHATEVER THE INPUT: true; the input reads as it did. -/
def fnExactHasClassSpec : ChangeSpec := { name := "fnExactHasClass", fn := fun _ => fun
  | [d1, d2] => { results := [.lit (.bool true)], args := [d1, d2] }
  | _ => none }
def fnExactHasClassRow : OpenClaim := { program := "ytaijklafgcocmaa", sum := "07fc6dd5e74b1665f7817f3605abf7b175c6b162aa8d61ddeead1b8bb8300802", func := "loop.example/instancesearch/laws.FnExactHasClass", spec := "fnExactHasClass", inPlace := ["internal/bytealg.IndexByteString", "internal/bytealg.IndexString"], unfollowed := true, recurses := true, named := ["internal/bytealg.MaxLen"], apart := false }
def FnExactHasClassSaid : Prop := fnExactHasClassRow.holds Try.pinned (OpenSpec.ofChange fnExactHasClassSpec)

/-- ITS FALSE NEIGHBOUR: 'it returns false'. Refute it at one input. -/
def fnExactHasClassWrong : ChangeSpec := { name := "fnExactHasClass", fn := fun _ => fun
  | [d1, d2] => { results := [.lit (.bool false)], args := [d1, d2] }
  | _ => none }
def FnExactHasClassWrongFalsely : Prop := fnExactHasClassRow.holds Try.pinned (OpenSpec.ofChange fnExactHasClassWrong)

/-- 'laws.FnExactNeedValid': WHATEVER THE INPUT: true; the input reads as it did. -/
def fnExactNeedValidSpec : ChangeSpec := { name := "fnExactNeedValid", fn := fun _ => fun
  | [d1, d2] => { results := [.lit (.bool true)], args := [d1, d2] }
  | _ => none }
def fnExactNeedValidRow : OpenClaim := { program := "ytaijklafgcocmaa", sum := "07fc6dd5e74b1665f7817f3605abf7b175c6b162aa8d61ddeead1b8bb8300802", func := "loop.example/instancesearch/laws.FnExactNeedValid", spec := "fnExactNeedValid", inPlace := ["internal/bytealg.IndexByteString", "internal/bytealg.IndexString"], unfollowed := true, recurses := true, named := ["internal/bytealg.MaxLen"], apart := false }
def FnExactNeedValidSaid : Prop := fnExactNeedValidRow.holds Try.pinned (OpenSpec.ofChange fnExactNeedValidSpec)

/-- ITS FALSE NEIGHBOUR: 'it returns false'. Refute it at one input. -/
def fnExactNeedValidWrong : ChangeSpec := { name := "fnExactNeedValid", fn := fun _ => fun
  | [d1, d2] => { results := [.lit (.bool false)], args := [d1, d2] }
  | _ => none }
def FnExactNeedValidWrongFalsely : Prop := fnExactNeedValidRow.holds Try.pinned (OpenSpec.ofChange fnExactNeedValidWrong)

/-- 'laws.FnExactSupersOf': WHATEVER THE INPUT: true; the input reads as it did. -/
def fnExactSupersOfSpec : ChangeSpec := { name := "fnExactSupersOf", fn := fun _ => fun
  | [d1, d2] => { results := [.lit (.bool true)], args := [d1, d2] }
  | _ => none }
def fnExactSupersOfRow : OpenClaim := { program := "ytaijklafgcocmaa", sum := "07fc6dd5e74b1665f7817f3605abf7b175c6b162aa8d61ddeead1b8bb8300802", func := "loop.example/instancesearch/laws.FnExactSupersOf", spec := "fnExactSupersOf", inPlace := ["internal/bytealg.IndexByteString", "internal/bytealg.IndexString"], unfollowed := true, recurses := true, named := ["internal/bytealg.MaxLen"], apart := false }
def FnExactSupersOfSaid : Prop := fnExactSupersOfRow.holds Try.pinned (OpenSpec.ofChange fnExactSupersOfSpec)

/-- ITS FALSE NEIGHBOUR: 'it returns false'. Refute it at one input. -/
def fnExactSupersOfWrong : ChangeSpec := { name := "fnExactSupersOf", fn := fun _ => fun
  | [d1, d2] => { results := [.lit (.bool false)], args := [d1, d2] }
  | _ => none }
def FnExactSupersOfWrongFalsely : Prop := fnExactSupersOfRow.holds Try.pinned (OpenSpec.ofChange fnExactSupersOfWrong)

/-- 'laws.FnExactInstancesFor': WHATEVER THE INPUT: true; the input reads as it did. -/
def fnExactInstancesForSpec : ChangeSpec := { name := "fnExactInstancesFor", fn := fun _ => fun
  | [d1, d2] => { results := [.lit (.bool true)], args := [d1, d2] }
  | _ => none }
def fnExactInstancesForRow : OpenClaim := { program := "ytaijklafgcocmaa", sum := "07fc6dd5e74b1665f7817f3605abf7b175c6b162aa8d61ddeead1b8bb8300802", func := "loop.example/instancesearch/laws.FnExactInstancesFor", spec := "fnExactInstancesFor", inPlace := ["internal/bytealg.IndexByteString", "internal/bytealg.IndexString"], unfollowed := true, recurses := true, named := ["internal/bytealg.MaxLen"], apart := false }
def FnExactInstancesForSaid : Prop := fnExactInstancesForRow.holds Try.pinned (OpenSpec.ofChange fnExactInstancesForSpec)

/-- ITS FALSE NEIGHBOUR: 'it returns false'. Refute it at one input. -/
def fnExactInstancesForWrong : ChangeSpec := { name := "fnExactInstancesFor", fn := fun _ => fun
  | [d1, d2] => { results := [.lit (.bool false)], args := [d1, d2] }
  | _ => none }
def FnExactInstancesForWrongFalsely : Prop := fnExactInstancesForRow.holds Try.pinned (OpenSpec.ofChange fnExactInstancesForWrong)

/-- 'laws.FnExactFormatWorld': WHATEVER THE INPUT: true; the input reads as it did. -/
def fnExactFormatWorldSpec : ChangeSpec := { name := "fnExactFormatWorld", fn := fun _ => fun
  | [d] => { results := [.lit (.bool true)], args := [d] }
  | _ => none }
def fnExactFormatWorldRow : OpenClaim := { program := "ytaijklafgcocmaa", sum := "07fc6dd5e74b1665f7817f3605abf7b175c6b162aa8d61ddeead1b8bb8300802", func := "loop.example/instancesearch/laws.FnExactFormatWorld", spec := "fnExactFormatWorld", inPlace := ["internal/bytealg.IndexByteString", "internal/bytealg.IndexString", "internal/abi.NoEscape", "internal/bytealg.MakeNoZero"], unfollowed := true, recurses := true, named := ["internal/bytealg.MaxLen"], apart := false }
def FnExactFormatWorldSaid : Prop := fnExactFormatWorldRow.holds Try.pinned (OpenSpec.ofChange fnExactFormatWorldSpec)

/-- ITS FALSE NEIGHBOUR: 'it returns false'. Refute it at one input. -/
def fnExactFormatWorldWrong : ChangeSpec := { name := "fnExactFormatWorld", fn := fun _ => fun
  | [d] => { results := [.lit (.bool false)], args := [d] }
  | _ => none }
def FnExactFormatWorldWrongFalsely : Prop := fnExactFormatWorldRow.holds Try.pinned (OpenSpec.ofChange fnExactFormatWorldWrong)

/-- 'laws.FnExactMayMatch': WHATEVER THE INPUT: true; the input reads as it did. -/
def fnExactMayMatchSpec : ChangeSpec := { name := "fnExactMayMatch", fn := fun _ => fun
  | [d1, d2] => { results := [.lit (.bool true)], args := [d1, d2] }
  | _ => none }
def fnExactMayMatchRow : OpenClaim := { program := "ytaijklafgcocmaa", sum := "07fc6dd5e74b1665f7817f3605abf7b175c6b162aa8d61ddeead1b8bb8300802", func := "loop.example/instancesearch/laws.FnExactMayMatch", spec := "fnExactMayMatch", inPlace := ["internal/bytealg.IndexByteString", "internal/bytealg.IndexString"], unfollowed := true, recurses := true, named := ["internal/bytealg.MaxLen"], apart := false }
def FnExactMayMatchSaid : Prop := fnExactMayMatchRow.holds Try.pinned (OpenSpec.ofChange fnExactMayMatchSpec)

/-- ITS FALSE NEIGHBOUR: 'it returns false'. Refute it at one input. -/
def fnExactMayMatchWrong : ChangeSpec := { name := "fnExactMayMatch", fn := fun _ => fun
  | [d1, d2] => { results := [.lit (.bool false)], args := [d1, d2] }
  | _ => none }
def FnExactMayMatchWrongFalsely : Prop := fnExactMayMatchRow.holds Try.pinned (OpenSpec.ofChange fnExactMayMatchWrong)

/- THE SECOND FORM. 'bulk': how many values and letters a reading holds, each counted each time it is reached (what is shared counts as often as it is met; a slice's spare places count too). A statement '..UptoSaid' is the law's where the arguments, and the package variables that the reading takes, are together of bulk at most 1048576: NARROWER than '..Said'. Prove '..Said' where nothing that the law and all that it calls make is longer than what came in: it says more and counts as full. Else prove '..UptoSaid'. A law counts once. -/
mutual
def uptoBulk {H : Type} : DataW H → Nat
  | .lit (.string bytes) => bytes.length + 1
  | .lit _ => 1
  | .nil => 1
  | .ptr d => uptoBulk d + 1
  | .slice elems spare => uptoBulkAll elems + uptoBulkAll spare + 1
  | .agg parts => uptoBulkAll parts + 1
  | .iface _ d => uptoBulk d + 1
  | .map entries => uptoBulkEntries entries + 1
  | .held _ => 1
def uptoBulkAll {H : Type} : List (DataW H) → Nat
  | [] => 0
  | d :: r => uptoBulk d + uptoBulkAll r
def uptoBulkEntries {H : Type} : List (Lit × DataW H) → Nat
  | [] => 0
  | x :: r => uptoBulkEntry x + uptoBulkEntries r
def uptoBulkEntry {H : Type} : Lit × DataW H → Nat
  | (.string bytes, d) => bytes.length + uptoBulk d + 1
  | (_, d) => uptoBulk d + 1
 end
def uptoSmall : (H : Type) → List (DataW H) → Bool := fun _ ds => decide (uptoBulkAll ds ≤ 1048576)
def OpenSpec.upto (s : _root_.Go.ChangeSpec) : _root_.Go.OpenSpec := { _root_.Go.OpenSpec.ofChange s with cond := some uptoSmall }

/-- 'laws.FnExactInstanceValid', WHERE WHAT IT READS IS OF BULK AT MOST 1048576: true; the input reads as it did. -/
def fnExactInstanceValidUptoRow : OpenClaim := { program := "ytaijklafgcocmaa", sum := "07fc6dd5e74b1665f7817f3605abf7b175c6b162aa8d61ddeead1b8bb8300802", func := "loop.example/instancesearch/laws.FnExactInstanceValid", spec := "fnExactInstanceValid", inPlace := ["internal/bytealg.IndexByteString", "internal/bytealg.IndexString"], unfollowed := true, recurses := true, named := ["internal/bytealg.MaxLen"], apart := false, narrowed := true }
def FnExactInstanceValidUptoSaid : Prop := fnExactInstanceValidUptoRow.holds Try.pinned (OpenSpec.upto fnExactInstanceValidSpec)

/-- 'laws.FnExactWorldValid', WHERE WHAT IT READS IS OF BULK AT MOST 1048576: true; the input reads as it did. -/
def fnExactWorldValidUptoRow : OpenClaim := { program := "ytaijklafgcocmaa", sum := "07fc6dd5e74b1665f7817f3605abf7b175c6b162aa8d61ddeead1b8bb8300802", func := "loop.example/instancesearch/laws.FnExactWorldValid", spec := "fnExactWorldValid", inPlace := ["internal/bytealg.IndexByteString", "internal/bytealg.IndexString"], unfollowed := true, recurses := true, named := ["internal/bytealg.MaxLen"], apart := false, narrowed := true }
def FnExactWorldValidUptoSaid : Prop := fnExactWorldValidUptoRow.holds Try.pinned (OpenSpec.upto fnExactWorldValidSpec)

/-- 'laws.FnExactHasClass', WHERE WHAT IT READS IS OF BULK AT MOST 1048576: true; the input reads as it did. -/
def fnExactHasClassUptoRow : OpenClaim := { program := "ytaijklafgcocmaa", sum := "07fc6dd5e74b1665f7817f3605abf7b175c6b162aa8d61ddeead1b8bb8300802", func := "loop.example/instancesearch/laws.FnExactHasClass", spec := "fnExactHasClass", inPlace := ["internal/bytealg.IndexByteString", "internal/bytealg.IndexString"], unfollowed := true, recurses := true, named := ["internal/bytealg.MaxLen"], apart := false, narrowed := true }
def FnExactHasClassUptoSaid : Prop := fnExactHasClassUptoRow.holds Try.pinned (OpenSpec.upto fnExactHasClassSpec)

/-- 'laws.FnExactNeedValid', WHERE WHAT IT READS IS OF BULK AT MOST 1048576: true; the input reads as it did. -/
def fnExactNeedValidUptoRow : OpenClaim := { program := "ytaijklafgcocmaa", sum := "07fc6dd5e74b1665f7817f3605abf7b175c6b162aa8d61ddeead1b8bb8300802", func := "loop.example/instancesearch/laws.FnExactNeedValid", spec := "fnExactNeedValid", inPlace := ["internal/bytealg.IndexByteString", "internal/bytealg.IndexString"], unfollowed := true, recurses := true, named := ["internal/bytealg.MaxLen"], apart := false, narrowed := true }
def FnExactNeedValidUptoSaid : Prop := fnExactNeedValidUptoRow.holds Try.pinned (OpenSpec.upto fnExactNeedValidSpec)

/-- 'laws.FnExactSupersOf', WHERE WHAT IT READS IS OF BULK AT MOST 1048576: true; the input reads as it did. -/
def fnExactSupersOfUptoRow : OpenClaim := { program := "ytaijklafgcocmaa", sum := "07fc6dd5e74b1665f7817f3605abf7b175c6b162aa8d61ddeead1b8bb8300802", func := "loop.example/instancesearch/laws.FnExactSupersOf", spec := "fnExactSupersOf", inPlace := ["internal/bytealg.IndexByteString", "internal/bytealg.IndexString"], unfollowed := true, recurses := true, named := ["internal/bytealg.MaxLen"], apart := false, narrowed := true }
def FnExactSupersOfUptoSaid : Prop := fnExactSupersOfUptoRow.holds Try.pinned (OpenSpec.upto fnExactSupersOfSpec)

/-- 'laws.FnExactInstancesFor', WHERE WHAT IT READS IS OF BULK AT MOST 1048576: true; the input reads as it did. -/
def fnExactInstancesForUptoRow : OpenClaim := { program := "ytaijklafgcocmaa", sum := "07fc6dd5e74b1665f7817f3605abf7b175c6b162aa8d61ddeead1b8bb8300802", func := "loop.example/instancesearch/laws.FnExactInstancesFor", spec := "fnExactInstancesFor", inPlace := ["internal/bytealg.IndexByteString", "internal/bytealg.IndexString"], unfollowed := true, recurses := true, named := ["internal/bytealg.MaxLen"], apart := false, narrowed := true }
def FnExactInstancesForUptoSaid : Prop := fnExactInstancesForUptoRow.holds Try.pinned (OpenSpec.upto fnExactInstancesForSpec)

/-- 'laws.FnExactFormatWorld', WHERE WHAT IT READS IS OF BULK AT MOST 1048576: true; the input reads as it did. -/
def fnExactFormatWorldUptoRow : OpenClaim := { program := "ytaijklafgcocmaa", sum := "07fc6dd5e74b1665f7817f3605abf7b175c6b162aa8d61ddeead1b8bb8300802", func := "loop.example/instancesearch/laws.FnExactFormatWorld", spec := "fnExactFormatWorld", inPlace := ["internal/bytealg.IndexByteString", "internal/bytealg.IndexString", "internal/abi.NoEscape", "internal/bytealg.MakeNoZero"], unfollowed := true, recurses := true, named := ["internal/bytealg.MaxLen"], apart := false, narrowed := true }
def FnExactFormatWorldUptoSaid : Prop := fnExactFormatWorldUptoRow.holds Try.pinned (OpenSpec.upto fnExactFormatWorldSpec)

/-- 'laws.FnExactMayMatch', WHERE WHAT IT READS IS OF BULK AT MOST 1048576: true; the input reads as it did. -/
def fnExactMayMatchUptoRow : OpenClaim := { program := "ytaijklafgcocmaa", sum := "07fc6dd5e74b1665f7817f3605abf7b175c6b162aa8d61ddeead1b8bb8300802", func := "loop.example/instancesearch/laws.FnExactMayMatch", spec := "fnExactMayMatch", inPlace := ["internal/bytealg.IndexByteString", "internal/bytealg.IndexString"], unfollowed := true, recurses := true, named := ["internal/bytealg.MaxLen"], apart := false, narrowed := true }
def FnExactMayMatchUptoSaid : Prop := fnExactMayMatchUptoRow.holds Try.pinned (OpenSpec.upto fnExactMayMatchSpec)

end Rows
end Go.Proofs.Ytaijklafgcocmaa
