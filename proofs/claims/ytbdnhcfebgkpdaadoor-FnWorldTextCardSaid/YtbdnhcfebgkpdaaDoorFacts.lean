/- The closed facts of the seat's program, each proved once; a law joins them with its own. Conditions: none. -/
import Derived.Test.YtbdnhcfebgkpdaaDoorRows
import Derived.WalkKit
import Derived.ProofKit
import Derived.OpenShut
import Derived.ChangeOld
set_option linter.unusedVariables false
set_option maxRecDepth 100000
namespace Go.Proofs.YtbdnhcfebgkpdaaDoor.Facts
open Go.ChangeShapes Go.WideShapes Go.ChangeAt Go.RowKit
theorem and2 {a b : Bool} (ha : a = true) (hb : b = true) : (a && b) = true := by rw [ha, hb]; rfl
theorem laid : laidOutB Tryd.pinned.checked.prog = true := by kernel_rfl
theorem rowed : mapsRowed Tryd.pinned.checked.prog = true := by kernel_rfl
theorem heard : Tryd.pinned.checked.prog.stopsHeard = true := by kernel_rfl
theorem enter : Tryd.pinned.checked.prog.mayEnter = true := by kernel_rfl
theorem lifts : (Rows.fnInstanceTextRow.lifted == Tryd.pinned.checked.prog.liftsFinal) = true := by kernel_rfl
theorem make : (Tryd.pinned.checked.prog.make == some Rows.fnInstanceTextRow.make) = true := by kernel_rfl
theorem stops : (Tryd.pinned.checked.prog.stops == []) = true := by kernel_rfl
theorem knobs : (Tryd.pinned.checked.prog.stopKnobs == []) = true := by kernel_rfl
theorem keys : (Rows.fnInstanceTextRow.plainKeys == Tryd.pinned.checked.prog.plainKeys) = true := by kernel_rfl
theorem joined {f : FuncId} {fn : Func} {s : ChangeSpec} {c : OpenClaim} (e1 : c.lifted = Rows.fnInstanceTextRow.lifted) (e2 : c.make = Rows.fnInstanceTextRow.make) (e3 : c.plainKeys = Rows.fnInstanceTextRow.plainKeys)
  (k0 : (let P := Tryd.pinned.checked.prog; c.wf (OpenSpec.ofChange s)) = true)
  (k3 : (let P := Tryd.pinned.checked.prog; fn.params.all (P.readableRec ·)) = true)
  (k4 : (let P := Tryd.pinned.checked.prog; namedTie P c.named s.vars) = true)
  (k5 : (let P := Tryd.pinned.checked.prog; (c.stops == [])) = true)
  (k7 : (let P := Tryd.pinned.checked.prog; (c.knobs == [])) = true)
  (k9 : (let P := Tryd.pinned.checked.prog; (c.inPlace == P.inPlace f)) = true)
  (k10 : (let P := Tryd.pinned.checked.prog; (c.unfollowed == P.unfollowed f)) = true)
  (k11 : (let P := Tryd.pinned.checked.prog; (c.recurses == P.recurses f)) = true)
  (k12 : (let P := Tryd.pinned.checked.prog; (c.named == P.varsNamed f)) = true)
  (k13 : (let P := Tryd.pinned.checked.prog; (c.maps == (fn.params.toList ++ s.plain.varTypes P).any (P.mapsRec ·))) = true)
  (k14 : (let P := Tryd.pinned.checked.prog; (c.ifaces == (fn.params.toList ++ s.plain.varTypes P).any (P.ifacesRec ·))) = true)
  (k15 : (let P := Tryd.pinned.checked.prog; (c.mapsOut == P.mapsAmong fn.resultTypes.toList)) = true)
  (k16 : (let P := Tryd.pinned.checked.prog; (c.loops == (fn.params.toList ++ s.plain.varTypes P).any (P.loopsFrom ·))) = true)
  (k17 : (let P := Tryd.pinned.checked.prog; (c.wideKeys == (fn.params.toList ++ s.plain.varTypes P ++ fn.resultTypes.toList).any (P.wideKeysFrom ·))) = true)
  (k18 : (let P := Tryd.pinned.checked.prog; s.vars.all (P.varReadable ·)) = true)
  (k19 : (let P := Tryd.pinned.checked.prog; fn.resultTypes.all (fun t => P.readableRec t && decide (t < P.types.size))) = true)
  (k20 : (let P := Tryd.pinned.checked.prog; (c.ifacesOut == fn.resultTypes.toList.any (P.ifacesRec ·))) = true)
  (k21 : (let P := Tryd.pinned.checked.prog; (c.loopsOut == fn.resultTypes.toList.any (P.loopsFrom ·))) = true)
  (k23 : (let P := Tryd.pinned.checked.prog; c.shortTexts.isNone) = true)
  (k28 : (let P := Tryd.pinned.checked.prog; (c.kinds == (if c.domain.isEmpty then [] else fn.params.toList.map fun t => match P.underlying t with | some (.int k) => some k | _ => none))) = true)
  (k29 : (let P := Tryd.pinned.checked.prog; (c.pinned == c.pinnedBy)) = true)
  (k30 : (let P := Tryd.pinned.checked.prog; (c.veiled == (fn.params.toList ++ s.plain.varTypes P ++ fn.resultTypes.toList).any (P.veiledRec ·))) = true)
  (k31 : (let P := Tryd.pinned.checked.prog; c.veiledFits P fn.params.toList (fn.params.toList ++ s.plain.varTypes P ++ fn.resultTypes.toList)) = true)
  : joinedFacts Tryd.pinned.checked.prog f fn s c = true := (and2 (and2 (and2 (and2 (and2 (and2 (and2 (and2 (and2 (and2 (and2 (and2 (and2 (and2 (and2 (and2 (and2 (and2 (and2 (and2 (and2 (and2 (and2 (and2 (and2 (and2 (and2 (and2 (and2 (and2 (and2 k0 laid) rowed) k3) k4) k5) stops) k7) knobs) k9) k10) k11) k12) k13) k14) k15) k16) k17) k18) k19) k20) k21) (by rw [e3]; exact keys)) k23) heard) enter) (by rw [e1]; exact lifts)) (by rw [e2]; exact make)) k28) k29) k30) k31)
end Go.Proofs.YtbdnhcfebgkpdaaDoor.Facts
