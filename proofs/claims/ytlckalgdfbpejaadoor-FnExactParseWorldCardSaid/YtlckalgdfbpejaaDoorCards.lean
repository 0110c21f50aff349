/-
  DERIVED. GIVEN WITH THE SEED: THE CARDS: each row of YtlckalgdfbpejaaDoorRows.lean that lists a variable, with what it lists TIED to the program's text (the seventh form; the later family's looks); each row that meets fmt, with fmt's text TOLD by the authors' own Lean function (tested against real Go, not proved from fmt's source: count such statements apart). THE CARD IS WHAT COUNTS. Prove the row's statement (the work); the ties are given (YtlckalgdfbpejaaDoorTie.lean); close each card by the builder's one call (the guide's Derived/Test/ToyasCard.lean, 'card_holds'). Laid BY PROGRAM, IN A SANDBOX (cutbox-door.mjs). By AI agents, Wed Nov 11 2026. No macro, syntax, notation, axiom, sorry.
-/
import Derived.Test.YtlckalgdfbpejaaDoorRows
import GoSem.ClaimSeven
namespace Go.Proofs.YtlckalgdfbpejaaDoor
namespace Rows

/-- THE TIED CARD OF 'laws.FnExactInstancesIn'. -/
def fnExactInstancesInCard : Claim7 := { stood := { row := fnExactInstancesInRow, standIns := [], harness := (true, "d2d330b1ca4aed175cd6a445a0c39d190b5fd41135f12641abdbabfa123b018b"), looks := false }, kinds := [], alts := [], laidByText := true, laidKinds := [.data, .data, .data], laidTests := true, laidLooks := .later }
def FnExactInstancesInCardSaid : Prop := Claim7.holds Tryd.pinned (.plain (OpenSpec.ofChange fnExactInstancesInSpec)) fnExactInstancesInCard

/-- THE TIED CARD OF 'laws.FnExactPartsOfDict'. -/
def fnExactPartsOfDictCard : Claim7 := { stood := { row := fnExactPartsOfDictRow, standIns := [], harness := (true, "d2d330b1ca4aed175cd6a445a0c39d190b5fd41135f12641abdbabfa123b018b"), looks := false }, kinds := [], alts := [], laidByText := true, laidKinds := [.data, .data, .data], laidTests := true, laidLooks := .later }
def FnExactPartsOfDictCardSaid : Prop := Claim7.holds Tryd.pinned (.plain (OpenSpec.ofChange fnExactPartsOfDictSpec)) fnExactPartsOfDictCard

/-- THE TIED CARD OF 'laws.FnExactMakeDict'. -/
def fnExactMakeDictCard : Claim7 := { stood := { row := fnExactMakeDictRow, standIns := [], harness := (true, "d2d330b1ca4aed175cd6a445a0c39d190b5fd41135f12641abdbabfa123b018b"), looks := false }, kinds := [], alts := [], laidByText := true, laidKinds := [.data, .data, .data], laidTests := true, laidLooks := .later }
def FnExactMakeDictCardSaid : Prop := Claim7.holds Tryd.pinned (.plain (OpenSpec.ofChange fnExactMakeDictSpec)) fnExactMakeDictCard

/-- THE TIED CARD OF 'laws.FnExactParseInstance'. -/
def fnExactParseInstanceCard : Claim7 := { stood := { row := fnExactParseInstanceRow, standIns := [], harness := (true, "d2d330b1ca4aed175cd6a445a0c39d190b5fd41135f12641abdbabfa123b018b"), looks := false }, kinds := [], alts := [], laidByText := true, laidKinds := [.data, .pinned], laidTests := true, laidLooks := .later }
def FnExactParseInstanceCardSaid : Prop := Claim7.holds Tryd.pinned (.plain (OpenSpec.ofChange fnExactParseInstanceSpec)) fnExactParseInstanceCard

/-- THE TIED CARD OF 'laws.FnExactParseWorld'. -/
def fnExactParseWorldCard : Claim7 := { stood := { row := fnExactParseWorldRow, standIns := [], harness := (true, "d2d330b1ca4aed175cd6a445a0c39d190b5fd41135f12641abdbabfa123b018b"), looks := false }, kinds := [], alts := [], laidByText := true, laidKinds := [.data, .pinned], laidTests := true, laidLooks := .later }
def FnExactParseWorldCardSaid : Prop := Claim7.holds Tryd.pinned (.plain (OpenSpec.ofChange fnExactParseWorldSpec)) fnExactParseWorldCard

/-- THE SECOND FORM's CARD OF 'laws.FnExactInstancesIn'. -/
def fnExactInstancesInUptoCard : Claim7 := { stood := { row := fnExactInstancesInUptoRow, standIns := [], harness := (true, "d2d330b1ca4aed175cd6a445a0c39d190b5fd41135f12641abdbabfa123b018b"), looks := false }, kinds := [], alts := [], laidByText := true, laidKinds := [.data, .data, .data], laidTests := true, laidLooks := .later }
def FnExactInstancesInUptoCardSaid : Prop := Claim7.holds Tryd.pinned (.plain (OpenSpec.upto fnExactInstancesInSpec)) fnExactInstancesInUptoCard

/-- THE SECOND FORM's CARD OF 'laws.FnExactPartsOfDict'. -/
def fnExactPartsOfDictUptoCard : Claim7 := { stood := { row := fnExactPartsOfDictUptoRow, standIns := [], harness := (true, "d2d330b1ca4aed175cd6a445a0c39d190b5fd41135f12641abdbabfa123b018b"), looks := false }, kinds := [], alts := [], laidByText := true, laidKinds := [.data, .data, .data], laidTests := true, laidLooks := .later }
def FnExactPartsOfDictUptoCardSaid : Prop := Claim7.holds Tryd.pinned (.plain (OpenSpec.upto fnExactPartsOfDictSpec)) fnExactPartsOfDictUptoCard

/-- THE SECOND FORM's CARD OF 'laws.FnExactMakeDict'. -/
def fnExactMakeDictUptoCard : Claim7 := { stood := { row := fnExactMakeDictUptoRow, standIns := [], harness := (true, "d2d330b1ca4aed175cd6a445a0c39d190b5fd41135f12641abdbabfa123b018b"), looks := false }, kinds := [], alts := [], laidByText := true, laidKinds := [.data, .data, .data], laidTests := true, laidLooks := .later }
def FnExactMakeDictUptoCardSaid : Prop := Claim7.holds Tryd.pinned (.plain (OpenSpec.upto fnExactMakeDictSpec)) fnExactMakeDictUptoCard

/-- THE SECOND FORM's CARD OF 'laws.FnExactParseInstance'. -/
def fnExactParseInstanceUptoCard : Claim7 := { stood := { row := fnExactParseInstanceUptoRow, standIns := [], harness := (true, "d2d330b1ca4aed175cd6a445a0c39d190b5fd41135f12641abdbabfa123b018b"), looks := false }, kinds := [], alts := [], laidByText := true, laidKinds := [.data, .pinned], laidTests := true, laidLooks := .later }
def FnExactParseInstanceUptoCardSaid : Prop := Claim7.holds Tryd.pinned (.plain (OpenSpec.upto fnExactParseInstanceSpec)) fnExactParseInstanceUptoCard

/-- THE SECOND FORM's CARD OF 'laws.FnExactParseWorld'. -/
def fnExactParseWorldUptoCard : Claim7 := { stood := { row := fnExactParseWorldUptoRow, standIns := [], harness := (true, "d2d330b1ca4aed175cd6a445a0c39d190b5fd41135f12641abdbabfa123b018b"), looks := false }, kinds := [], alts := [], laidByText := true, laidKinds := [.data, .pinned], laidTests := true, laidLooks := .later }
def FnExactParseWorldUptoCardSaid : Prop := Claim7.holds Tryd.pinned (.plain (OpenSpec.upto fnExactParseWorldSpec)) fnExactParseWorldUptoCard
end Rows
end Go.Proofs.YtlckalgdfbpejaaDoor
