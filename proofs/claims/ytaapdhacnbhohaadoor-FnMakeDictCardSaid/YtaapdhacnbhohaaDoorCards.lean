/-
  DERIVED. GIVEN WITH THE SEED: THE CARDS: each row of YtaapdhacnbhohaaDoorRows.lean that lists a variable, with what it lists TIED to the program's text (the seventh form; the later family's looks); each row that meets fmt, with fmt's text TOLD by the authors' own Lean function (tested against real Go, not proved from fmt's source: count such statements apart). THE CARD IS WHAT COUNTS. Prove the row's statement (the work); the ties are given (YtaapdhacnbhohaaDoorTie.lean); close each card by the builder's one call (the guide's Derived/Test/ToyasCard.lean, 'card_holds'). Laid BY PROGRAM, IN A SANDBOX (cutbox-door.mjs). By AI agents, Wed Nov 11 2026. No macro, syntax, notation, axiom, sorry.
-/
import Derived.Test.YtaapdhacnbhohaaDoorRows
import GoSem.ClaimSeven
namespace Go.Proofs.YtaapdhacnbhohaaDoor
namespace Rows

/-- THE TIED CARD OF 'laws.FnWorldText'. -/
def fnWorldTextCard : Claim7 := { stood := { row := fnWorldTextRow, standIns := [], harness := (true, "e367c96756a41710ea9d16ca9ee4d16593beaee4bae0124756b828a2394002af"), looks := false }, kinds := [], alts := [], laidByText := true, laidKinds := [.data, .pinned], laidTests := true, laidLooks := .later }
def FnWorldTextCardSaid : Prop := Claim7.holds Tryd.pinned (.plain (OpenSpec.ofChange fnWorldTextSpec)) fnWorldTextCard

/-- THE TIED CARD OF 'laws.FnMakeDict'. -/
def fnMakeDictCard : Claim7 := { stood := { row := fnMakeDictRow, standIns := [], harness := (true, "e367c96756a41710ea9d16ca9ee4d16593beaee4bae0124756b828a2394002af"), looks := false }, kinds := [], alts := [], laidByText := true, laidKinds := [.data, .data, .data], laidTests := true, laidLooks := .later }
def FnMakeDictCardSaid : Prop := Claim7.holds Tryd.pinned (.plain (OpenSpec.ofChange fnMakeDictSpec)) fnMakeDictCard

/-- THE TIED CARD OF 'laws.FnInstanceText'. -/
def fnInstanceTextCard : Claim7 := { stood := { row := fnInstanceTextRow, standIns := [], harness := (true, "e367c96756a41710ea9d16ca9ee4d16593beaee4bae0124756b828a2394002af"), looks := false }, kinds := [], alts := [], laidByText := true, laidKinds := [.data, .pinned], laidTests := true, laidLooks := .later }
def FnInstanceTextCardSaid : Prop := Claim7.holds Tryd.pinned (.plain (OpenSpec.ofChange fnInstanceTextSpec)) fnInstanceTextCard

/-- THE SECOND FORM's CARD OF 'laws.FnWorldText'. -/
def fnWorldTextUptoCard : Claim7 := { stood := { row := fnWorldTextUptoRow, standIns := [], harness := (true, "e367c96756a41710ea9d16ca9ee4d16593beaee4bae0124756b828a2394002af"), looks := false }, kinds := [], alts := [], laidByText := true, laidKinds := [.data, .pinned], laidTests := true, laidLooks := .later }
def FnWorldTextUptoCardSaid : Prop := Claim7.holds Tryd.pinned (.plain (OpenSpec.upto fnWorldTextSpec)) fnWorldTextUptoCard

/-- THE SECOND FORM's CARD OF 'laws.FnMakeDict'. -/
def fnMakeDictUptoCard : Claim7 := { stood := { row := fnMakeDictUptoRow, standIns := [], harness := (true, "e367c96756a41710ea9d16ca9ee4d16593beaee4bae0124756b828a2394002af"), looks := false }, kinds := [], alts := [], laidByText := true, laidKinds := [.data, .data, .data], laidTests := true, laidLooks := .later }
def FnMakeDictUptoCardSaid : Prop := Claim7.holds Tryd.pinned (.plain (OpenSpec.upto fnMakeDictSpec)) fnMakeDictUptoCard

/-- THE SECOND FORM's CARD OF 'laws.FnInstanceText'. -/
def fnInstanceTextUptoCard : Claim7 := { stood := { row := fnInstanceTextUptoRow, standIns := [], harness := (true, "e367c96756a41710ea9d16ca9ee4d16593beaee4bae0124756b828a2394002af"), looks := false }, kinds := [], alts := [], laidByText := true, laidKinds := [.data, .pinned], laidTests := true, laidLooks := .later }
def FnInstanceTextUptoCardSaid : Prop := Claim7.holds Tryd.pinned (.plain (OpenSpec.upto fnInstanceTextSpec)) fnInstanceTextUptoCard
end Rows
end Go.Proofs.YtaapdhacnbhohaaDoor
