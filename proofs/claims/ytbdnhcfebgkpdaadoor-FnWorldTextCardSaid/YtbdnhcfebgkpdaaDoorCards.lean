/-
  DERIVED. GIVEN WITH THE SEED: THE CARDS: each row of YtbdnhcfebgkpdaaDoorRows.lean that lists a variable, with what it lists TIED to the program's text (the seventh form; the later family's looks); each row that meets fmt, with fmt's text TOLD by the authors' own Lean function (tested against real Go, not proved from fmt's source: count such statements apart). THE CARD IS WHAT COUNTS. Prove the row's statement (the work); the ties are given (YtbdnhcfebgkpdaaDoorTie.lean); close each card by the builder's one call (the guide's Derived/Test/ToyasCard.lean, 'card_holds'). Laid BY PROGRAM, IN A SANDBOX (cutbox-door.mjs). By AI agents, Wed Nov 11 2026. No macro, syntax, notation, axiom, sorry.
-/
import Derived.Test.YtbdnhcfebgkpdaaDoorRows
import GoSem.ClaimSeven
namespace Go.Proofs.YtbdnhcfebgkpdaaDoor
namespace Rows

/-- THE TIED CARD OF 'laws.FnInstanceText'. -/
def fnInstanceTextCard : Claim7 := { stood := { row := fnInstanceTextRow, standIns := [], harness := (true, "0d74305c27946da0758360cb1142033c4ed1accdc1126485b2cbb383d4305b5f"), looks := false }, kinds := [], alts := [], laidByText := true, laidKinds := [.data, .pinned], laidTests := true, laidLooks := .later }
def FnInstanceTextCardSaid : Prop := Claim7.holds Tryd.pinned (.plain (OpenSpec.ofChange fnInstanceTextSpec)) fnInstanceTextCard

/-- THE TIED CARD OF 'laws.FnWorldText'. -/
def fnWorldTextCard : Claim7 := { stood := { row := fnWorldTextRow, standIns := [], harness := (true, "0d74305c27946da0758360cb1142033c4ed1accdc1126485b2cbb383d4305b5f"), looks := false }, kinds := [], alts := [], laidByText := true, laidKinds := [.data, .pinned], laidTests := true, laidLooks := .later }
def FnWorldTextCardSaid : Prop := Claim7.holds Tryd.pinned (.plain (OpenSpec.ofChange fnWorldTextSpec)) fnWorldTextCard

/-- THE SECOND FORM's CARD OF 'laws.FnInstanceText'. -/
def fnInstanceTextUptoCard : Claim7 := { stood := { row := fnInstanceTextUptoRow, standIns := [], harness := (true, "0d74305c27946da0758360cb1142033c4ed1accdc1126485b2cbb383d4305b5f"), looks := false }, kinds := [], alts := [], laidByText := true, laidKinds := [.data, .pinned], laidTests := true, laidLooks := .later }
def FnInstanceTextUptoCardSaid : Prop := Claim7.holds Tryd.pinned (.plain (OpenSpec.upto fnInstanceTextSpec)) fnInstanceTextUptoCard

/-- THE SECOND FORM's CARD OF 'laws.FnWorldText'. -/
def fnWorldTextUptoCard : Claim7 := { stood := { row := fnWorldTextUptoRow, standIns := [], harness := (true, "0d74305c27946da0758360cb1142033c4ed1accdc1126485b2cbb383d4305b5f"), looks := false }, kinds := [], alts := [], laidByText := true, laidKinds := [.data, .pinned], laidTests := true, laidLooks := .later }
def FnWorldTextUptoCardSaid : Prop := Claim7.holds Tryd.pinned (.plain (OpenSpec.upto fnWorldTextSpec)) fnWorldTextUptoCard
end Rows
end Go.Proofs.YtbdnhcfebgkpdaaDoor
