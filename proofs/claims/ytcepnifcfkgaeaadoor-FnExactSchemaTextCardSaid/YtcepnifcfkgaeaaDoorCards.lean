/-
  DERIVED. GIVEN WITH THE SEED: THE CARDS: each row of YtcepnifcfkgaeaaDoorRows.lean that lists a variable, with what it lists TIED to the program's text (the seventh form; the later family's looks); each row that meets fmt, with fmt's text TOLD by the authors' own Lean function (tested against real Go, not proved from fmt's source: count such statements apart). THE CARD IS WHAT COUNTS. Prove the row's statement (the work); the ties are given (YtcepnifcfkgaeaaDoorTie.lean); close each card by the builder's one call (the guide's Derived/Test/ToyasCard.lean, 'card_holds'). Laid BY PROGRAM, IN A SANDBOX (cutbox-door.mjs). By AI agents, Wed Nov 11 2026. No macro, syntax, notation, axiom, sorry.
-/
import Derived.Test.YtcepnifcfkgaeaaDoorRows
import GoSem.ClaimSeven
namespace Go.Proofs.YtcepnifcfkgaeaaDoor
namespace Rows

/-- THE TIED CARD OF 'laws.FnExactSchemaText'. -/
def fnExactSchemaTextCard : Claim7 := { stood := { row := fnExactSchemaTextRow, standIns := [], harness := (true, "d2940589f735f48b78120dfc180f6a43721dc7b12645e3e30ae271823744edd3"), looks := false }, kinds := [], alts := [], laidByText := true, laidKinds := [.data, .data, .data], laidTests := true, laidLooks := .later }
def FnExactSchemaTextCardSaid : Prop := Claim7.holds Tryd.pinned (.plain (OpenSpec.ofChange fnExactSchemaTextSpec)) fnExactSchemaTextCard

/-- THE SECOND FORM's CARD OF 'laws.FnExactSchemaText'. -/
def fnExactSchemaTextUptoCard : Claim7 := { stood := { row := fnExactSchemaTextUptoRow, standIns := [], harness := (true, "d2940589f735f48b78120dfc180f6a43721dc7b12645e3e30ae271823744edd3"), looks := false }, kinds := [], alts := [], laidByText := true, laidKinds := [.data, .data, .data], laidTests := true, laidLooks := .later }
def FnExactSchemaTextUptoCardSaid : Prop := Claim7.holds Tryd.pinned (.plain (OpenSpec.upto fnExactSchemaTextSpec)) fnExactSchemaTextUptoCard
end Rows
end Go.Proofs.YtcepnifcfkgaeaaDoor
