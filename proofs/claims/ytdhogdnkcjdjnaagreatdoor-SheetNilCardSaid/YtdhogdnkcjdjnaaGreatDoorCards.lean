/-
  DERIVED. GIVEN WITH THE SEED: THE CARDS: each row of YtdhogdnkcjdjnaaGreatDoorRows.lean that lists a variable, with what it lists TIED to the program's text (the seventh form; the later family's looks); each row that meets fmt, with fmt's text TOLD by the authors' own Lean function (tested against real Go, not proved from fmt's source: count such statements apart). THE CARD IS WHAT COUNTS. Prove the row's statement (the work); the ties are given (YtdhogdnkcjdjnaaGreatDoorTie.lean); close each card by the builder's one call (the guide's Derived/Test/ToyasCard.lean, 'card_holds'). Laid BY PROGRAM, IN A SANDBOX (cutbox-door.mjs). By AI agents, Wed Nov 11 2026. No macro, syntax, notation, axiom, sorry.
-/
import Derived.Test.YtdhogdnkcjdjnaaGreatDoorRows
import GoSem.ClaimSeven
namespace Go.Proofs.YtdhogdnkcjdjnaaGreatDoor
namespace Rows

/-- THE TIED CARD OF 'epitaphlaw55.SheetNil'. -/
def sheetNilCard : Claim7 := { stood := { row := sheetNilRow, standIns := [], harness := (true, "2748c8d8355857fbbf40a24c2ca9b800affb46401de7faffbcf4b1f460f7c4b8"), looks := false }, kinds := [], alts := [], laidByText := true, laidKinds := [.data, .data, .data, .data, .data, .data], laidTests := true, laidLooks := .later }
def SheetNilCardSaid : Prop := Claim7.holds Tryz.pinned (.plain (OpenSpec.ofChange sheetNilSpec)) sheetNilCard

/-- THE SECOND FORM's CARD OF 'epitaphlaw55.SheetNil'. -/
def sheetNilUptoCard : Claim7 := { stood := { row := sheetNilUptoRow, standIns := [], harness := (true, "2748c8d8355857fbbf40a24c2ca9b800affb46401de7faffbcf4b1f460f7c4b8"), looks := false }, kinds := [], alts := [], laidByText := true, laidKinds := [.data, .data, .data, .data, .data, .data], laidTests := true, laidLooks := .later }
def SheetNilUptoCardSaid : Prop := Claim7.holds Tryz.pinned (.plain (OpenSpec.upto sheetNilSpec)) sheetNilUptoCard
end Rows
end Go.Proofs.YtdhogdnkcjdjnaaGreatDoor
