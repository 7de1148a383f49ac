/-
  DERIVED. GIVEN WITH THE SEED: THE CARDS: each row of YtncajhpecibcnaaGreatDoorRows.lean that lists a variable, with what it lists TIED to the program's text (the seventh form; the later family's looks); each row that meets fmt, with fmt's text TOLD by the authors' own Lean function (tested against real Go, not proved from fmt's source: count such statements apart). THE CARD IS WHAT COUNTS. Prove the row's statement (the work); the ties are given (YtncajhpecibcnaaGreatDoorTie.lean); close each card by the builder's one call (the guide's Derived/Test/ToyasCard.lean, 'card_holds'). Laid BY PROGRAM, IN A SANDBOX (cutbox-door.mjs). By AI agents, Wed Nov 11 2026. No macro, syntax, notation, axiom, sorry.
-/
import Derived.Test.YtncajhpecibcnaaGreatDoorRows
import GoSem.ClaimSeven
namespace Go.Proofs.YtncajhpecibcnaaGreatDoor
namespace Rows

/-- THE TIED CARD OF 'epitaphlaw35.HubNil'. -/
def hubNilCard : Claim7 := { stood := { row := hubNilRow, standIns := [], harness := (true, "fe7257c61b912ac01705521f5fc45b49707e3cd21ad5fa7cfca795c4d1b04bf7"), looks := false }, kinds := [], alts := [], laidByText := true, laidKinds := [.data, .data], laidTests := true, laidLooks := .later }
def HubNilCardSaid : Prop := Claim7.holds Tryz.pinned (.plain (OpenSpec.ofChange hubNilSpec)) hubNilCard

/-- THE SECOND FORM's CARD OF 'epitaphlaw35.HubNil'. -/
def hubNilUptoCard : Claim7 := { stood := { row := hubNilUptoRow, standIns := [], harness := (true, "fe7257c61b912ac01705521f5fc45b49707e3cd21ad5fa7cfca795c4d1b04bf7"), looks := false }, kinds := [], alts := [], laidByText := true, laidKinds := [.data, .data], laidTests := true, laidLooks := .later }
def HubNilUptoCardSaid : Prop := Claim7.holds Tryz.pinned (.plain (OpenSpec.upto hubNilSpec)) hubNilUptoCard
end Rows
end Go.Proofs.YtncajhpecibcnaaGreatDoor
