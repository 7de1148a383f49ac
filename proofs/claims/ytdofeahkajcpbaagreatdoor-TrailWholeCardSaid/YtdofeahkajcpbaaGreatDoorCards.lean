/-
  DERIVED. GIVEN WITH THE SEED: THE CARDS: each row of YtdofeahkajcpbaaGreatDoorRows.lean that lists a variable, with what it lists TIED to the program's text (the seventh form; the later family's looks); each row that meets fmt, with fmt's text TOLD by the authors' own Lean function (tested against real Go, not proved from fmt's source: count such statements apart). THE CARD IS WHAT COUNTS. Prove the row's statement (the work); the ties are given (YtdofeahkajcpbaaGreatDoorTie.lean); close each card by the builder's one call (the guide's Derived/Test/ToyasCard.lean, 'card_holds'). Laid BY PROGRAM, IN A SANDBOX (cutbox-door.mjs). By AI agents, Wed Nov 11 2026. No macro, syntax, notation, axiom, sorry.
-/
import Derived.Test.YtdofeahkajcpbaaGreatDoorRows
import GoSem.ClaimSeven
namespace Go.Proofs.YtdofeahkajcpbaaGreatDoor
namespace Rows

/-- THE TIED CARD OF 'epitaphlaw51.TrailWhole'. -/
def trailWholeCard : Claim7 := { stood := { row := trailWholeRow, standIns := [], harness := (true, "7fa22d10548783d8641e047ac4db87ed76909d52df7ef763348cc2ee39ab6594"), looks := false }, kinds := [], alts := [], laidByText := true, laidKinds := [.data, .data, .data, .data], laidTests := true, laidLooks := .later }
def TrailWholeCardSaid : Prop := Claim7.holds Tryz.pinned (.plain (OpenSpec.ofChange trailWholeSpec)) trailWholeCard

/-- THE SECOND FORM's CARD OF 'epitaphlaw51.TrailWhole'. -/
def trailWholeUptoCard : Claim7 := { stood := { row := trailWholeUptoRow, standIns := [], harness := (true, "7fa22d10548783d8641e047ac4db87ed76909d52df7ef763348cc2ee39ab6594"), looks := false }, kinds := [], alts := [], laidByText := true, laidKinds := [.data, .data, .data, .data], laidTests := true, laidLooks := .later }
def TrailWholeUptoCardSaid : Prop := Claim7.holds Tryz.pinned (.plain (OpenSpec.upto trailWholeSpec)) trailWholeUptoCard
end Rows
end Go.Proofs.YtdofeahkajcpbaaGreatDoor
