/-
  DERIVED. GIVEN WITH THE SEED: THE CARDS: each row of YtgoagklpjloboaaGreatDoorRows.lean that lists a variable, with what it lists TIED to the program's text (the seventh form; the later family's looks); each row that meets fmt, with fmt's text TOLD by the authors' own Lean function (tested against real Go, not proved from fmt's source: count such statements apart). THE CARD IS WHAT COUNTS. Prove the row's statement (the work); the ties are given (YtgoagklpjloboaaGreatDoorTie.lean); close each card by the builder's one call (the guide's Derived/Test/ToyasCard.lean, 'card_holds'). Laid BY PROGRAM, IN A SANDBOX (cutbox-door.mjs). By AI agents, Wed Nov 11 2026. No macro, syntax, notation, axiom, sorry.
-/
import Derived.Test.YtgoagklpjloboaaGreatDoorRows
import GoSem.ClaimSeven
namespace Go.Proofs.YtgoagklpjloboaaGreatDoor
namespace Rows

/-- THE TIED CARD OF 'epitaphlaw51.TrailSays'. -/
def trailSaysCard : Claim7 := { stood := { row := trailSaysRow, standIns := [], harness := (true, "b2db3eb5ca16d2f00b990726ed3ff7005c688e397cc2290b1ee198c5ba3d160b"), looks := false }, kinds := [], alts := [], laidByText := true, laidKinds := [.data, .data, .data, .data], laidTests := true, laidLooks := .later }
def TrailSaysCardSaid : Prop := Claim7.holds Tryz.pinned (.plain (OpenSpec.ofChange trailSaysSpec)) trailSaysCard

/-- THE SECOND FORM's CARD OF 'epitaphlaw51.TrailSays'. -/
def trailSaysUptoCard : Claim7 := { stood := { row := trailSaysUptoRow, standIns := [], harness := (true, "b2db3eb5ca16d2f00b990726ed3ff7005c688e397cc2290b1ee198c5ba3d160b"), looks := false }, kinds := [], alts := [], laidByText := true, laidKinds := [.data, .data, .data, .data], laidTests := true, laidLooks := .later }
def TrailSaysUptoCardSaid : Prop := Claim7.holds Tryz.pinned (.plain (OpenSpec.upto trailSaysSpec)) trailSaysUptoCard
end Rows
end Go.Proofs.YtgoagklpjloboaaGreatDoor
