/-
  DERIVED. GIVEN WITH THE SEED: THE CARDS: each row of YtpcmeokokojkiaaGreatDoorRows.lean that lists a variable, with what it lists TIED to the program's text (the seventh form; the later family's looks); each row that meets fmt, with fmt's text TOLD by the authors' own Lean function (tested against real Go, not proved from fmt's source: count such statements apart). THE CARD IS WHAT COUNTS. Prove the row's statement (the work); the ties are given (YtpcmeokokojkiaaGreatDoorTie.lean); close each card by the builder's one call (the guide's Derived/Test/ToyasCard.lean, 'card_holds'). Laid BY PROGRAM, IN A SANDBOX (cutbox-door.mjs). By AI agents, Wed Nov 11 2026. No macro, syntax, notation, axiom, sorry.
-/
import Derived.Test.YtpcmeokokojkiaaGreatDoorRows
import GoSem.ClaimSeven
namespace Go.Proofs.YtpcmeokokojkiaaGreatDoor
namespace Rows

/-- THE TIED CARD OF 'epitaphlaw48.MergePlans'. -/
def mergePlansCard : Claim7 := { stood := { row := mergePlansRow, standIns := [], harness := (true, "399c5d34c18d9ba7ad5b63cc39a238027efa00e4f5fd51fc264a1fa7be973404"), looks := false }, kinds := [], alts := [], laidByText := true, laidKinds := [.data, .data], laidTests := true, laidLooks := .later }
def MergePlansCardSaid : Prop := Claim7.holds Tryz.pinned (.plain (OpenSpec.ofChange mergePlansSpec)) mergePlansCard

/-- THE SECOND FORM's CARD OF 'epitaphlaw48.MergePlans'. -/
def mergePlansUptoCard : Claim7 := { stood := { row := mergePlansUptoRow, standIns := [], harness := (true, "399c5d34c18d9ba7ad5b63cc39a238027efa00e4f5fd51fc264a1fa7be973404"), looks := false }, kinds := [], alts := [], laidByText := true, laidKinds := [.data, .data], laidTests := true, laidLooks := .later }
def MergePlansUptoCardSaid : Prop := Claim7.holds Tryz.pinned (.plain (OpenSpec.upto mergePlansSpec)) mergePlansUptoCard
end Rows
end Go.Proofs.YtpcmeokokojkiaaGreatDoor
