/-
  DERIVED. GIVEN WITH THE SEED: THE CARDS: each row of YtcaocpilahbciaaDoorRows.lean that lists a variable, with what it lists TIED to the program's text (the seventh form; the later family's looks); each row that meets fmt, with fmt's text TOLD by the authors' own Lean function (tested against real Go, not proved from fmt's source: count such statements apart). THE CARD IS WHAT COUNTS. Prove the row's statement (the work); the ties are given (YtcaocpilahbciaaDoorTie.lean); close each card by the builder's one call (the guide's Derived/Test/ToyasCard.lean, 'card_holds'). Laid BY PROGRAM, IN A SANDBOX (cutbox-door.mjs). By AI agents, Wed Nov 11 2026. No macro, syntax, notation, axiom, sorry.
-/
import Derived.Test.YtcaocpilahbciaaDoorRows
import GoSem.ClaimSeven
namespace Go.Proofs.YtcaocpilahbciaaDoor
namespace Rows

/-- THE TIED CARD OF 'epitaphlaw07.DotTells'. -/
def dotTellsCard : Claim7 := { stood := { row := dotTellsRow, standIns := [], harness := (true, "59d1a23d56fcd37bc52857e2711a9207e0f21ce77e771b511b517c22da446f7d"), looks := false }, kinds := [], alts := [], laidByText := true, laidKinds := [.data, .data, .data], laidTests := true, laidLooks := .later }
def DotTellsCardSaid : Prop := Claim7.holds Tryd.pinned (.plain (OpenSpec.ofChange dotTellsSpec)) dotTellsCard

/-- THE TIED CARD OF 'epitaphlaw07.DotOrders'. -/
def dotOrdersCard : Claim7 := { stood := { row := dotOrdersRow, standIns := [], harness := (true, "59d1a23d56fcd37bc52857e2711a9207e0f21ce77e771b511b517c22da446f7d"), looks := false }, kinds := [], alts := [], laidByText := true, laidKinds := [.data, .data, .data], laidTests := true, laidLooks := .later }
def DotOrdersCardSaid : Prop := Claim7.holds Tryd.pinned (.plain (OpenSpec.ofChange dotOrdersSpec)) dotOrdersCard

/-- THE TIED CARD OF 'epitaphlaw07.DotLists'. -/
def dotListsCard : Claim7 := { stood := { row := dotListsRow, standIns := [], harness := (true, "59d1a23d56fcd37bc52857e2711a9207e0f21ce77e771b511b517c22da446f7d"), looks := false }, kinds := [], alts := [], laidByText := true, laidKinds := [.data, .data, .data], laidTests := true, laidLooks := .later }
def DotListsCardSaid : Prop := Claim7.holds Tryd.pinned (.plain (OpenSpec.ofChange dotListsSpec)) dotListsCard

/-- THE SECOND FORM's CARD OF 'epitaphlaw07.DotTells'. -/
def dotTellsUptoCard : Claim7 := { stood := { row := dotTellsUptoRow, standIns := [], harness := (true, "59d1a23d56fcd37bc52857e2711a9207e0f21ce77e771b511b517c22da446f7d"), looks := false }, kinds := [], alts := [], laidByText := true, laidKinds := [.data, .data, .data], laidTests := true, laidLooks := .later }
def DotTellsUptoCardSaid : Prop := Claim7.holds Tryd.pinned (.plain (OpenSpec.upto dotTellsSpec)) dotTellsUptoCard

/-- THE SECOND FORM's CARD OF 'epitaphlaw07.DotOrders'. -/
def dotOrdersUptoCard : Claim7 := { stood := { row := dotOrdersUptoRow, standIns := [], harness := (true, "59d1a23d56fcd37bc52857e2711a9207e0f21ce77e771b511b517c22da446f7d"), looks := false }, kinds := [], alts := [], laidByText := true, laidKinds := [.data, .data, .data], laidTests := true, laidLooks := .later }
def DotOrdersUptoCardSaid : Prop := Claim7.holds Tryd.pinned (.plain (OpenSpec.upto dotOrdersSpec)) dotOrdersUptoCard

/-- THE SECOND FORM's CARD OF 'epitaphlaw07.DotLists'. -/
def dotListsUptoCard : Claim7 := { stood := { row := dotListsUptoRow, standIns := [], harness := (true, "59d1a23d56fcd37bc52857e2711a9207e0f21ce77e771b511b517c22da446f7d"), looks := false }, kinds := [], alts := [], laidByText := true, laidKinds := [.data, .data, .data], laidTests := true, laidLooks := .later }
def DotListsUptoCardSaid : Prop := Claim7.holds Tryd.pinned (.plain (OpenSpec.upto dotListsSpec)) dotListsUptoCard
end Rows
end Go.Proofs.YtcaocpilahbciaaDoor
