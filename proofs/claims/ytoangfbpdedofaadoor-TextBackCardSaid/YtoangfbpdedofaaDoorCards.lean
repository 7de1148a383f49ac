/-
  DERIVED. GIVEN WITH THE SEED: THE CARDS: each row of YtoangfbpdedofaaDoorRows.lean that lists a variable, with what it lists TIED to the program's text (the seventh form; the later family's looks); each row that meets fmt, with fmt's text TOLD by the authors' own Lean function (tested against real Go, not proved from fmt's source: count such statements apart). THE CARD IS WHAT COUNTS. Prove the row's statement (the work); the ties are given (YtoangfbpdedofaaDoorTie.lean); close each card by the builder's one call (the guide's Derived/Test/ToyasCard.lean, 'card_holds'). Laid BY PROGRAM, IN A SANDBOX (cutbox-door.mjs). By AI agents, Wed Nov 11 2026. No macro, syntax, notation, axiom, sorry.
-/
import Derived.Test.YtoangfbpdedofaaDoorRows
import GoSem.ClaimSeven
namespace Go.Proofs.YtoangfbpdedofaaDoor
namespace Rows

/-- THE TIED CARD OF 'epitaphlaw49.TextReads'. -/
def textReadsCard : Claim7 := { stood := { row := textReadsRow, standIns := [], harness := (true, "ca709488572fa7e319ef386a76257e63669a08feedf523abd8108ceed68604eb"), looks := true }, kinds := [], alts := [], laidByText := true, laidKinds := [.data, .data, .data, .data, .sentinel, .sentinel, .data, .pinned], laidTests := true, laidLooks := .later }
def TextReadsCardSaid : Prop := Claim7.holds Tryd.pinned (.plain (OpenSpec.ofChange textReadsSpec)) textReadsCard

/-- THE TIED CARD OF 'epitaphlaw49.TextPrints'. -/
def textPrintsCard : Claim7 := { stood := { row := textPrintsRow, standIns := [], harness := (true, "ca709488572fa7e319ef386a76257e63669a08feedf523abd8108ceed68604eb"), looks := true }, kinds := [], alts := [], laidByText := true, laidKinds := [.data, .data, .data, .data, .sentinel, .sentinel, .data, .pinned], laidTests := true, laidLooks := .later }
def TextPrintsCardSaid : Prop := Claim7.holds Tryd.pinned (.plain (OpenSpec.ofChange textPrintsSpec)) textPrintsCard

/-- THE TIED CARD OF 'epitaphlaw49.TextBack'. -/
def textBackCard : Claim7 := { stood := { row := textBackRow, standIns := [], harness := (true, "ca709488572fa7e319ef386a76257e63669a08feedf523abd8108ceed68604eb"), looks := true }, kinds := [], alts := [], laidByText := true, laidKinds := [.data, .data, .data, .data, .sentinel, .sentinel, .data, .pinned], laidTests := true, laidLooks := .later }
def TextBackCardSaid : Prop := Claim7.holds Tryd.pinned (.plain (OpenSpec.ofChange textBackSpec)) textBackCard

/-- THE TIED CARD OF 'epitaphlaw38.WordsPrint'. -/
def wordsPrintCard : Claim7 := { stood := { row := wordsPrintRow, standIns := [], harness := (true, "ca709488572fa7e319ef386a76257e63669a08feedf523abd8108ceed68604eb"), looks := true }, kinds := [], alts := [], laidByText := true, laidKinds := [.data, .data, .data, .sentinel, .sentinel, .data], laidTests := true, laidLooks := .later }
def WordsPrintCardSaid : Prop := Claim7.holds Tryd.pinned (.plain (OpenSpec.ofChange wordsPrintSpec)) wordsPrintCard

/-- THE TIED CARD OF 'epitaphlaw38.WordsParse'. -/
def wordsParseCard : Claim7 := { stood := { row := wordsParseRow, standIns := [], harness := (true, "ca709488572fa7e319ef386a76257e63669a08feedf523abd8108ceed68604eb"), looks := true }, kinds := [], alts := [], laidByText := true, laidKinds := [.data, .data, .data, .sentinel, .sentinel, .data], laidTests := true, laidLooks := .later }
def WordsParseCardSaid : Prop := Claim7.holds Tryd.pinned (.plain (OpenSpec.ofChange wordsParseSpec)) wordsParseCard

/-- THE TIED CARD OF 'epitaphlaw38.WordsBack'. -/
def wordsBackCard : Claim7 := { stood := { row := wordsBackRow, standIns := [], harness := (true, "ca709488572fa7e319ef386a76257e63669a08feedf523abd8108ceed68604eb"), looks := true }, kinds := [], alts := [], laidByText := true, laidKinds := [.data, .data, .data, .sentinel, .sentinel, .data], laidTests := true, laidLooks := .later }
def WordsBackCardSaid : Prop := Claim7.holds Tryd.pinned (.plain (OpenSpec.ofChange wordsBackSpec)) wordsBackCard

/-- THE TIED CARD OF 'epitaphlaw07.DotParses'. -/
def dotParsesCard : Claim7 := { stood := { row := dotParsesRow, standIns := [], harness := (true, "ca709488572fa7e319ef386a76257e63669a08feedf523abd8108ceed68604eb"), looks := true }, kinds := [], alts := [], laidByText := true, laidKinds := [.data, .data, .data, .sentinel, .sentinel], laidTests := true, laidLooks := .later }
def DotParsesCardSaid : Prop := Claim7.holds Tryd.pinned (.plain (OpenSpec.ofChange dotParsesSpec)) dotParsesCard

/-- THE TIED CARD OF 'epitaphlaw07.DotPacks'. -/
def dotPacksCard : Claim7 := { stood := { row := dotPacksRow, standIns := [], harness := (true, "ca709488572fa7e319ef386a76257e63669a08feedf523abd8108ceed68604eb"), looks := true }, kinds := [], alts := [], laidByText := true, laidKinds := [.data, .data, .data, .sentinel, .sentinel], laidTests := true, laidLooks := .later }
def DotPacksCardSaid : Prop := Claim7.holds Tryd.pinned (.plain (OpenSpec.ofChange dotPacksSpec)) dotPacksCard

/-- THE SECOND FORM's CARD OF 'epitaphlaw49.TextReads'. -/
def textReadsUptoCard : Claim7 := { stood := { row := textReadsUptoRow, standIns := [], harness := (true, "ca709488572fa7e319ef386a76257e63669a08feedf523abd8108ceed68604eb"), looks := true }, kinds := [], alts := [], laidByText := true, laidKinds := [.data, .data, .data, .data, .sentinel, .sentinel, .data, .pinned], laidTests := true, laidLooks := .later }
def TextReadsUptoCardSaid : Prop := Claim7.holds Tryd.pinned (.plain (OpenSpec.upto textReadsSpec)) textReadsUptoCard

/-- THE SECOND FORM's CARD OF 'epitaphlaw49.TextPrints'. -/
def textPrintsUptoCard : Claim7 := { stood := { row := textPrintsUptoRow, standIns := [], harness := (true, "ca709488572fa7e319ef386a76257e63669a08feedf523abd8108ceed68604eb"), looks := true }, kinds := [], alts := [], laidByText := true, laidKinds := [.data, .data, .data, .data, .sentinel, .sentinel, .data, .pinned], laidTests := true, laidLooks := .later }
def TextPrintsUptoCardSaid : Prop := Claim7.holds Tryd.pinned (.plain (OpenSpec.upto textPrintsSpec)) textPrintsUptoCard

/-- THE SECOND FORM's CARD OF 'epitaphlaw49.TextBack'. -/
def textBackUptoCard : Claim7 := { stood := { row := textBackUptoRow, standIns := [], harness := (true, "ca709488572fa7e319ef386a76257e63669a08feedf523abd8108ceed68604eb"), looks := true }, kinds := [], alts := [], laidByText := true, laidKinds := [.data, .data, .data, .data, .sentinel, .sentinel, .data, .pinned], laidTests := true, laidLooks := .later }
def TextBackUptoCardSaid : Prop := Claim7.holds Tryd.pinned (.plain (OpenSpec.upto textBackSpec)) textBackUptoCard

/-- THE SECOND FORM's CARD OF 'epitaphlaw38.WordsPrint'. -/
def wordsPrintUptoCard : Claim7 := { stood := { row := wordsPrintUptoRow, standIns := [], harness := (true, "ca709488572fa7e319ef386a76257e63669a08feedf523abd8108ceed68604eb"), looks := true }, kinds := [], alts := [], laidByText := true, laidKinds := [.data, .data, .data, .sentinel, .sentinel, .data], laidTests := true, laidLooks := .later }
def WordsPrintUptoCardSaid : Prop := Claim7.holds Tryd.pinned (.plain (OpenSpec.upto wordsPrintSpec)) wordsPrintUptoCard

/-- THE SECOND FORM's CARD OF 'epitaphlaw38.WordsParse'. -/
def wordsParseUptoCard : Claim7 := { stood := { row := wordsParseUptoRow, standIns := [], harness := (true, "ca709488572fa7e319ef386a76257e63669a08feedf523abd8108ceed68604eb"), looks := true }, kinds := [], alts := [], laidByText := true, laidKinds := [.data, .data, .data, .sentinel, .sentinel, .data], laidTests := true, laidLooks := .later }
def WordsParseUptoCardSaid : Prop := Claim7.holds Tryd.pinned (.plain (OpenSpec.upto wordsParseSpec)) wordsParseUptoCard

/-- THE SECOND FORM's CARD OF 'epitaphlaw38.WordsBack'. -/
def wordsBackUptoCard : Claim7 := { stood := { row := wordsBackUptoRow, standIns := [], harness := (true, "ca709488572fa7e319ef386a76257e63669a08feedf523abd8108ceed68604eb"), looks := true }, kinds := [], alts := [], laidByText := true, laidKinds := [.data, .data, .data, .sentinel, .sentinel, .data], laidTests := true, laidLooks := .later }
def WordsBackUptoCardSaid : Prop := Claim7.holds Tryd.pinned (.plain (OpenSpec.upto wordsBackSpec)) wordsBackUptoCard

/-- THE SECOND FORM's CARD OF 'epitaphlaw07.DotParses'. -/
def dotParsesUptoCard : Claim7 := { stood := { row := dotParsesUptoRow, standIns := [], harness := (true, "ca709488572fa7e319ef386a76257e63669a08feedf523abd8108ceed68604eb"), looks := true }, kinds := [], alts := [], laidByText := true, laidKinds := [.data, .data, .data, .sentinel, .sentinel], laidTests := true, laidLooks := .later }
def DotParsesUptoCardSaid : Prop := Claim7.holds Tryd.pinned (.plain (OpenSpec.upto dotParsesSpec)) dotParsesUptoCard

/-- THE SECOND FORM's CARD OF 'epitaphlaw07.DotPacks'. -/
def dotPacksUptoCard : Claim7 := { stood := { row := dotPacksUptoRow, standIns := [], harness := (true, "ca709488572fa7e319ef386a76257e63669a08feedf523abd8108ceed68604eb"), looks := true }, kinds := [], alts := [], laidByText := true, laidKinds := [.data, .data, .data, .sentinel, .sentinel], laidTests := true, laidLooks := .later }
def DotPacksUptoCardSaid : Prop := Claim7.holds Tryd.pinned (.plain (OpenSpec.upto dotPacksSpec)) dotPacksUptoCard
end Rows
end Go.Proofs.YtoangfbpdedofaaDoor
