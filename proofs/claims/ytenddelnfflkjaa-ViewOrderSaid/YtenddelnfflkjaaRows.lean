/-
  No cell of these rows narrows 'for every input' (looked for: loops, veiled, ifaces, maps, wideKeys, modest, calm, conditions, laid).
  DERIVED. THE GIVEN ROWS OF THIS SEAT. 5 by the template 'for every input the law returns true; each argument reads behind the call as it read before'; 0 by the template 'total and deterministic' (their statements: YtenddelnfflkjaaTotals.lean).
  GIVEN WITH THE SEED: the statements are not yours to turn. If you find one false, say at which input.
  Laid BY PROGRAM, IN A SANDBOX (cutbox-rows.mjs): the forced cells as the released guide's own fill.sh prints them over the translation 96f564de42440d53… (all of the seat's roots in one cut). By AI agents, Wed Nov 11 2026. No macro, syntax, notation, axiom, sorry.
-/
import Derived.Test.YtenddelnfflkjaaChecked
import GoSem.Claim
import GoSem.ClaimJoined
import GoSem.ClaimMapViews
import Derived.JoinedTies
import Derived.KernelRfl
namespace Go.Proofs.Ytenddelnfflkjaa
/- THE CELL 'sum', in the pinned program and in every row, IS THE sha256 OF THE DUMP (.gsa) THAT YtenddelnfflkjaaProg.lean LOADS. Nothing in Lean hashes anything: it is a label: what it is worth is what the hold of that sum in a sandbox is worth. -/
noncomputable def Try.pinned : Pinned := { name := "ytenddelnfflkjaa", sum := "96f564de42440d53dc32fa3ed31918b24de09167dfd241aadab5a14a145f1745", checked := Try.checked }
namespace Rows
def none {H : Type} : Left H := { results := [], args := [] }

/-- 'epitaphlaw19.ViewShows': WHATEVER THE INPUT: true; the input reads as it did. -/
def viewShowsSpec : ChangeSpec := { name := "viewShows", fn := fun _ => fun
  | [d1, d2] => { results := [.lit (.bool true)], args := [d1, d2] }
  | _ => none }
def viewShowsRow : OpenClaim := { program := "ytenddelnfflkjaa", sum := "96f564de42440d53dc32fa3ed31918b24de09167dfd241aadab5a14a145f1745", func := "epitaph/epitaphlaw19.ViewShows", spec := "viewShows", unfollowed := true, recurses := true, apart := false }
def ViewShowsSaid : Prop := viewShowsRow.holds Try.pinned (OpenSpec.ofChange viewShowsSpec)

/-- ITS FALSE NEIGHBOUR: 'it returns false'. Refute it at one input. -/
def viewShowsWrong : ChangeSpec := { name := "viewShows", fn := fun _ => fun
  | [d1, d2] => { results := [.lit (.bool false)], args := [d1, d2] }
  | _ => none }
def ViewShowsWrongFalsely : Prop := viewShowsRow.holds Try.pinned (OpenSpec.ofChange viewShowsWrong)

/-- 'epitaphlaw19.ViewOrder': WHATEVER THE INPUT: true; the input reads as it did. -/
def viewOrderSpec : ChangeSpec := { name := "viewOrder", fn := fun _ => fun
  | [d1, d2] => { results := [.lit (.bool true)], args := [d1, d2] }
  | _ => none }
def viewOrderRow : OpenClaim := { program := "ytenddelnfflkjaa", sum := "96f564de42440d53dc32fa3ed31918b24de09167dfd241aadab5a14a145f1745", func := "epitaph/epitaphlaw19.ViewOrder", spec := "viewOrder", unfollowed := true, recurses := true, apart := false }
def ViewOrderSaid : Prop := viewOrderRow.holds Try.pinned (OpenSpec.ofChange viewOrderSpec)

/-- ITS FALSE NEIGHBOUR: 'it returns false'. Refute it at one input. -/
def viewOrderWrong : ChangeSpec := { name := "viewOrder", fn := fun _ => fun
  | [d1, d2] => { results := [.lit (.bool false)], args := [d1, d2] }
  | _ => none }
def ViewOrderWrongFalsely : Prop := viewOrderRow.holds Try.pinned (OpenSpec.ofChange viewOrderWrong)

/-- 'epitaphlaw13.EventOwn': WHATEVER THE INPUT: true; the input reads as it did. -/
def eventOwnSpec : ChangeSpec := { name := "eventOwn", fn := fun _ => fun
  | [d] => { results := [.lit (.bool true)], args := [d] }
  | _ => none }
def eventOwnRow : OpenClaim := { program := "ytenddelnfflkjaa", sum := "96f564de42440d53dc32fa3ed31918b24de09167dfd241aadab5a14a145f1745", func := "epitaph/epitaphlaw13.EventOwn", spec := "eventOwn", unfollowed := true, recurses := true, apart := false }
def EventOwnSaid : Prop := eventOwnRow.holds Try.pinned (OpenSpec.ofChange eventOwnSpec)

/-- ITS FALSE NEIGHBOUR: 'it returns false'. Refute it at one input. -/
def eventOwnWrong : ChangeSpec := { name := "eventOwn", fn := fun _ => fun
  | [d] => { results := [.lit (.bool false)], args := [d] }
  | _ => none }
def EventOwnWrongFalsely : Prop := eventOwnRow.holds Try.pinned (OpenSpec.ofChange eventOwnWrong)

/-- 'epitaphlaw13.EventLists': WHATEVER THE INPUT: true; the input reads as it did. -/
def eventListsSpec : ChangeSpec := { name := "eventLists", fn := fun _ => fun
  | [d1, d2] => { results := [.lit (.bool true)], args := [d1, d2] }
  | _ => none }
def eventListsRow : OpenClaim := { program := "ytenddelnfflkjaa", sum := "96f564de42440d53dc32fa3ed31918b24de09167dfd241aadab5a14a145f1745", func := "epitaph/epitaphlaw13.EventLists", spec := "eventLists", unfollowed := true, recurses := true, apart := false }
def EventListsSaid : Prop := eventListsRow.holds Try.pinned (OpenSpec.ofChange eventListsSpec)

/-- ITS FALSE NEIGHBOUR: 'it returns false'. Refute it at one input. -/
def eventListsWrong : ChangeSpec := { name := "eventLists", fn := fun _ => fun
  | [d1, d2] => { results := [.lit (.bool false)], args := [d1, d2] }
  | _ => none }
def EventListsWrongFalsely : Prop := eventListsRow.holds Try.pinned (OpenSpec.ofChange eventListsWrong)

/-- 'epitaphlaw17.KillsParts': WHATEVER THE INPUT: true; the input reads as it did. -/
def killsPartsSpec : ChangeSpec := { name := "killsParts", fn := fun _ => fun
  | [d1, d2, d3] => { results := [.lit (.bool true)], args := [d1, d2, d3] }
  | _ => none }
def killsPartsRow : OpenClaim := { program := "ytenddelnfflkjaa", sum := "96f564de42440d53dc32fa3ed31918b24de09167dfd241aadab5a14a145f1745", func := "epitaph/epitaphlaw17.KillsParts", spec := "killsParts", unfollowed := true, recurses := true, apart := false }
def KillsPartsSaid : Prop := killsPartsRow.holds Try.pinned (OpenSpec.ofChange killsPartsSpec)

/-- ITS FALSE NEIGHBOUR: 'it returns false'. Refute it at one input. -/
def killsPartsWrong : ChangeSpec := { name := "killsParts", fn := fun _ => fun
  | [d1, d2, d3] => { results := [.lit (.bool false)], args := [d1, d2, d3] }
  | _ => none }
def KillsPartsWrongFalsely : Prop := killsPartsRow.holds Try.pinned (OpenSpec.ofChange killsPartsWrong)

/- THE SECOND FORM. 'bulk': how many values and letters a reading holds, each counted each time it is reached (what is shared counts as often as it is met; a slice's spare places count too). A statement '..UptoSaid' is the law's where the arguments, and the package variables that the reading takes, are together of bulk at most 1048576: NARROWER than '..Said'. Prove '..Said' where nothing that the law and all that it calls make is longer than what came in: it says more and counts as full. Else prove '..UptoSaid'. A law counts once. -/
mutual
def uptoBulk {H : Type} : DataW H → Nat
  | .lit (.string bytes) => bytes.length + 1
  | .lit _ => 1
  | .nil => 1
  | .ptr d => uptoBulk d + 1
  | .slice elems spare => uptoBulkAll elems + uptoBulkAll spare + 1
  | .agg parts => uptoBulkAll parts + 1
  | .iface _ d => uptoBulk d + 1
  | .map entries => uptoBulkEntries entries + 1
  | .held _ => 1
def uptoBulkAll {H : Type} : List (DataW H) → Nat
  | [] => 0
  | d :: r => uptoBulk d + uptoBulkAll r
def uptoBulkEntries {H : Type} : List (Lit × DataW H) → Nat
  | [] => 0
  | x :: r => uptoBulkEntry x + uptoBulkEntries r
def uptoBulkEntry {H : Type} : Lit × DataW H → Nat
  | (.string bytes, d) => bytes.length + uptoBulk d + 1
  | (_, d) => uptoBulk d + 1
 end
def uptoSmall : (H : Type) → List (DataW H) → Bool := fun _ ds => decide (uptoBulkAll ds ≤ 1048576)
def OpenSpec.upto (s : _root_.Go.ChangeSpec) : _root_.Go.OpenSpec := { _root_.Go.OpenSpec.ofChange s with cond := some uptoSmall }

/-- 'epitaphlaw19.ViewShows', WHERE WHAT IT READS IS OF BULK AT MOST 1048576: true; the input reads as it did. -/
def viewShowsUptoRow : OpenClaim := { program := "ytenddelnfflkjaa", sum := "96f564de42440d53dc32fa3ed31918b24de09167dfd241aadab5a14a145f1745", func := "epitaph/epitaphlaw19.ViewShows", spec := "viewShows", unfollowed := true, recurses := true, apart := false, narrowed := true }
def ViewShowsUptoSaid : Prop := viewShowsUptoRow.holds Try.pinned (OpenSpec.upto viewShowsSpec)

/-- 'epitaphlaw19.ViewOrder', WHERE WHAT IT READS IS OF BULK AT MOST 1048576: true; the input reads as it did. -/
def viewOrderUptoRow : OpenClaim := { program := "ytenddelnfflkjaa", sum := "96f564de42440d53dc32fa3ed31918b24de09167dfd241aadab5a14a145f1745", func := "epitaph/epitaphlaw19.ViewOrder", spec := "viewOrder", unfollowed := true, recurses := true, apart := false, narrowed := true }
def ViewOrderUptoSaid : Prop := viewOrderUptoRow.holds Try.pinned (OpenSpec.upto viewOrderSpec)

/-- 'epitaphlaw13.EventOwn', WHERE WHAT IT READS IS OF BULK AT MOST 1048576: true; the input reads as it did. -/
def eventOwnUptoRow : OpenClaim := { program := "ytenddelnfflkjaa", sum := "96f564de42440d53dc32fa3ed31918b24de09167dfd241aadab5a14a145f1745", func := "epitaph/epitaphlaw13.EventOwn", spec := "eventOwn", unfollowed := true, recurses := true, apart := false, narrowed := true }
def EventOwnUptoSaid : Prop := eventOwnUptoRow.holds Try.pinned (OpenSpec.upto eventOwnSpec)

/-- 'epitaphlaw13.EventLists', WHERE WHAT IT READS IS OF BULK AT MOST 1048576: true; the input reads as it did. -/
def eventListsUptoRow : OpenClaim := { program := "ytenddelnfflkjaa", sum := "96f564de42440d53dc32fa3ed31918b24de09167dfd241aadab5a14a145f1745", func := "epitaph/epitaphlaw13.EventLists", spec := "eventLists", unfollowed := true, recurses := true, apart := false, narrowed := true }
def EventListsUptoSaid : Prop := eventListsUptoRow.holds Try.pinned (OpenSpec.upto eventListsSpec)

/-- 'epitaphlaw17.KillsParts', WHERE WHAT IT READS IS OF BULK AT MOST 1048576: true; the input reads as it did. -/
def killsPartsUptoRow : OpenClaim := { program := "ytenddelnfflkjaa", sum := "96f564de42440d53dc32fa3ed31918b24de09167dfd241aadab5a14a145f1745", func := "epitaph/epitaphlaw17.KillsParts", spec := "killsParts", unfollowed := true, recurses := true, apart := false, narrowed := true }
def KillsPartsUptoSaid : Prop := killsPartsUptoRow.holds Try.pinned (OpenSpec.upto killsPartsSpec)

end Rows
end Go.Proofs.Ytenddelnfflkjaa
