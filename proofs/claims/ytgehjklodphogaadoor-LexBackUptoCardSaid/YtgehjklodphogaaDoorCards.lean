/-
  DERIVED. GIVEN WITH THE SEED: THE CARDS: each row of YtgehjklodphogaaDoorRows.lean that lists a variable, with what it lists TIED to the program's text (the seventh form; the later family's looks); each row that meets fmt, with fmt's text TOLD by the authors' own Lean function (tested against real Go, not proved from fmt's source: count such statements apart). THE CARD IS WHAT COUNTS. Prove the row's statement (the work); the ties are given (YtgehjklodphogaaDoorTie.lean); close each card by the builder's one call (the guide's Derived/Test/ToyasCard.lean, 'card_holds'). Laid BY PROGRAM, IN A SANDBOX (cutbox-door.mjs). By AI agents, Wed Nov 11 2026. No macro, syntax, notation, axiom, sorry.
-/
import Derived.Test.YtgehjklodphogaaDoorRows
import GoSem.ClaimSeven
namespace Go.Proofs.YtgehjklodphogaaDoor
namespace Rows

/-- THE TIED CARD OF 'codicillaw09.LexBack'. -/
def lexBackCard : Claim7 := { stood := { row := lexBackRow, standIns := [], harness := (true, "92459c1f352eab17d1c159c115553854d57d80098f9bcc69fd08217e8c1670ed"), looks := true }, kinds := [], alts := [], laidByText := true, laidKinds := [.data, .data, .data, .data, .sentinel, .sentinel, .pinned], laidTests := true, laidLooks := .later }
def LexBackCardSaid : Prop := Claim7.holds Tryd.pinned (.plain (OpenSpec.ofChange lexBackSpec)) lexBackCard

/-- THE TIED CARD OF 'codiciltop.TopLeaves'. -/
def topLeavesCard : Claim7 := { stood := { row := topLeavesRow, standIns := [], harness := (true, "92459c1f352eab17d1c159c115553854d57d80098f9bcc69fd08217e8c1670ed"), looks := true }, kinds := [], alts := [], laidByText := true, laidKinds := [.data, .data, .pinned], laidTests := true, laidLooks := .later }
def TopLeavesCardSaid : Prop := Claim7.holds Tryd.pinned (.plain (OpenSpec.ofChange topLeavesSpec)) topLeavesCard

/-- THE SECOND FORM's CARD OF 'codicillaw09.LexBack'. -/
def lexBackUptoCard : Claim7 := { stood := { row := lexBackUptoRow, standIns := [], harness := (true, "92459c1f352eab17d1c159c115553854d57d80098f9bcc69fd08217e8c1670ed"), looks := true }, kinds := [], alts := [], laidByText := true, laidKinds := [.data, .data, .data, .data, .sentinel, .sentinel, .pinned], laidTests := true, laidLooks := .later }
def LexBackUptoCardSaid : Prop := Claim7.holds Tryd.pinned (.plain (OpenSpec.upto lexBackSpec)) lexBackUptoCard

/-- THE SECOND FORM's CARD OF 'codiciltop.TopLeaves'. -/
def topLeavesUptoCard : Claim7 := { stood := { row := topLeavesUptoRow, standIns := [], harness := (true, "92459c1f352eab17d1c159c115553854d57d80098f9bcc69fd08217e8c1670ed"), looks := true }, kinds := [], alts := [], laidByText := true, laidKinds := [.data, .data, .pinned], laidTests := true, laidLooks := .later }
def TopLeavesUptoCardSaid : Prop := Claim7.holds Tryd.pinned (.plain (OpenSpec.upto topLeavesSpec)) topLeavesUptoCard
end Rows
end Go.Proofs.YtgehjklodphogaaDoor
