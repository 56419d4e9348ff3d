/-
  DERIVED. GIVEN WITH THE SEED: THE CARDS: each row of YtghnkgeaocpmaaaGreatDoorRows.lean that lists a variable, with what it lists TIED to the program's text (the seventh form; the later family's looks); each row that meets fmt, with fmt's text TOLD by the authors' own Lean function (tested against real Go, not proved from fmt's source: count such statements apart). THE CARD IS WHAT COUNTS. Prove the row's statement (the work); the ties are given (YtghnkgeaocpmaaaGreatDoorTie.lean); close each card by the builder's one call (the guide's Derived/Test/ToyasCard.lean, 'card_holds'). Laid BY PROGRAM, IN A SANDBOX (cutbox-door.mjs). By AI agents, Wed Nov 11 2026. No macro, syntax, notation, axiom, sorry.
-/
import Derived.Test.YtghnkgeaocpmaaaGreatDoorRows
import GoSem.ClaimSeven
namespace Go.Proofs.YtghnkgeaocpmaaaGreatDoor
namespace Rows

/-- THE TIED CARD OF 'codicillaw10.ParseWrites'. -/
def parseWritesCard : Claim7 := { stood := { row := parseWritesRow, standIns := [], harness := (true, "b3337a624354f800d08dfa2166eec9e085927bac6aba9b59a34b75545d950d64"), looks := true }, kinds := [], alts := [], laidByText := true, laidKinds := [.data, .data, .data, .data, .sentinel, .sentinel, .pinned], laidTests := true, laidLooks := .later }
def ParseWritesCardSaid : Prop := Claim7.holds Tryz.pinned (.plain (OpenSpec.ofChange parseWritesSpec)) parseWritesCard

/-- THE TIED CARD OF 'codicillaw10.ParseBack'. -/
def parseBackCard : Claim7 := { stood := { row := parseBackRow, standIns := [], harness := (true, "b3337a624354f800d08dfa2166eec9e085927bac6aba9b59a34b75545d950d64"), looks := true }, kinds := [], alts := [], laidByText := true, laidKinds := [.data, .data, .data, .data, .sentinel, .sentinel, .pinned], laidTests := true, laidLooks := .later }
def ParseBackCardSaid : Prop := Claim7.holds Tryz.pinned (.plain (OpenSpec.ofChange parseBackSpec)) parseBackCard

/-- THE TIED CARD OF 'codicillaw10.ParseOnce'. -/
def parseOnceCard : Claim7 := { stood := { row := parseOnceRow, standIns := [], harness := (true, "b3337a624354f800d08dfa2166eec9e085927bac6aba9b59a34b75545d950d64"), looks := true }, kinds := [], alts := [], laidByText := true, laidKinds := [.data, .data, .data, .data, .sentinel, .sentinel, .pinned], laidTests := true, laidLooks := .later }
def ParseOnceCardSaid : Prop := Claim7.holds Tryz.pinned (.plain (OpenSpec.ofChange parseOnceSpec)) parseOnceCard

/-- THE TIED CARD OF 'codicillaw10.ParseSteps'. -/
def parseStepsCard : Claim7 := { stood := { row := parseStepsRow, standIns := [], harness := (true, "b3337a624354f800d08dfa2166eec9e085927bac6aba9b59a34b75545d950d64"), looks := true }, kinds := [], alts := [], laidByText := true, laidKinds := [.data, .data, .data, .data, .sentinel, .sentinel, .pinned], laidTests := true, laidLooks := .later }
def ParseStepsCardSaid : Prop := Claim7.holds Tryz.pinned (.plain (OpenSpec.ofChange parseStepsSpec)) parseStepsCard

/-- THE TIED CARD OF 'codicillaw10.ParseBlanks'. -/
def parseBlanksCard : Claim7 := { stood := { row := parseBlanksRow, standIns := [], harness := (true, "b3337a624354f800d08dfa2166eec9e085927bac6aba9b59a34b75545d950d64"), looks := true }, kinds := [], alts := [], laidByText := true, laidKinds := [.data, .data, .data, .data, .sentinel, .sentinel, .pinned], laidTests := true, laidLooks := .later }
def ParseBlanksCardSaid : Prop := Claim7.holds Tryz.pinned (.plain (OpenSpec.ofChange parseBlanksSpec)) parseBlanksCard

/-- THE TIED CARD OF 'codicillaw10.ParseItems'. -/
def parseItemsCard : Claim7 := { stood := { row := parseItemsRow, standIns := [], harness := (true, "b3337a624354f800d08dfa2166eec9e085927bac6aba9b59a34b75545d950d64"), looks := true }, kinds := [], alts := [], laidByText := true, laidKinds := [.data, .data, .data, .data, .sentinel, .sentinel, .pinned], laidTests := true, laidLooks := .later }
def ParseItemsCardSaid : Prop := Claim7.holds Tryz.pinned (.plain (OpenSpec.ofChange parseItemsSpec)) parseItemsCard

/-- THE TIED CARD OF 'codicillaw10.ParseRanks'. -/
def parseRanksCard : Claim7 := { stood := { row := parseRanksRow, standIns := [], harness := (true, "b3337a624354f800d08dfa2166eec9e085927bac6aba9b59a34b75545d950d64"), looks := true }, kinds := [], alts := [], laidByText := true, laidKinds := [.data, .data, .data, .data, .sentinel, .sentinel, .pinned], laidTests := true, laidLooks := .later }
def ParseRanksCardSaid : Prop := Claim7.holds Tryz.pinned (.plain (OpenSpec.ofChange parseRanksSpec)) parseRanksCard

/-- THE TIED CARD OF 'codiciltop.TopReads'. -/
def topReadsCard : Claim7 := { stood := { row := topReadsRow, standIns := [], harness := (true, "b3337a624354f800d08dfa2166eec9e085927bac6aba9b59a34b75545d950d64"), looks := true }, kinds := [], alts := [], laidByText := true, laidKinds := [.data, .data, .data, .data, .sentinel, .sentinel, .data, .pinned], laidTests := true, laidLooks := .later }
def TopReadsCardSaid : Prop := Claim7.holds Tryz.pinned (.plain (OpenSpec.ofChange topReadsSpec)) topReadsCard

/-- THE SECOND FORM's CARD OF 'codicillaw10.ParseWrites'. -/
def parseWritesUptoCard : Claim7 := { stood := { row := parseWritesUptoRow, standIns := [], harness := (true, "b3337a624354f800d08dfa2166eec9e085927bac6aba9b59a34b75545d950d64"), looks := true }, kinds := [], alts := [], laidByText := true, laidKinds := [.data, .data, .data, .data, .sentinel, .sentinel, .pinned], laidTests := true, laidLooks := .later }
def ParseWritesUptoCardSaid : Prop := Claim7.holds Tryz.pinned (.plain (OpenSpec.upto parseWritesSpec)) parseWritesUptoCard

/-- THE SECOND FORM's CARD OF 'codicillaw10.ParseBack'. -/
def parseBackUptoCard : Claim7 := { stood := { row := parseBackUptoRow, standIns := [], harness := (true, "b3337a624354f800d08dfa2166eec9e085927bac6aba9b59a34b75545d950d64"), looks := true }, kinds := [], alts := [], laidByText := true, laidKinds := [.data, .data, .data, .data, .sentinel, .sentinel, .pinned], laidTests := true, laidLooks := .later }
def ParseBackUptoCardSaid : Prop := Claim7.holds Tryz.pinned (.plain (OpenSpec.upto parseBackSpec)) parseBackUptoCard

/-- THE SECOND FORM's CARD OF 'codicillaw10.ParseOnce'. -/
def parseOnceUptoCard : Claim7 := { stood := { row := parseOnceUptoRow, standIns := [], harness := (true, "b3337a624354f800d08dfa2166eec9e085927bac6aba9b59a34b75545d950d64"), looks := true }, kinds := [], alts := [], laidByText := true, laidKinds := [.data, .data, .data, .data, .sentinel, .sentinel, .pinned], laidTests := true, laidLooks := .later }
def ParseOnceUptoCardSaid : Prop := Claim7.holds Tryz.pinned (.plain (OpenSpec.upto parseOnceSpec)) parseOnceUptoCard

/-- THE SECOND FORM's CARD OF 'codicillaw10.ParseSteps'. -/
def parseStepsUptoCard : Claim7 := { stood := { row := parseStepsUptoRow, standIns := [], harness := (true, "b3337a624354f800d08dfa2166eec9e085927bac6aba9b59a34b75545d950d64"), looks := true }, kinds := [], alts := [], laidByText := true, laidKinds := [.data, .data, .data, .data, .sentinel, .sentinel, .pinned], laidTests := true, laidLooks := .later }
def ParseStepsUptoCardSaid : Prop := Claim7.holds Tryz.pinned (.plain (OpenSpec.upto parseStepsSpec)) parseStepsUptoCard

/-- THE SECOND FORM's CARD OF 'codicillaw10.ParseBlanks'. -/
def parseBlanksUptoCard : Claim7 := { stood := { row := parseBlanksUptoRow, standIns := [], harness := (true, "b3337a624354f800d08dfa2166eec9e085927bac6aba9b59a34b75545d950d64"), looks := true }, kinds := [], alts := [], laidByText := true, laidKinds := [.data, .data, .data, .data, .sentinel, .sentinel, .pinned], laidTests := true, laidLooks := .later }
def ParseBlanksUptoCardSaid : Prop := Claim7.holds Tryz.pinned (.plain (OpenSpec.upto parseBlanksSpec)) parseBlanksUptoCard

/-- THE SECOND FORM's CARD OF 'codicillaw10.ParseItems'. -/
def parseItemsUptoCard : Claim7 := { stood := { row := parseItemsUptoRow, standIns := [], harness := (true, "b3337a624354f800d08dfa2166eec9e085927bac6aba9b59a34b75545d950d64"), looks := true }, kinds := [], alts := [], laidByText := true, laidKinds := [.data, .data, .data, .data, .sentinel, .sentinel, .pinned], laidTests := true, laidLooks := .later }
def ParseItemsUptoCardSaid : Prop := Claim7.holds Tryz.pinned (.plain (OpenSpec.upto parseItemsSpec)) parseItemsUptoCard

/-- THE SECOND FORM's CARD OF 'codicillaw10.ParseRanks'. -/
def parseRanksUptoCard : Claim7 := { stood := { row := parseRanksUptoRow, standIns := [], harness := (true, "b3337a624354f800d08dfa2166eec9e085927bac6aba9b59a34b75545d950d64"), looks := true }, kinds := [], alts := [], laidByText := true, laidKinds := [.data, .data, .data, .data, .sentinel, .sentinel, .pinned], laidTests := true, laidLooks := .later }
def ParseRanksUptoCardSaid : Prop := Claim7.holds Tryz.pinned (.plain (OpenSpec.upto parseRanksSpec)) parseRanksUptoCard

/-- THE SECOND FORM's CARD OF 'codiciltop.TopReads'. -/
def topReadsUptoCard : Claim7 := { stood := { row := topReadsUptoRow, standIns := [], harness := (true, "b3337a624354f800d08dfa2166eec9e085927bac6aba9b59a34b75545d950d64"), looks := true }, kinds := [], alts := [], laidByText := true, laidKinds := [.data, .data, .data, .data, .sentinel, .sentinel, .data, .pinned], laidTests := true, laidLooks := .later }
def TopReadsUptoCardSaid : Prop := Claim7.holds Tryz.pinned (.plain (OpenSpec.upto topReadsSpec)) topReadsUptoCard
end Rows
end Go.Proofs.YtghnkgeaocpmaaaGreatDoor
