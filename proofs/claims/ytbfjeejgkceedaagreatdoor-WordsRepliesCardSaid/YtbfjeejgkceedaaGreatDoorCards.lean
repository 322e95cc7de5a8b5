/-
  DERIVED. GIVEN WITH THE SEED: THE CARDS: each row of YtbfjeejgkceedaaGreatDoorRows.lean that lists a variable, with what it lists TIED to the program's text (the seventh form; the later family's looks); each row that meets fmt, with fmt's text TOLD by the authors' own Lean function (tested against real Go, not proved from fmt's source: count such statements apart). THE CARD IS WHAT COUNTS. Prove the row's statement (the work); the ties are given (YtbfjeejgkceedaaGreatDoorTie.lean); close each card by the builder's one call (the guide's Derived/Test/ToyasCard.lean, 'card_holds'). Laid BY PROGRAM, IN A SANDBOX (cutbox-door.mjs). By AI agents, Wed Nov 11 2026. No macro, syntax, notation, axiom, sorry.
-/
import Derived.Test.YtbfjeejgkceedaaGreatDoorRows
import GoSem.ClaimSeven
namespace Go.Proofs.YtbfjeejgkceedaaGreatDoor
namespace Rows

/-- THE TIED CARD OF 'novationlaw40.WordsLines'. -/
def wordsLinesCard : Claim7 := { stood := { row := wordsLinesRow, standIns := [], harness := (true, "b0efc9d49b8dccfad0842742c60adeb72d7963457164b76ce8fef1ff95a4e6a8"), looks := true }, kinds := [], alts := [], laidByText := true, laidKinds := [.data, .data, .data, .data, .sentinel, .sentinel, .pinned], laidTests := true, laidLooks := .later }
def WordsLinesCardSaid : Prop := Claim7.holds Tryz.pinned (.plain (OpenSpec.ofChange wordsLinesSpec)) wordsLinesCard

/-- THE TIED CARD OF 'novationlaw40.WordsReplies'. -/
def wordsRepliesCard : Claim7 := { stood := { row := wordsRepliesRow, standIns := [], harness := (true, "b0efc9d49b8dccfad0842742c60adeb72d7963457164b76ce8fef1ff95a4e6a8"), looks := true }, kinds := [], alts := [], laidByText := true, laidKinds := [.data, .data, .data, .data, .sentinel, .sentinel, .pinned], laidTests := true, laidLooks := .later }
def WordsRepliesCardSaid : Prop := Claim7.holds Tryz.pinned (.plain (OpenSpec.ofChange wordsRepliesSpec)) wordsRepliesCard

/-- THE TIED CARD OF 'novationlaw40.WordsEntries'. -/
def wordsEntriesCard : Claim7 := { stood := { row := wordsEntriesRow, standIns := [], harness := (true, "b0efc9d49b8dccfad0842742c60adeb72d7963457164b76ce8fef1ff95a4e6a8"), looks := true }, kinds := [], alts := [], laidByText := true, laidKinds := [.data, .data, .data, .data, .sentinel, .sentinel, .pinned], laidTests := true, laidLooks := .later }
def WordsEntriesCardSaid : Prop := Claim7.holds Tryz.pinned (.plain (OpenSpec.ofChange wordsEntriesSpec)) wordsEntriesCard

/-- THE SECOND FORM's CARD OF 'novationlaw40.WordsLines'. -/
def wordsLinesUptoCard : Claim7 := { stood := { row := wordsLinesUptoRow, standIns := [], harness := (true, "b0efc9d49b8dccfad0842742c60adeb72d7963457164b76ce8fef1ff95a4e6a8"), looks := true }, kinds := [], alts := [], laidByText := true, laidKinds := [.data, .data, .data, .data, .sentinel, .sentinel, .pinned], laidTests := true, laidLooks := .later }
def WordsLinesUptoCardSaid : Prop := Claim7.holds Tryz.pinned (.plain (OpenSpec.upto wordsLinesSpec)) wordsLinesUptoCard

/-- THE SECOND FORM's CARD OF 'novationlaw40.WordsReplies'. -/
def wordsRepliesUptoCard : Claim7 := { stood := { row := wordsRepliesUptoRow, standIns := [], harness := (true, "b0efc9d49b8dccfad0842742c60adeb72d7963457164b76ce8fef1ff95a4e6a8"), looks := true }, kinds := [], alts := [], laidByText := true, laidKinds := [.data, .data, .data, .data, .sentinel, .sentinel, .pinned], laidTests := true, laidLooks := .later }
def WordsRepliesUptoCardSaid : Prop := Claim7.holds Tryz.pinned (.plain (OpenSpec.upto wordsRepliesSpec)) wordsRepliesUptoCard

/-- THE SECOND FORM's CARD OF 'novationlaw40.WordsEntries'. -/
def wordsEntriesUptoCard : Claim7 := { stood := { row := wordsEntriesUptoRow, standIns := [], harness := (true, "b0efc9d49b8dccfad0842742c60adeb72d7963457164b76ce8fef1ff95a4e6a8"), looks := true }, kinds := [], alts := [], laidByText := true, laidKinds := [.data, .data, .data, .data, .sentinel, .sentinel, .pinned], laidTests := true, laidLooks := .later }
def WordsEntriesUptoCardSaid : Prop := Claim7.holds Tryz.pinned (.plain (OpenSpec.upto wordsEntriesSpec)) wordsEntriesUptoCard
end Rows
end Go.Proofs.YtbfjeejgkceedaaGreatDoor
