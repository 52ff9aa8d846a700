/-
  DERIVED. GIVEN WITH THE SEED: THE CARDS: each row of YtejepcnoflahkaaDoorRows.lean that lists a variable, with what it lists TIED to the program's text (the seventh form; the later family's looks); each row that meets fmt, with fmt's text TOLD by the authors' own Lean function (tested against real Go, not proved from fmt's source: count such statements apart). THE CARD IS WHAT COUNTS. Prove the row's statement (the work); the ties are given (YtejepcnoflahkaaDoorTie.lean); close each card by the builder's one call (the guide's Derived/Test/ToyasCard.lean, 'card_holds'). Laid BY PROGRAM, IN A SANDBOX (cutbox-door.mjs). By AI agents, Wed Nov 11 2026. No macro, syntax, notation, axiom, sorry.
-/
import Derived.Test.YtejepcnoflahkaaDoorRows
import GoSem.ClaimSeven
namespace Go.Proofs.YtejepcnoflahkaaDoor
namespace Rows

/-- THE TIED CARD OF 'cardindexlaw09.WordsCase'. -/
def wordsCaseCard : Claim7 := { stood := { row := wordsCaseRow, standIns := [], harness := (true, "6e501027e281f29110ed54cd1fb720dbb4b415866f7cf66ef977c6064c59a0eb"), looks := true }, kinds := [], alts := [], laidByText := true, laidKinds := [.data, .data, .data, .data, .sentinel, .sentinel, .listed, .data, .pinned, .pinned], laidTests := true, laidLooks := .later }
def WordsCaseCardSaid : Prop := Claim7.holds Tryd.pinned (.plain (OpenSpec.ofChange wordsCaseSpec)) wordsCaseCard

/-- THE TIED CARD OF 'cardindexlaw09.WordsBack'. -/
def wordsBackCard : Claim7 := { stood := { row := wordsBackRow, standIns := [], harness := (true, "6e501027e281f29110ed54cd1fb720dbb4b415866f7cf66ef977c6064c59a0eb"), looks := true }, kinds := [], alts := [], laidByText := true, laidKinds := [.data, .data, .data, .data, .sentinel, .sentinel, .listed, .data, .pinned, .pinned], laidTests := true, laidLooks := .later }
def WordsBackCardSaid : Prop := Claim7.holds Tryd.pinned (.plain (OpenSpec.ofChange wordsBackSpec)) wordsBackCard

/-- THE SECOND FORM's CARD OF 'cardindexlaw09.WordsCase'. -/
def wordsCaseUptoCard : Claim7 := { stood := { row := wordsCaseUptoRow, standIns := [], harness := (true, "6e501027e281f29110ed54cd1fb720dbb4b415866f7cf66ef977c6064c59a0eb"), looks := true }, kinds := [], alts := [], laidByText := true, laidKinds := [.data, .data, .data, .data, .sentinel, .sentinel, .listed, .data, .pinned, .pinned], laidTests := true, laidLooks := .later }
def WordsCaseUptoCardSaid : Prop := Claim7.holds Tryd.pinned (.plain (OpenSpec.upto wordsCaseSpec)) wordsCaseUptoCard

/-- THE SECOND FORM's CARD OF 'cardindexlaw09.WordsBack'. -/
def wordsBackUptoCard : Claim7 := { stood := { row := wordsBackUptoRow, standIns := [], harness := (true, "6e501027e281f29110ed54cd1fb720dbb4b415866f7cf66ef977c6064c59a0eb"), looks := true }, kinds := [], alts := [], laidByText := true, laidKinds := [.data, .data, .data, .data, .sentinel, .sentinel, .listed, .data, .pinned, .pinned], laidTests := true, laidLooks := .later }
def WordsBackUptoCardSaid : Prop := Claim7.holds Tryd.pinned (.plain (OpenSpec.upto wordsBackSpec)) wordsBackUptoCard
end Rows
end Go.Proofs.YtejepcnoflahkaaDoor
