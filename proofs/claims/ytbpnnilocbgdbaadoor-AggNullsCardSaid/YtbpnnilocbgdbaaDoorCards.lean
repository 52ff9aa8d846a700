/-
  DERIVED. GIVEN WITH THE SEED: THE CARDS: each row of YtbpnnilocbgdbaaDoorRows.lean that lists a variable, with what it lists TIED to the program's text (the seventh form; the later family's looks); each row that meets fmt, with fmt's text TOLD by the authors' own Lean function (tested against real Go, not proved from fmt's source: count such statements apart). THE CARD IS WHAT COUNTS. Prove the row's statement (the work); the ties are given (YtbpnnilocbgdbaaDoorTie.lean); close each card by the builder's one call (the guide's Derived/Test/ToyasCard.lean, 'card_holds'). Laid BY PROGRAM, IN A SANDBOX (cutbox-door.mjs). By AI agents, Wed Nov 11 2026. No macro, syntax, notation, axiom, sorry.
-/
import Derived.Test.YtbpnnilocbgdbaaDoorRows
import GoSem.ClaimSeven
namespace Go.Proofs.YtbpnnilocbgdbaaDoor
namespace Rows

/-- THE TIED CARD OF 'cardindexlaw08.AggNone'. -/
def aggNoneCard : Claim7 := { stood := { row := aggNoneRow, standIns := [], harness := (true, "9311d43f84eb7f28283156671b84a8bad56df56760cfebfe5818e273ebf7ceb7"), looks := true }, kinds := [], alts := [], laidByText := true, laidKinds := [.data, .data, .data, .data, .pinned], laidTests := true, laidLooks := .later }
def AggNoneCardSaid : Prop := Claim7.holds Tryd.pinned (.plain (OpenSpec.ofChange aggNoneSpec)) aggNoneCard

/-- THE TIED CARD OF 'cardindexlaw08.AggOrder'. -/
def aggOrderCard : Claim7 := { stood := { row := aggOrderRow, standIns := [], harness := (true, "9311d43f84eb7f28283156671b84a8bad56df56760cfebfe5818e273ebf7ceb7"), looks := true }, kinds := [], alts := [], laidByText := true, laidKinds := [.data, .data, .data, .data, .pinned], laidTests := true, laidLooks := .later }
def AggOrderCardSaid : Prop := Claim7.holds Tryd.pinned (.plain (OpenSpec.ofChange aggOrderSpec)) aggOrderCard

/-- THE TIED CARD OF 'cardindexlaw08.AggOnce'. -/
def aggOnceCard : Claim7 := { stood := { row := aggOnceRow, standIns := [], harness := (true, "9311d43f84eb7f28283156671b84a8bad56df56760cfebfe5818e273ebf7ceb7"), looks := true }, kinds := [], alts := [], laidByText := true, laidKinds := [.data, .data, .data, .data, .pinned], laidTests := true, laidLooks := .later }
def AggOnceCardSaid : Prop := Claim7.holds Tryd.pinned (.plain (OpenSpec.ofChange aggOnceSpec)) aggOnceCard

/-- THE TIED CARD OF 'cardindexlaw08.AggNulls'. -/
def aggNullsCard : Claim7 := { stood := { row := aggNullsRow, standIns := [], harness := (true, "9311d43f84eb7f28283156671b84a8bad56df56760cfebfe5818e273ebf7ceb7"), looks := true }, kinds := [], alts := [], laidByText := true, laidKinds := [.data, .data, .data, .data, .pinned], laidTests := true, laidLooks := .later }
def AggNullsCardSaid : Prop := Claim7.holds Tryd.pinned (.plain (OpenSpec.ofChange aggNullsSpec)) aggNullsCard

/-- THE TIED CARD OF 'cardindexlaw08.AggAgain'. -/
def aggAgainCard : Claim7 := { stood := { row := aggAgainRow, standIns := [], harness := (true, "9311d43f84eb7f28283156671b84a8bad56df56760cfebfe5818e273ebf7ceb7"), looks := true }, kinds := [], alts := [], laidByText := true, laidKinds := [.data, .data, .data, .data, .pinned], laidTests := true, laidLooks := .later }
def AggAgainCardSaid : Prop := Claim7.holds Tryd.pinned (.plain (OpenSpec.ofChange aggAgainSpec)) aggAgainCard

/-- THE TIED CARD OF 'cardindexlaw08.AggNumbers'. -/
def aggNumbersCard : Claim7 := { stood := { row := aggNumbersRow, standIns := [], harness := (true, "9311d43f84eb7f28283156671b84a8bad56df56760cfebfe5818e273ebf7ceb7"), looks := true }, kinds := [], alts := [], laidByText := true, laidKinds := [.data, .data, .data, .data, .pinned], laidTests := true, laidLooks := .later }
def AggNumbersCardSaid : Prop := Claim7.holds Tryd.pinned (.plain (OpenSpec.ofChange aggNumbersSpec)) aggNumbersCard

/-- THE TIED CARD OF 'cardindexlaw09.WordsCase'. -/
def wordsCaseCard : Claim7 := { stood := { row := wordsCaseRow, standIns := [], harness := (true, "9311d43f84eb7f28283156671b84a8bad56df56760cfebfe5818e273ebf7ceb7"), looks := true }, kinds := [], alts := [], laidByText := true, laidKinds := [.data, .data, .data, .data, .sentinel, .sentinel, .listed, .data, .pinned, .pinned], laidTests := true, laidLooks := .later }
def WordsCaseCardSaid : Prop := Claim7.holds Tryd.pinned (.plain (OpenSpec.ofChange wordsCaseSpec)) wordsCaseCard

/-- THE TIED CARD OF 'cardindexlaw09.WordsBack'. -/
def wordsBackCard : Claim7 := { stood := { row := wordsBackRow, standIns := [], harness := (true, "9311d43f84eb7f28283156671b84a8bad56df56760cfebfe5818e273ebf7ceb7"), looks := true }, kinds := [], alts := [], laidByText := true, laidKinds := [.data, .data, .data, .data, .sentinel, .sentinel, .listed, .data, .pinned, .pinned], laidTests := true, laidLooks := .later }
def WordsBackCardSaid : Prop := Claim7.holds Tryd.pinned (.plain (OpenSpec.ofChange wordsBackSpec)) wordsBackCard

/-- THE SECOND FORM's CARD OF 'cardindexlaw08.AggNone'. -/
def aggNoneUptoCard : Claim7 := { stood := { row := aggNoneUptoRow, standIns := [], harness := (true, "9311d43f84eb7f28283156671b84a8bad56df56760cfebfe5818e273ebf7ceb7"), looks := true }, kinds := [], alts := [], laidByText := true, laidKinds := [.data, .data, .data, .data, .pinned], laidTests := true, laidLooks := .later }
def AggNoneUptoCardSaid : Prop := Claim7.holds Tryd.pinned (.plain (OpenSpec.upto aggNoneSpec)) aggNoneUptoCard

/-- THE SECOND FORM's CARD OF 'cardindexlaw08.AggOrder'. -/
def aggOrderUptoCard : Claim7 := { stood := { row := aggOrderUptoRow, standIns := [], harness := (true, "9311d43f84eb7f28283156671b84a8bad56df56760cfebfe5818e273ebf7ceb7"), looks := true }, kinds := [], alts := [], laidByText := true, laidKinds := [.data, .data, .data, .data, .pinned], laidTests := true, laidLooks := .later }
def AggOrderUptoCardSaid : Prop := Claim7.holds Tryd.pinned (.plain (OpenSpec.upto aggOrderSpec)) aggOrderUptoCard

/-- THE SECOND FORM's CARD OF 'cardindexlaw08.AggOnce'. -/
def aggOnceUptoCard : Claim7 := { stood := { row := aggOnceUptoRow, standIns := [], harness := (true, "9311d43f84eb7f28283156671b84a8bad56df56760cfebfe5818e273ebf7ceb7"), looks := true }, kinds := [], alts := [], laidByText := true, laidKinds := [.data, .data, .data, .data, .pinned], laidTests := true, laidLooks := .later }
def AggOnceUptoCardSaid : Prop := Claim7.holds Tryd.pinned (.plain (OpenSpec.upto aggOnceSpec)) aggOnceUptoCard

/-- THE SECOND FORM's CARD OF 'cardindexlaw08.AggNulls'. -/
def aggNullsUptoCard : Claim7 := { stood := { row := aggNullsUptoRow, standIns := [], harness := (true, "9311d43f84eb7f28283156671b84a8bad56df56760cfebfe5818e273ebf7ceb7"), looks := true }, kinds := [], alts := [], laidByText := true, laidKinds := [.data, .data, .data, .data, .pinned], laidTests := true, laidLooks := .later }
def AggNullsUptoCardSaid : Prop := Claim7.holds Tryd.pinned (.plain (OpenSpec.upto aggNullsSpec)) aggNullsUptoCard

/-- THE SECOND FORM's CARD OF 'cardindexlaw08.AggAgain'. -/
def aggAgainUptoCard : Claim7 := { stood := { row := aggAgainUptoRow, standIns := [], harness := (true, "9311d43f84eb7f28283156671b84a8bad56df56760cfebfe5818e273ebf7ceb7"), looks := true }, kinds := [], alts := [], laidByText := true, laidKinds := [.data, .data, .data, .data, .pinned], laidTests := true, laidLooks := .later }
def AggAgainUptoCardSaid : Prop := Claim7.holds Tryd.pinned (.plain (OpenSpec.upto aggAgainSpec)) aggAgainUptoCard

/-- THE SECOND FORM's CARD OF 'cardindexlaw08.AggNumbers'. -/
def aggNumbersUptoCard : Claim7 := { stood := { row := aggNumbersUptoRow, standIns := [], harness := (true, "9311d43f84eb7f28283156671b84a8bad56df56760cfebfe5818e273ebf7ceb7"), looks := true }, kinds := [], alts := [], laidByText := true, laidKinds := [.data, .data, .data, .data, .pinned], laidTests := true, laidLooks := .later }
def AggNumbersUptoCardSaid : Prop := Claim7.holds Tryd.pinned (.plain (OpenSpec.upto aggNumbersSpec)) aggNumbersUptoCard

/-- THE SECOND FORM's CARD OF 'cardindexlaw09.WordsCase'. -/
def wordsCaseUptoCard : Claim7 := { stood := { row := wordsCaseUptoRow, standIns := [], harness := (true, "9311d43f84eb7f28283156671b84a8bad56df56760cfebfe5818e273ebf7ceb7"), looks := true }, kinds := [], alts := [], laidByText := true, laidKinds := [.data, .data, .data, .data, .sentinel, .sentinel, .listed, .data, .pinned, .pinned], laidTests := true, laidLooks := .later }
def WordsCaseUptoCardSaid : Prop := Claim7.holds Tryd.pinned (.plain (OpenSpec.upto wordsCaseSpec)) wordsCaseUptoCard

/-- THE SECOND FORM's CARD OF 'cardindexlaw09.WordsBack'. -/
def wordsBackUptoCard : Claim7 := { stood := { row := wordsBackUptoRow, standIns := [], harness := (true, "9311d43f84eb7f28283156671b84a8bad56df56760cfebfe5818e273ebf7ceb7"), looks := true }, kinds := [], alts := [], laidByText := true, laidKinds := [.data, .data, .data, .data, .sentinel, .sentinel, .listed, .data, .pinned, .pinned], laidTests := true, laidLooks := .later }
def WordsBackUptoCardSaid : Prop := Claim7.holds Tryd.pinned (.plain (OpenSpec.upto wordsBackSpec)) wordsBackUptoCard
end Rows
end Go.Proofs.YtbpnnilocbgdbaaDoor
