/-
  DERIVED. GIVEN WITH THE SEED: THE CARDS: each row of YtkkpjdgahdljbaaGreatDoorRows.lean that lists a variable, with what it lists TIED to the program's text (the seventh form; the later family's looks); each row that meets fmt, with fmt's text TOLD by the authors' own Lean function (tested against real Go, not proved from fmt's source: count such statements apart). THE CARD IS WHAT COUNTS. Prove the row's statement (the work); the ties are given (YtkkpjdgahdljbaaGreatDoorTie.lean); close each card by the builder's one call (the guide's Derived/Test/ToyasCard.lean, 'card_holds'). Laid BY PROGRAM, IN A SANDBOX (cutbox-door.mjs). By AI agents, Wed Nov 11 2026. No macro, syntax, notation, axiom, sorry.
-/
import Derived.Test.YtkkpjdgahdljbaaGreatDoorRows
import GoSem.ClaimSeven
namespace Go.Proofs.YtkkpjdgahdljbaaGreatDoor
namespace Rows

/-- THE TIED CARD OF 'cardindexlaw02.ValueCuts'. -/
def valueCutsCard : Claim7 := { stood := { row := valueCutsRow, standIns := [], harness := (true, "e77d8fa5571020f5a8496433dc9ffdfe8c95d297db14eae835ebca7c16102690"), looks := true }, kinds := [], alts := [], laidByText := true, laidKinds := [.data, .data, .data, .data, .pinned], laidTests := true, laidLooks := .later }
def ValueCutsCardSaid : Prop := Claim7.holds Tryz.pinned (.plain (OpenSpec.ofChange valueCutsSpec)) valueCutsCard

/-- THE TIED CARD OF 'cardindexlaw02.ValueNumbers'. -/
def valueNumbersCard : Claim7 := { stood := { row := valueNumbersRow, standIns := [], harness := (true, "e77d8fa5571020f5a8496433dc9ffdfe8c95d297db14eae835ebca7c16102690"), looks := true }, kinds := [], alts := [], laidByText := true, laidKinds := [.data, .data, .data, .data, .pinned], laidTests := true, laidLooks := .later }
def ValueNumbersCardSaid : Prop := Claim7.holds Tryz.pinned (.plain (OpenSpec.ofChange valueNumbersSpec)) valueNumbersCard

/-- THE TIED CARD OF 'cardindexlaw02.ValueLikes'. -/
def valueLikesCard : Claim7 := { stood := { row := valueLikesRow, standIns := [], harness := (true, "e77d8fa5571020f5a8496433dc9ffdfe8c95d297db14eae835ebca7c16102690"), looks := true }, kinds := [], alts := [], laidByText := true, laidKinds := [.data, .data, .data, .data, .pinned], laidTests := true, laidLooks := .later }
def ValueLikesCardSaid : Prop := Claim7.holds Tryz.pinned (.plain (OpenSpec.ofChange valueLikesSpec)) valueLikesCard

/-- THE TIED CARD OF 'cardindexlaw08.AggTells'. -/
def aggTellsCard : Claim7 := { stood := { row := aggTellsRow, standIns := [], harness := (true, "e77d8fa5571020f5a8496433dc9ffdfe8c95d297db14eae835ebca7c16102690"), looks := true }, kinds := [], alts := [], laidByText := true, laidKinds := [.data, .data, .data, .data, .pinned], laidTests := true, laidLooks := .later }
def AggTellsCardSaid : Prop := Claim7.holds Tryz.pinned (.plain (OpenSpec.ofChange aggTellsSpec)) aggTellsCard

/-- THE TIED CARD OF 'cardindexlaw13.EvalIn'. -/
def evalInCard : Claim7 := { stood := { row := evalInRow, standIns := [], harness := (true, "e77d8fa5571020f5a8496433dc9ffdfe8c95d297db14eae835ebca7c16102690"), looks := true }, kinds := [], alts := [], laidByText := true, laidKinds := [.data, .data, .data, .data, .pinned], laidTests := true, laidLooks := .later }
def EvalInCardSaid : Prop := Claim7.holds Tryz.pinned (.plain (OpenSpec.ofChange evalInSpec)) evalInCard

/-- THE TIED CARD OF 'cardindexlaw13.EvalSwap'. -/
def evalSwapCard : Claim7 := { stood := { row := evalSwapRow, standIns := [], harness := (true, "e77d8fa5571020f5a8496433dc9ffdfe8c95d297db14eae835ebca7c16102690"), looks := true }, kinds := [], alts := [], laidByText := true, laidKinds := [.data, .data, .data, .data, .pinned], laidTests := true, laidLooks := .later }
def EvalSwapCardSaid : Prop := Claim7.holds Tryz.pinned (.plain (OpenSpec.ofChange evalSwapSpec)) evalSwapCard

/-- THE TIED CARD OF 'cardindexlaw13.EvalNull'. -/
def evalNullCard : Claim7 := { stood := { row := evalNullRow, standIns := [], harness := (true, "e77d8fa5571020f5a8496433dc9ffdfe8c95d297db14eae835ebca7c16102690"), looks := true }, kinds := [], alts := [], laidByText := true, laidKinds := [.data, .data, .data, .data, .pinned], laidTests := true, laidLooks := .later }
def EvalNullCardSaid : Prop := Claim7.holds Tryz.pinned (.plain (OpenSpec.ofChange evalNullSpec)) evalNullCard

/-- THE TIED CARD OF 'cardindexlaw08.AggParts'. -/
def aggPartsCard : Claim7 := { stood := { row := aggPartsRow, standIns := [], harness := (true, "e77d8fa5571020f5a8496433dc9ffdfe8c95d297db14eae835ebca7c16102690"), looks := true }, kinds := [], alts := [], laidByText := true, laidKinds := [.data, .data, .data, .data, .pinned], laidTests := true, laidLooks := .later }
def AggPartsCardSaid : Prop := Claim7.holds Tryz.pinned (.plain (OpenSpec.ofChange aggPartsSpec)) aggPartsCard

/-- THE TIED CARD OF 'cardindexlaw09.WordsTell'. -/
def wordsTellCard : Claim7 := { stood := { row := wordsTellRow, standIns := [], harness := (true, "e77d8fa5571020f5a8496433dc9ffdfe8c95d297db14eae835ebca7c16102690"), looks := true }, kinds := [], alts := [], laidByText := true, laidKinds := [.data, .data, .data, .data, .sentinel, .sentinel, .listed, .data, .pinned, .pinned], laidTests := true, laidLooks := .later }
def WordsTellCardSaid : Prop := Claim7.holds Tryz.pinned (.plain (OpenSpec.ofChange wordsTellSpec)) wordsTellCard

/-- THE TIED CARD OF 'cardindexlaw13.EvalSources'. -/
def evalSourcesCard : Claim7 := { stood := { row := evalSourcesRow, standIns := [], harness := (true, "e77d8fa5571020f5a8496433dc9ffdfe8c95d297db14eae835ebca7c16102690"), looks := true }, kinds := [], alts := [], laidByText := true, laidKinds := [.data, .data, .data, .data, .pinned], laidTests := true, laidLooks := .later }
def EvalSourcesCardSaid : Prop := Claim7.holds Tryz.pinned (.plain (OpenSpec.ofChange evalSourcesSpec)) evalSourcesCard

/-- THE TIED CARD OF 'cardindexlaw13.EvalFirst'. -/
def evalFirstCard : Claim7 := { stood := { row := evalFirstRow, standIns := [], harness := (true, "e77d8fa5571020f5a8496433dc9ffdfe8c95d297db14eae835ebca7c16102690"), looks := true }, kinds := [], alts := [], laidByText := true, laidKinds := [.data, .data, .data, .data, .pinned], laidTests := true, laidLooks := .later }
def EvalFirstCardSaid : Prop := Claim7.holds Tryz.pinned (.plain (OpenSpec.ofChange evalFirstSpec)) evalFirstCard

/-- THE SECOND FORM's CARD OF 'cardindexlaw02.ValueCuts'. -/
def valueCutsUptoCard : Claim7 := { stood := { row := valueCutsUptoRow, standIns := [], harness := (true, "e77d8fa5571020f5a8496433dc9ffdfe8c95d297db14eae835ebca7c16102690"), looks := true }, kinds := [], alts := [], laidByText := true, laidKinds := [.data, .data, .data, .data, .pinned], laidTests := true, laidLooks := .later }
def ValueCutsUptoCardSaid : Prop := Claim7.holds Tryz.pinned (.plain (OpenSpec.upto valueCutsSpec)) valueCutsUptoCard

/-- THE SECOND FORM's CARD OF 'cardindexlaw02.ValueNumbers'. -/
def valueNumbersUptoCard : Claim7 := { stood := { row := valueNumbersUptoRow, standIns := [], harness := (true, "e77d8fa5571020f5a8496433dc9ffdfe8c95d297db14eae835ebca7c16102690"), looks := true }, kinds := [], alts := [], laidByText := true, laidKinds := [.data, .data, .data, .data, .pinned], laidTests := true, laidLooks := .later }
def ValueNumbersUptoCardSaid : Prop := Claim7.holds Tryz.pinned (.plain (OpenSpec.upto valueNumbersSpec)) valueNumbersUptoCard

/-- THE SECOND FORM's CARD OF 'cardindexlaw02.ValueLikes'. -/
def valueLikesUptoCard : Claim7 := { stood := { row := valueLikesUptoRow, standIns := [], harness := (true, "e77d8fa5571020f5a8496433dc9ffdfe8c95d297db14eae835ebca7c16102690"), looks := true }, kinds := [], alts := [], laidByText := true, laidKinds := [.data, .data, .data, .data, .pinned], laidTests := true, laidLooks := .later }
def ValueLikesUptoCardSaid : Prop := Claim7.holds Tryz.pinned (.plain (OpenSpec.upto valueLikesSpec)) valueLikesUptoCard

/-- THE SECOND FORM's CARD OF 'cardindexlaw08.AggTells'. -/
def aggTellsUptoCard : Claim7 := { stood := { row := aggTellsUptoRow, standIns := [], harness := (true, "e77d8fa5571020f5a8496433dc9ffdfe8c95d297db14eae835ebca7c16102690"), looks := true }, kinds := [], alts := [], laidByText := true, laidKinds := [.data, .data, .data, .data, .pinned], laidTests := true, laidLooks := .later }
def AggTellsUptoCardSaid : Prop := Claim7.holds Tryz.pinned (.plain (OpenSpec.upto aggTellsSpec)) aggTellsUptoCard

/-- THE SECOND FORM's CARD OF 'cardindexlaw13.EvalIn'. -/
def evalInUptoCard : Claim7 := { stood := { row := evalInUptoRow, standIns := [], harness := (true, "e77d8fa5571020f5a8496433dc9ffdfe8c95d297db14eae835ebca7c16102690"), looks := true }, kinds := [], alts := [], laidByText := true, laidKinds := [.data, .data, .data, .data, .pinned], laidTests := true, laidLooks := .later }
def EvalInUptoCardSaid : Prop := Claim7.holds Tryz.pinned (.plain (OpenSpec.upto evalInSpec)) evalInUptoCard

/-- THE SECOND FORM's CARD OF 'cardindexlaw13.EvalSwap'. -/
def evalSwapUptoCard : Claim7 := { stood := { row := evalSwapUptoRow, standIns := [], harness := (true, "e77d8fa5571020f5a8496433dc9ffdfe8c95d297db14eae835ebca7c16102690"), looks := true }, kinds := [], alts := [], laidByText := true, laidKinds := [.data, .data, .data, .data, .pinned], laidTests := true, laidLooks := .later }
def EvalSwapUptoCardSaid : Prop := Claim7.holds Tryz.pinned (.plain (OpenSpec.upto evalSwapSpec)) evalSwapUptoCard

/-- THE SECOND FORM's CARD OF 'cardindexlaw13.EvalNull'. -/
def evalNullUptoCard : Claim7 := { stood := { row := evalNullUptoRow, standIns := [], harness := (true, "e77d8fa5571020f5a8496433dc9ffdfe8c95d297db14eae835ebca7c16102690"), looks := true }, kinds := [], alts := [], laidByText := true, laidKinds := [.data, .data, .data, .data, .pinned], laidTests := true, laidLooks := .later }
def EvalNullUptoCardSaid : Prop := Claim7.holds Tryz.pinned (.plain (OpenSpec.upto evalNullSpec)) evalNullUptoCard

/-- THE SECOND FORM's CARD OF 'cardindexlaw08.AggParts'. -/
def aggPartsUptoCard : Claim7 := { stood := { row := aggPartsUptoRow, standIns := [], harness := (true, "e77d8fa5571020f5a8496433dc9ffdfe8c95d297db14eae835ebca7c16102690"), looks := true }, kinds := [], alts := [], laidByText := true, laidKinds := [.data, .data, .data, .data, .pinned], laidTests := true, laidLooks := .later }
def AggPartsUptoCardSaid : Prop := Claim7.holds Tryz.pinned (.plain (OpenSpec.upto aggPartsSpec)) aggPartsUptoCard

/-- THE SECOND FORM's CARD OF 'cardindexlaw09.WordsTell'. -/
def wordsTellUptoCard : Claim7 := { stood := { row := wordsTellUptoRow, standIns := [], harness := (true, "e77d8fa5571020f5a8496433dc9ffdfe8c95d297db14eae835ebca7c16102690"), looks := true }, kinds := [], alts := [], laidByText := true, laidKinds := [.data, .data, .data, .data, .sentinel, .sentinel, .listed, .data, .pinned, .pinned], laidTests := true, laidLooks := .later }
def WordsTellUptoCardSaid : Prop := Claim7.holds Tryz.pinned (.plain (OpenSpec.upto wordsTellSpec)) wordsTellUptoCard

/-- THE SECOND FORM's CARD OF 'cardindexlaw13.EvalSources'. -/
def evalSourcesUptoCard : Claim7 := { stood := { row := evalSourcesUptoRow, standIns := [], harness := (true, "e77d8fa5571020f5a8496433dc9ffdfe8c95d297db14eae835ebca7c16102690"), looks := true }, kinds := [], alts := [], laidByText := true, laidKinds := [.data, .data, .data, .data, .pinned], laidTests := true, laidLooks := .later }
def EvalSourcesUptoCardSaid : Prop := Claim7.holds Tryz.pinned (.plain (OpenSpec.upto evalSourcesSpec)) evalSourcesUptoCard

/-- THE SECOND FORM's CARD OF 'cardindexlaw13.EvalFirst'. -/
def evalFirstUptoCard : Claim7 := { stood := { row := evalFirstUptoRow, standIns := [], harness := (true, "e77d8fa5571020f5a8496433dc9ffdfe8c95d297db14eae835ebca7c16102690"), looks := true }, kinds := [], alts := [], laidByText := true, laidKinds := [.data, .data, .data, .data, .pinned], laidTests := true, laidLooks := .later }
def EvalFirstUptoCardSaid : Prop := Claim7.holds Tryz.pinned (.plain (OpenSpec.upto evalFirstSpec)) evalFirstUptoCard
end Rows
end Go.Proofs.YtkkpjdgahdljbaaGreatDoor
