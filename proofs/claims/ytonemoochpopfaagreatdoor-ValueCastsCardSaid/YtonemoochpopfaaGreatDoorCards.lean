/-
  DERIVED. GIVEN WITH THE SEED: THE CARDS: each row of YtonemoochpopfaaGreatDoorRows.lean that lists a variable, with what it lists TIED to the program's text (the seventh form; the later family's looks); each row that meets fmt, with fmt's text TOLD by the authors' own Lean function (tested against real Go, not proved from fmt's source: count such statements apart). THE CARD IS WHAT COUNTS. Prove the row's statement (the work); the ties are given (YtonemoochpopfaaGreatDoorTie.lean); close each card by the builder's one call (the guide's Derived/Test/ToyasCard.lean, 'card_holds'). Laid BY PROGRAM, IN A SANDBOX (cutbox-door.mjs). By AI agents, Wed Nov 11 2026. No macro, syntax, notation, axiom, sorry.
-/
import Derived.Test.YtonemoochpopfaaGreatDoorRows
import GoSem.ClaimSeven
namespace Go.Proofs.YtonemoochpopfaaGreatDoor
namespace Rows

/-- THE TIED CARD OF 'cardindexlaw02.ValueOrder'. -/
def valueOrderCard : Claim7 := { stood := { row := valueOrderRow, standIns := [], harness := (true, "d1873a2ce1f67aa83a869af6fa2027b6348804f43a29d6397da8d6d7eb9ac6d9"), looks := false }, kinds := [], alts := [], laidByText := true, laidKinds := [.data, .data, .data, .data, .pinned], laidTests := true, laidLooks := .later }
def ValueOrderCardSaid : Prop := Claim7.holds Tryz.pinned (.plain (OpenSpec.ofChange valueOrderSpec)) valueOrderCard

/-- THE TIED CARD OF 'cardindexlaw02.ValueThree'. -/
def valueThreeCard : Claim7 := { stood := { row := valueThreeRow, standIns := [], harness := (true, "d1873a2ce1f67aa83a869af6fa2027b6348804f43a29d6397da8d6d7eb9ac6d9"), looks := false }, kinds := [], alts := [], laidByText := true, laidKinds := [.data, .data, .data, .data, .pinned], laidTests := true, laidLooks := .later }
def ValueThreeCardSaid : Prop := Claim7.holds Tryz.pinned (.plain (OpenSpec.ofChange valueThreeSpec)) valueThreeCard

/-- THE TIED CARD OF 'cardindexlaw02.ValueSums'. -/
def valueSumsCard : Claim7 := { stood := { row := valueSumsRow, standIns := [], harness := (true, "d1873a2ce1f67aa83a869af6fa2027b6348804f43a29d6397da8d6d7eb9ac6d9"), looks := false }, kinds := [], alts := [], laidByText := true, laidKinds := [.data, .data, .data, .data, .pinned], laidTests := true, laidLooks := .later }
def ValueSumsCardSaid : Prop := Claim7.holds Tryz.pinned (.plain (OpenSpec.ofChange valueSumsSpec)) valueSumsCard

/-- THE TIED CARD OF 'cardindexlaw02.ValueParts'. -/
def valuePartsCard : Claim7 := { stood := { row := valuePartsRow, standIns := [], harness := (true, "d1873a2ce1f67aa83a869af6fa2027b6348804f43a29d6397da8d6d7eb9ac6d9"), looks := false }, kinds := [], alts := [], laidByText := true, laidKinds := [.data, .data, .data, .data, .pinned], laidTests := true, laidLooks := .later }
def ValuePartsCardSaid : Prop := Claim7.holds Tryz.pinned (.plain (OpenSpec.ofChange valuePartsSpec)) valuePartsCard

/-- THE TIED CARD OF 'cardindexlaw02.ValueCuts'. -/
def valueCutsCard : Claim7 := { stood := { row := valueCutsRow, standIns := [], harness := (true, "d1873a2ce1f67aa83a869af6fa2027b6348804f43a29d6397da8d6d7eb9ac6d9"), looks := false }, kinds := [], alts := [], laidByText := true, laidKinds := [.data, .data, .data, .data, .pinned], laidTests := true, laidLooks := .later }
def ValueCutsCardSaid : Prop := Claim7.holds Tryz.pinned (.plain (OpenSpec.ofChange valueCutsSpec)) valueCutsCard

/-- THE TIED CARD OF 'cardindexlaw02.ValueCasts'. -/
def valueCastsCard : Claim7 := { stood := { row := valueCastsRow, standIns := [], harness := (true, "d1873a2ce1f67aa83a869af6fa2027b6348804f43a29d6397da8d6d7eb9ac6d9"), looks := false }, kinds := [], alts := [], laidByText := true, laidKinds := [.data, .data, .data, .data, .pinned], laidTests := true, laidLooks := .later }
def ValueCastsCardSaid : Prop := Claim7.holds Tryz.pinned (.plain (OpenSpec.ofChange valueCastsSpec)) valueCastsCard

/-- THE TIED CARD OF 'cardindexlaw02.ValueNull'. -/
def valueNullCard : Claim7 := { stood := { row := valueNullRow, standIns := [], harness := (true, "d1873a2ce1f67aa83a869af6fa2027b6348804f43a29d6397da8d6d7eb9ac6d9"), looks := false }, kinds := [], alts := [], laidByText := true, laidKinds := [.data, .data, .data, .data, .pinned], laidTests := true, laidLooks := .later }
def ValueNullCardSaid : Prop := Claim7.holds Tryz.pinned (.plain (OpenSpec.ofChange valueNullSpec)) valueNullCard

/-- THE TIED CARD OF 'cardindexlaw02.ValueNumbers'. -/
def valueNumbersCard : Claim7 := { stood := { row := valueNumbersRow, standIns := [], harness := (true, "d1873a2ce1f67aa83a869af6fa2027b6348804f43a29d6397da8d6d7eb9ac6d9"), looks := false }, kinds := [], alts := [], laidByText := true, laidKinds := [.data, .data, .data, .data, .pinned], laidTests := true, laidLooks := .later }
def ValueNumbersCardSaid : Prop := Claim7.holds Tryz.pinned (.plain (OpenSpec.ofChange valueNumbersSpec)) valueNumbersCard

/-- THE TIED CARD OF 'cardindexlaw02.ValueLikes'. -/
def valueLikesCard : Claim7 := { stood := { row := valueLikesRow, standIns := [], harness := (true, "d1873a2ce1f67aa83a869af6fa2027b6348804f43a29d6397da8d6d7eb9ac6d9"), looks := false }, kinds := [], alts := [], laidByText := true, laidKinds := [.data, .data, .data, .data, .pinned], laidTests := true, laidLooks := .later }
def ValueLikesCardSaid : Prop := Claim7.holds Tryz.pinned (.plain (OpenSpec.ofChange valueLikesSpec)) valueLikesCard

/-- THE SECOND FORM's CARD OF 'cardindexlaw02.ValueOrder'. -/
def valueOrderUptoCard : Claim7 := { stood := { row := valueOrderUptoRow, standIns := [], harness := (true, "d1873a2ce1f67aa83a869af6fa2027b6348804f43a29d6397da8d6d7eb9ac6d9"), looks := false }, kinds := [], alts := [], laidByText := true, laidKinds := [.data, .data, .data, .data, .pinned], laidTests := true, laidLooks := .later }
def ValueOrderUptoCardSaid : Prop := Claim7.holds Tryz.pinned (.plain (OpenSpec.upto valueOrderSpec)) valueOrderUptoCard

/-- THE SECOND FORM's CARD OF 'cardindexlaw02.ValueThree'. -/
def valueThreeUptoCard : Claim7 := { stood := { row := valueThreeUptoRow, standIns := [], harness := (true, "d1873a2ce1f67aa83a869af6fa2027b6348804f43a29d6397da8d6d7eb9ac6d9"), looks := false }, kinds := [], alts := [], laidByText := true, laidKinds := [.data, .data, .data, .data, .pinned], laidTests := true, laidLooks := .later }
def ValueThreeUptoCardSaid : Prop := Claim7.holds Tryz.pinned (.plain (OpenSpec.upto valueThreeSpec)) valueThreeUptoCard

/-- THE SECOND FORM's CARD OF 'cardindexlaw02.ValueSums'. -/
def valueSumsUptoCard : Claim7 := { stood := { row := valueSumsUptoRow, standIns := [], harness := (true, "d1873a2ce1f67aa83a869af6fa2027b6348804f43a29d6397da8d6d7eb9ac6d9"), looks := false }, kinds := [], alts := [], laidByText := true, laidKinds := [.data, .data, .data, .data, .pinned], laidTests := true, laidLooks := .later }
def ValueSumsUptoCardSaid : Prop := Claim7.holds Tryz.pinned (.plain (OpenSpec.upto valueSumsSpec)) valueSumsUptoCard

/-- THE SECOND FORM's CARD OF 'cardindexlaw02.ValueParts'. -/
def valuePartsUptoCard : Claim7 := { stood := { row := valuePartsUptoRow, standIns := [], harness := (true, "d1873a2ce1f67aa83a869af6fa2027b6348804f43a29d6397da8d6d7eb9ac6d9"), looks := false }, kinds := [], alts := [], laidByText := true, laidKinds := [.data, .data, .data, .data, .pinned], laidTests := true, laidLooks := .later }
def ValuePartsUptoCardSaid : Prop := Claim7.holds Tryz.pinned (.plain (OpenSpec.upto valuePartsSpec)) valuePartsUptoCard

/-- THE SECOND FORM's CARD OF 'cardindexlaw02.ValueCuts'. -/
def valueCutsUptoCard : Claim7 := { stood := { row := valueCutsUptoRow, standIns := [], harness := (true, "d1873a2ce1f67aa83a869af6fa2027b6348804f43a29d6397da8d6d7eb9ac6d9"), looks := false }, kinds := [], alts := [], laidByText := true, laidKinds := [.data, .data, .data, .data, .pinned], laidTests := true, laidLooks := .later }
def ValueCutsUptoCardSaid : Prop := Claim7.holds Tryz.pinned (.plain (OpenSpec.upto valueCutsSpec)) valueCutsUptoCard

/-- THE SECOND FORM's CARD OF 'cardindexlaw02.ValueCasts'. -/
def valueCastsUptoCard : Claim7 := { stood := { row := valueCastsUptoRow, standIns := [], harness := (true, "d1873a2ce1f67aa83a869af6fa2027b6348804f43a29d6397da8d6d7eb9ac6d9"), looks := false }, kinds := [], alts := [], laidByText := true, laidKinds := [.data, .data, .data, .data, .pinned], laidTests := true, laidLooks := .later }
def ValueCastsUptoCardSaid : Prop := Claim7.holds Tryz.pinned (.plain (OpenSpec.upto valueCastsSpec)) valueCastsUptoCard

/-- THE SECOND FORM's CARD OF 'cardindexlaw02.ValueNull'. -/
def valueNullUptoCard : Claim7 := { stood := { row := valueNullUptoRow, standIns := [], harness := (true, "d1873a2ce1f67aa83a869af6fa2027b6348804f43a29d6397da8d6d7eb9ac6d9"), looks := false }, kinds := [], alts := [], laidByText := true, laidKinds := [.data, .data, .data, .data, .pinned], laidTests := true, laidLooks := .later }
def ValueNullUptoCardSaid : Prop := Claim7.holds Tryz.pinned (.plain (OpenSpec.upto valueNullSpec)) valueNullUptoCard

/-- THE SECOND FORM's CARD OF 'cardindexlaw02.ValueNumbers'. -/
def valueNumbersUptoCard : Claim7 := { stood := { row := valueNumbersUptoRow, standIns := [], harness := (true, "d1873a2ce1f67aa83a869af6fa2027b6348804f43a29d6397da8d6d7eb9ac6d9"), looks := false }, kinds := [], alts := [], laidByText := true, laidKinds := [.data, .data, .data, .data, .pinned], laidTests := true, laidLooks := .later }
def ValueNumbersUptoCardSaid : Prop := Claim7.holds Tryz.pinned (.plain (OpenSpec.upto valueNumbersSpec)) valueNumbersUptoCard

/-- THE SECOND FORM's CARD OF 'cardindexlaw02.ValueLikes'. -/
def valueLikesUptoCard : Claim7 := { stood := { row := valueLikesUptoRow, standIns := [], harness := (true, "d1873a2ce1f67aa83a869af6fa2027b6348804f43a29d6397da8d6d7eb9ac6d9"), looks := false }, kinds := [], alts := [], laidByText := true, laidKinds := [.data, .data, .data, .data, .pinned], laidTests := true, laidLooks := .later }
def ValueLikesUptoCardSaid : Prop := Claim7.holds Tryz.pinned (.plain (OpenSpec.upto valueLikesSpec)) valueLikesUptoCard
end Rows
end Go.Proofs.YtonemoochpopfaaGreatDoor
