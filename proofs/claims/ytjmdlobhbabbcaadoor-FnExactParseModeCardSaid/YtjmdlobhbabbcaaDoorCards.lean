/-
  DERIVED. GIVEN WITH THE SEED: THE CARDS: each row of YtjmdlobhbabbcaaDoorRows.lean that lists a variable, with what it lists TIED to the program's text (the seventh form; the later family's looks); each row that meets fmt, with fmt's text TOLD by the authors' own Lean function (tested against real Go, not proved from fmt's source: count such statements apart). THE CARD IS WHAT COUNTS. Prove the row's statement (the work); the ties are given (YtjmdlobhbabbcaaDoorTie.lean); close each card by the builder's one call (the guide's Derived/Test/ToyasCard.lean, 'card_holds'). Laid BY PROGRAM, IN A SANDBOX (cutbox-door.mjs). By AI agents, Wed Nov 11 2026. No macro, syntax, notation, axiom, sorry.
-/
import Derived.Test.YtjmdlobhbabbcaaDoorRows
import GoSem.ClaimSeven
namespace Go.Proofs.YtjmdlobhbabbcaaDoor
namespace Rows

/-- THE TIED CARD OF 'laws.FnExactFormatInt'. -/
def fnExactFormatIntCard : Claim7 := { stood := { row := fnExactFormatIntRow, standIns := [], harness := (true, "34b4a94af1c8dbc6e331484ef6989cbebf84f5d5f2bbf9b5502360fe62f5a6d7"), looks := true }, kinds := [], alts := [], laidByText := true, laidKinds := [.data, .data, .data], laidTests := true, laidLooks := .later }
def FnExactFormatIntCardSaid : Prop := Claim7.holds Tryd.pinned (.plain (OpenSpec.ofChange fnExactFormatIntSpec)) fnExactFormatIntCard

/-- THE TIED CARD OF 'laws.FnExactFormatInts'. -/
def fnExactFormatIntsCard : Claim7 := { stood := { row := fnExactFormatIntsRow, standIns := [], harness := (true, "34b4a94af1c8dbc6e331484ef6989cbebf84f5d5f2bbf9b5502360fe62f5a6d7"), looks := true }, kinds := [], alts := [], laidByText := true, laidKinds := [.data, .data, .data], laidTests := true, laidLooks := .later }
def FnExactFormatIntsCardSaid : Prop := Claim7.holds Tryd.pinned (.plain (OpenSpec.ofChange fnExactFormatIntsSpec)) fnExactFormatIntsCard

/-- THE TIED CARD OF 'laws.FnExactFormatSteps'. -/
def fnExactFormatStepsCard : Claim7 := { stood := { row := fnExactFormatStepsRow, standIns := [], harness := (true, "34b4a94af1c8dbc6e331484ef6989cbebf84f5d5f2bbf9b5502360fe62f5a6d7"), looks := true }, kinds := [], alts := [], laidByText := true, laidKinds := [.data, .data, .data], laidTests := true, laidLooks := .later }
def FnExactFormatStepsCardSaid : Prop := Claim7.holds Tryd.pinned (.plain (OpenSpec.ofChange fnExactFormatStepsSpec)) fnExactFormatStepsCard

/-- THE TIED CARD OF 'laws.FnExactFormatMode'. -/
def fnExactFormatModeCard : Claim7 := { stood := { row := fnExactFormatModeRow, standIns := [], harness := (true, "34b4a94af1c8dbc6e331484ef6989cbebf84f5d5f2bbf9b5502360fe62f5a6d7"), looks := true }, kinds := [], alts := [], laidByText := true, laidKinds := [.data, .data, .data], laidTests := true, laidLooks := .later }
def FnExactFormatModeCardSaid : Prop := Claim7.holds Tryd.pinned (.plain (OpenSpec.ofChange fnExactFormatModeSpec)) fnExactFormatModeCard

/-- THE TIED CARD OF 'laws.FnExactParseInt'. -/
def fnExactParseIntCard : Claim7 := { stood := { row := fnExactParseIntRow, standIns := [], harness := (true, "34b4a94af1c8dbc6e331484ef6989cbebf84f5d5f2bbf9b5502360fe62f5a6d7"), looks := true }, kinds := [], alts := [], laidByText := true, laidKinds := [.data, .data, .data, .sentinel, .sentinel], laidTests := true, laidLooks := .later }
def FnExactParseIntCardSaid : Prop := Claim7.holds Tryd.pinned (.plain (OpenSpec.ofChange fnExactParseIntSpec)) fnExactParseIntCard

/-- THE TIED CARD OF 'laws.FnExactParseInts'. -/
def fnExactParseIntsCard : Claim7 := { stood := { row := fnExactParseIntsRow, standIns := [], harness := (true, "34b4a94af1c8dbc6e331484ef6989cbebf84f5d5f2bbf9b5502360fe62f5a6d7"), looks := true }, kinds := [], alts := [], laidByText := true, laidKinds := [.data, .data, .data, .sentinel, .sentinel], laidTests := true, laidLooks := .later }
def FnExactParseIntsCardSaid : Prop := Claim7.holds Tryd.pinned (.plain (OpenSpec.ofChange fnExactParseIntsSpec)) fnExactParseIntsCard

/-- THE TIED CARD OF 'laws.FnExactParseMode'. -/
def fnExactParseModeCard : Claim7 := { stood := { row := fnExactParseModeRow, standIns := [], harness := (true, "34b4a94af1c8dbc6e331484ef6989cbebf84f5d5f2bbf9b5502360fe62f5a6d7"), looks := true }, kinds := [], alts := [], laidByText := true, laidKinds := [.data, .data, .data, .sentinel, .sentinel], laidTests := true, laidLooks := .later }
def FnExactParseModeCardSaid : Prop := Claim7.holds Tryd.pinned (.plain (OpenSpec.ofChange fnExactParseModeSpec)) fnExactParseModeCard

/-- THE TIED CARD OF 'laws.FnExactParseSteps'. -/
def fnExactParseStepsCard : Claim7 := { stood := { row := fnExactParseStepsRow, standIns := [], harness := (true, "34b4a94af1c8dbc6e331484ef6989cbebf84f5d5f2bbf9b5502360fe62f5a6d7"), looks := true }, kinds := [], alts := [], laidByText := true, laidKinds := [.data, .data, .data, .sentinel, .sentinel], laidTests := true, laidLooks := .later }
def FnExactParseStepsCardSaid : Prop := Claim7.holds Tryd.pinned (.plain (OpenSpec.ofChange fnExactParseStepsSpec)) fnExactParseStepsCard

/-- THE TIED CARD OF 'laws.FnWords'. -/
def fnWordsCard : Claim7 := { stood := { row := fnWordsRow, standIns := [], harness := (true, "34b4a94af1c8dbc6e331484ef6989cbebf84f5d5f2bbf9b5502360fe62f5a6d7"), looks := true }, kinds := [], alts := [], laidByText := true, laidKinds := [.data, .data, .data, .sentinel, .sentinel], laidTests := true, laidLooks := .later }
def FnWordsCardSaid : Prop := Claim7.holds Tryd.pinned (.plain (OpenSpec.ofChange fnWordsSpec)) fnWordsCard

/-- THE TIED CARD OF 'laws.FnSteps'. -/
def fnStepsCard : Claim7 := { stood := { row := fnStepsRow, standIns := [], harness := (true, "34b4a94af1c8dbc6e331484ef6989cbebf84f5d5f2bbf9b5502360fe62f5a6d7"), looks := true }, kinds := [], alts := [], laidByText := true, laidKinds := [.data, .data, .data, .sentinel, .sentinel], laidTests := true, laidLooks := .later }
def FnStepsCardSaid : Prop := Claim7.holds Tryd.pinned (.plain (OpenSpec.ofChange fnStepsSpec)) fnStepsCard

/-- THE SECOND FORM's CARD OF 'laws.FnExactFormatInt'. -/
def fnExactFormatIntUptoCard : Claim7 := { stood := { row := fnExactFormatIntUptoRow, standIns := [], harness := (true, "34b4a94af1c8dbc6e331484ef6989cbebf84f5d5f2bbf9b5502360fe62f5a6d7"), looks := true }, kinds := [], alts := [], laidByText := true, laidKinds := [.data, .data, .data], laidTests := true, laidLooks := .later }
def FnExactFormatIntUptoCardSaid : Prop := Claim7.holds Tryd.pinned (.plain (OpenSpec.upto fnExactFormatIntSpec)) fnExactFormatIntUptoCard

/-- THE SECOND FORM's CARD OF 'laws.FnExactFormatInts'. -/
def fnExactFormatIntsUptoCard : Claim7 := { stood := { row := fnExactFormatIntsUptoRow, standIns := [], harness := (true, "34b4a94af1c8dbc6e331484ef6989cbebf84f5d5f2bbf9b5502360fe62f5a6d7"), looks := true }, kinds := [], alts := [], laidByText := true, laidKinds := [.data, .data, .data], laidTests := true, laidLooks := .later }
def FnExactFormatIntsUptoCardSaid : Prop := Claim7.holds Tryd.pinned (.plain (OpenSpec.upto fnExactFormatIntsSpec)) fnExactFormatIntsUptoCard

/-- THE SECOND FORM's CARD OF 'laws.FnExactFormatSteps'. -/
def fnExactFormatStepsUptoCard : Claim7 := { stood := { row := fnExactFormatStepsUptoRow, standIns := [], harness := (true, "34b4a94af1c8dbc6e331484ef6989cbebf84f5d5f2bbf9b5502360fe62f5a6d7"), looks := true }, kinds := [], alts := [], laidByText := true, laidKinds := [.data, .data, .data], laidTests := true, laidLooks := .later }
def FnExactFormatStepsUptoCardSaid : Prop := Claim7.holds Tryd.pinned (.plain (OpenSpec.upto fnExactFormatStepsSpec)) fnExactFormatStepsUptoCard

/-- THE SECOND FORM's CARD OF 'laws.FnExactFormatMode'. -/
def fnExactFormatModeUptoCard : Claim7 := { stood := { row := fnExactFormatModeUptoRow, standIns := [], harness := (true, "34b4a94af1c8dbc6e331484ef6989cbebf84f5d5f2bbf9b5502360fe62f5a6d7"), looks := true }, kinds := [], alts := [], laidByText := true, laidKinds := [.data, .data, .data], laidTests := true, laidLooks := .later }
def FnExactFormatModeUptoCardSaid : Prop := Claim7.holds Tryd.pinned (.plain (OpenSpec.upto fnExactFormatModeSpec)) fnExactFormatModeUptoCard

/-- THE SECOND FORM's CARD OF 'laws.FnExactParseInt'. -/
def fnExactParseIntUptoCard : Claim7 := { stood := { row := fnExactParseIntUptoRow, standIns := [], harness := (true, "34b4a94af1c8dbc6e331484ef6989cbebf84f5d5f2bbf9b5502360fe62f5a6d7"), looks := true }, kinds := [], alts := [], laidByText := true, laidKinds := [.data, .data, .data, .sentinel, .sentinel], laidTests := true, laidLooks := .later }
def FnExactParseIntUptoCardSaid : Prop := Claim7.holds Tryd.pinned (.plain (OpenSpec.upto fnExactParseIntSpec)) fnExactParseIntUptoCard

/-- THE SECOND FORM's CARD OF 'laws.FnExactParseInts'. -/
def fnExactParseIntsUptoCard : Claim7 := { stood := { row := fnExactParseIntsUptoRow, standIns := [], harness := (true, "34b4a94af1c8dbc6e331484ef6989cbebf84f5d5f2bbf9b5502360fe62f5a6d7"), looks := true }, kinds := [], alts := [], laidByText := true, laidKinds := [.data, .data, .data, .sentinel, .sentinel], laidTests := true, laidLooks := .later }
def FnExactParseIntsUptoCardSaid : Prop := Claim7.holds Tryd.pinned (.plain (OpenSpec.upto fnExactParseIntsSpec)) fnExactParseIntsUptoCard

/-- THE SECOND FORM's CARD OF 'laws.FnExactParseMode'. -/
def fnExactParseModeUptoCard : Claim7 := { stood := { row := fnExactParseModeUptoRow, standIns := [], harness := (true, "34b4a94af1c8dbc6e331484ef6989cbebf84f5d5f2bbf9b5502360fe62f5a6d7"), looks := true }, kinds := [], alts := [], laidByText := true, laidKinds := [.data, .data, .data, .sentinel, .sentinel], laidTests := true, laidLooks := .later }
def FnExactParseModeUptoCardSaid : Prop := Claim7.holds Tryd.pinned (.plain (OpenSpec.upto fnExactParseModeSpec)) fnExactParseModeUptoCard

/-- THE SECOND FORM's CARD OF 'laws.FnExactParseSteps'. -/
def fnExactParseStepsUptoCard : Claim7 := { stood := { row := fnExactParseStepsUptoRow, standIns := [], harness := (true, "34b4a94af1c8dbc6e331484ef6989cbebf84f5d5f2bbf9b5502360fe62f5a6d7"), looks := true }, kinds := [], alts := [], laidByText := true, laidKinds := [.data, .data, .data, .sentinel, .sentinel], laidTests := true, laidLooks := .later }
def FnExactParseStepsUptoCardSaid : Prop := Claim7.holds Tryd.pinned (.plain (OpenSpec.upto fnExactParseStepsSpec)) fnExactParseStepsUptoCard

/-- THE SECOND FORM's CARD OF 'laws.FnWords'. -/
def fnWordsUptoCard : Claim7 := { stood := { row := fnWordsUptoRow, standIns := [], harness := (true, "34b4a94af1c8dbc6e331484ef6989cbebf84f5d5f2bbf9b5502360fe62f5a6d7"), looks := true }, kinds := [], alts := [], laidByText := true, laidKinds := [.data, .data, .data, .sentinel, .sentinel], laidTests := true, laidLooks := .later }
def FnWordsUptoCardSaid : Prop := Claim7.holds Tryd.pinned (.plain (OpenSpec.upto fnWordsSpec)) fnWordsUptoCard

/-- THE SECOND FORM's CARD OF 'laws.FnSteps'. -/
def fnStepsUptoCard : Claim7 := { stood := { row := fnStepsUptoRow, standIns := [], harness := (true, "34b4a94af1c8dbc6e331484ef6989cbebf84f5d5f2bbf9b5502360fe62f5a6d7"), looks := true }, kinds := [], alts := [], laidByText := true, laidKinds := [.data, .data, .data, .sentinel, .sentinel], laidTests := true, laidLooks := .later }
def FnStepsUptoCardSaid : Prop := Claim7.holds Tryd.pinned (.plain (OpenSpec.upto fnStepsSpec)) fnStepsUptoCard
end Rows
end Go.Proofs.YtjmdlobhbabbcaaDoor
