/-
  DERIVED. GIVEN WITH THE SEED: THE CARDS: each row of YtcecgbjolngdbaaGreatDoorRows.lean that lists a variable, with what it lists TIED to the program's text (the seventh form; the later family's looks); each row that meets fmt, with fmt's text TOLD by the authors' own Lean function (tested against real Go, not proved from fmt's source: count such statements apart). THE CARD IS WHAT COUNTS. Prove the row's statement (the work); the ties are given (YtcecgbjolngdbaaGreatDoorTie.lean); close each card by the builder's one call (the guide's Derived/Test/ToyasCard.lean, 'card_holds'). Laid BY PROGRAM, IN A SANDBOX (cutbox-door.mjs). By AI agents, Wed Nov 11 2026. No macro, syntax, notation, axiom, sorry.
-/
import Derived.Test.YtcecgbjolngdbaaGreatDoorRows
import GoSem.ClaimSeven
namespace Go.Proofs.YtcecgbjolngdbaaGreatDoor
namespace Rows

/-- THE TIED CARD OF 'laws.FnExactFormatProject'. -/
def fnExactFormatProjectCard : Claim7 := { stood := { row := fnExactFormatProjectRow, standIns := [], harness := (true, "819f05f2626b0b04b41a2c760c13a78d25ba2cbb637ec33d0b0c9dba400a9922"), looks := true }, kinds := [], alts := [], laidByText := true, laidKinds := [.data, .data, .data], laidTests := true, laidLooks := .later }
def FnExactFormatProjectCardSaid : Prop := Claim7.holds Tryz.pinned (.plain (OpenSpec.ofChange fnExactFormatProjectSpec)) fnExactFormatProjectCard

/-- THE TIED CARD OF 'laws.FnExactParseProject'. -/
def fnExactParseProjectCard : Claim7 := { stood := { row := fnExactParseProjectRow, standIns := [], harness := (true, "819f05f2626b0b04b41a2c760c13a78d25ba2cbb637ec33d0b0c9dba400a9922"), looks := true }, kinds := [], alts := [], laidByText := true, laidKinds := [.data, .data, .data, .sentinel, .sentinel], laidTests := true, laidLooks := .later }
def FnExactParseProjectCardSaid : Prop := Claim7.holds Tryz.pinned (.plain (OpenSpec.ofChange fnExactParseProjectSpec)) fnExactParseProjectCard

/-- THE TIED CARD OF 'laws.FnActs'. -/
def fnActsCard : Claim7 := { stood := { row := fnActsRow, standIns := [], harness := (true, "819f05f2626b0b04b41a2c760c13a78d25ba2cbb637ec33d0b0c9dba400a9922"), looks := true }, kinds := [], alts := [], laidByText := true, laidKinds := [.data, .data, .data, .sentinel, .sentinel], laidTests := true, laidLooks := .later }
def FnActsCardSaid : Prop := Claim7.holds Tryz.pinned (.plain (OpenSpec.ofChange fnActsSpec)) fnActsCard

/-- THE SECOND FORM's CARD OF 'laws.FnExactFormatProject'. -/
def fnExactFormatProjectUptoCard : Claim7 := { stood := { row := fnExactFormatProjectUptoRow, standIns := [], harness := (true, "819f05f2626b0b04b41a2c760c13a78d25ba2cbb637ec33d0b0c9dba400a9922"), looks := true }, kinds := [], alts := [], laidByText := true, laidKinds := [.data, .data, .data], laidTests := true, laidLooks := .later }
def FnExactFormatProjectUptoCardSaid : Prop := Claim7.holds Tryz.pinned (.plain (OpenSpec.upto fnExactFormatProjectSpec)) fnExactFormatProjectUptoCard

/-- THE SECOND FORM's CARD OF 'laws.FnExactParseProject'. -/
def fnExactParseProjectUptoCard : Claim7 := { stood := { row := fnExactParseProjectUptoRow, standIns := [], harness := (true, "819f05f2626b0b04b41a2c760c13a78d25ba2cbb637ec33d0b0c9dba400a9922"), looks := true }, kinds := [], alts := [], laidByText := true, laidKinds := [.data, .data, .data, .sentinel, .sentinel], laidTests := true, laidLooks := .later }
def FnExactParseProjectUptoCardSaid : Prop := Claim7.holds Tryz.pinned (.plain (OpenSpec.upto fnExactParseProjectSpec)) fnExactParseProjectUptoCard

/-- THE SECOND FORM's CARD OF 'laws.FnActs'. -/
def fnActsUptoCard : Claim7 := { stood := { row := fnActsUptoRow, standIns := [], harness := (true, "819f05f2626b0b04b41a2c760c13a78d25ba2cbb637ec33d0b0c9dba400a9922"), looks := true }, kinds := [], alts := [], laidByText := true, laidKinds := [.data, .data, .data, .sentinel, .sentinel], laidTests := true, laidLooks := .later }
def FnActsUptoCardSaid : Prop := Claim7.holds Tryz.pinned (.plain (OpenSpec.upto fnActsSpec)) fnActsUptoCard
end Rows
end Go.Proofs.YtcecgbjolngdbaaGreatDoor
