/-
  DERIVED. GIVEN WITH THE SEED: THE CARDS: each row of YtlomloepdnojoaaGreatDoorRows.lean that lists a variable, with what it lists TIED to the program's text (the seventh form; the later family's looks); each row that meets fmt, with fmt's text TOLD by the authors' own Lean function (tested against real Go, not proved from fmt's source: count such statements apart). THE CARD IS WHAT COUNTS. Prove the row's statement (the work); the ties are given (YtlomloepdnojoaaGreatDoorTie.lean); close each card by the builder's one call (the guide's Derived/Test/ToyasCard.lean, 'card_holds'). Laid BY PROGRAM, IN A SANDBOX (cutbox-door.mjs). By AI agents, Wed Nov 11 2026. No macro, syntax, notation, axiom, sorry.
-/
import Derived.Test.YtlomloepdnojoaaGreatDoorRows
import GoSem.ClaimSeven
namespace Go.Proofs.YtlomloepdnojoaaGreatDoor
namespace Rows

/-- THE TIED CARD OF 'laws.FnExactCountWords'. -/
def fnExactCountWordsCard : Claim7 := { stood := { row := fnExactCountWordsRow, standIns := [], harness := (true, "f98908900d5044048ccfdc7b3c83ead5aa025b26fe8110b3946a7cab3ced1378"), looks := true }, kinds := [], alts := [], laidByText := true, laidKinds := [.data, .data, .data, .data, .pinned], laidTests := true, laidLooks := .later }
def FnExactCountWordsCardSaid : Prop := Claim7.holds Tryz.pinned (.plain (OpenSpec.ofChange fnExactCountWordsSpec)) fnExactCountWordsCard

/-- THE TIED CARD OF 'laws.FnStatistics'. -/
def fnStatisticsCard : Claim7 := { stood := { row := fnStatisticsRow, standIns := [], harness := (true, "f98908900d5044048ccfdc7b3c83ead5aa025b26fe8110b3946a7cab3ced1378"), looks := true }, kinds := [], alts := [], laidByText := true, laidKinds := [.data, .data, .data, .data, .sentinel, .sentinel, .pinned], laidTests := true, laidLooks := .later }
def FnStatisticsCardSaid : Prop := Claim7.holds Tryz.pinned (.plain (OpenSpec.ofChange fnStatisticsSpec)) fnStatisticsCard

/-- THE SECOND FORM's CARD OF 'laws.FnExactCountWords'. -/
def fnExactCountWordsUptoCard : Claim7 := { stood := { row := fnExactCountWordsUptoRow, standIns := [], harness := (true, "f98908900d5044048ccfdc7b3c83ead5aa025b26fe8110b3946a7cab3ced1378"), looks := true }, kinds := [], alts := [], laidByText := true, laidKinds := [.data, .data, .data, .data, .pinned], laidTests := true, laidLooks := .later }
def FnExactCountWordsUptoCardSaid : Prop := Claim7.holds Tryz.pinned (.plain (OpenSpec.upto fnExactCountWordsSpec)) fnExactCountWordsUptoCard

/-- THE SECOND FORM's CARD OF 'laws.FnStatistics'. -/
def fnStatisticsUptoCard : Claim7 := { stood := { row := fnStatisticsUptoRow, standIns := [], harness := (true, "f98908900d5044048ccfdc7b3c83ead5aa025b26fe8110b3946a7cab3ced1378"), looks := true }, kinds := [], alts := [], laidByText := true, laidKinds := [.data, .data, .data, .data, .sentinel, .sentinel, .pinned], laidTests := true, laidLooks := .later }
def FnStatisticsUptoCardSaid : Prop := Claim7.holds Tryz.pinned (.plain (OpenSpec.upto fnStatisticsSpec)) fnStatisticsUptoCard
end Rows
end Go.Proofs.YtlomloepdnojoaaGreatDoor
