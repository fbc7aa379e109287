/-
  DERIVED. GIVEN WITH THE SEED: THE CARDS: each row of YtcclfmapbgdpdaaGreatDoorRows.lean that lists a variable, with what it lists TIED to the program's text (the seventh form; the later family's looks); each row that meets fmt, with fmt's text TOLD by the authors' own Lean function (tested against real Go, not proved from fmt's source: count such statements apart). THE CARD IS WHAT COUNTS. Prove the row's statement (the work); the ties are given (YtcclfmapbgdpdaaGreatDoorTie.lean); close each card by the builder's one call (the guide's Derived/Test/ToyasCard.lean, 'card_holds'). Laid BY PROGRAM, IN A SANDBOX (cutbox-door.mjs). By AI agents, Wed Nov 11 2026. No macro, syntax, notation, axiom, sorry.
-/
import Derived.Test.YtcclfmapbgdpdaaGreatDoorRows
import GoSem.ClaimSeven
namespace Go.Proofs.YtcclfmapbgdpdaaGreatDoor
namespace Rows

/-- THE TIED CARD OF 'laws.FnStatistics'. -/
def fnStatisticsCard : Claim7 := { stood := { row := fnStatisticsRow, standIns := [], harness := (true, "8ec168195d3c17f7c90488a588ab8b03d71e5f6fe97c17d028490e9229ed86ac"), looks := true }, kinds := [], alts := [], laidByText := true, laidKinds := [.data, .data, .data, .data, .sentinel, .sentinel, .pinned], laidTests := true, laidLooks := .later }
def FnStatisticsCardSaid : Prop := Claim7.holds Tryz.pinned (.plain (OpenSpec.ofChange fnStatisticsSpec)) fnStatisticsCard

/-- THE TIED CARD OF 'laws.FnLog'. -/
def fnLogCard : Claim7 := { stood := { row := fnLogRow, standIns := [], harness := (true, "8ec168195d3c17f7c90488a588ab8b03d71e5f6fe97c17d028490e9229ed86ac"), looks := true }, kinds := [], alts := [], laidByText := true, laidKinds := [.data, .data, .data, .data, .sentinel, .sentinel, .pinned], laidTests := true, laidLooks := .later }
def FnLogCardSaid : Prop := Claim7.holds Tryz.pinned (.plain (OpenSpec.ofChange fnLogSpec)) fnLogCard

/-- THE TIED CARD OF 'laws.FnHelpers'. -/
def fnHelpersCard : Claim7 := { stood := { row := fnHelpersRow, standIns := [], harness := (true, "8ec168195d3c17f7c90488a588ab8b03d71e5f6fe97c17d028490e9229ed86ac"), looks := true }, kinds := [], alts := [], laidByText := true, laidKinds := [.data, .data, .data, .data, .sentinel, .sentinel, .pinned], laidTests := true, laidLooks := .later }
def FnHelpersCardSaid : Prop := Claim7.holds Tryz.pinned (.plain (OpenSpec.ofChange fnHelpersSpec)) fnHelpersCard

/-- THE TIED CARD OF 'laws.FnLoads'. -/
def fnLoadsCard : Claim7 := { stood := { row := fnLoadsRow, standIns := [], harness := (true, "8ec168195d3c17f7c90488a588ab8b03d71e5f6fe97c17d028490e9229ed86ac"), looks := true }, kinds := [], alts := [], laidByText := true, laidKinds := [.data, .data, .data, .data, .sentinel, .sentinel, .pinned], laidTests := true, laidLooks := .later }
def FnLoadsCardSaid : Prop := Claim7.holds Tryz.pinned (.plain (OpenSpec.ofChange fnLoadsSpec)) fnLoadsCard

/-- THE SECOND FORM's CARD OF 'laws.FnStatistics'. -/
def fnStatisticsUptoCard : Claim7 := { stood := { row := fnStatisticsUptoRow, standIns := [], harness := (true, "8ec168195d3c17f7c90488a588ab8b03d71e5f6fe97c17d028490e9229ed86ac"), looks := true }, kinds := [], alts := [], laidByText := true, laidKinds := [.data, .data, .data, .data, .sentinel, .sentinel, .pinned], laidTests := true, laidLooks := .later }
def FnStatisticsUptoCardSaid : Prop := Claim7.holds Tryz.pinned (.plain (OpenSpec.upto fnStatisticsSpec)) fnStatisticsUptoCard

/-- THE SECOND FORM's CARD OF 'laws.FnLog'. -/
def fnLogUptoCard : Claim7 := { stood := { row := fnLogUptoRow, standIns := [], harness := (true, "8ec168195d3c17f7c90488a588ab8b03d71e5f6fe97c17d028490e9229ed86ac"), looks := true }, kinds := [], alts := [], laidByText := true, laidKinds := [.data, .data, .data, .data, .sentinel, .sentinel, .pinned], laidTests := true, laidLooks := .later }
def FnLogUptoCardSaid : Prop := Claim7.holds Tryz.pinned (.plain (OpenSpec.upto fnLogSpec)) fnLogUptoCard

/-- THE SECOND FORM's CARD OF 'laws.FnHelpers'. -/
def fnHelpersUptoCard : Claim7 := { stood := { row := fnHelpersUptoRow, standIns := [], harness := (true, "8ec168195d3c17f7c90488a588ab8b03d71e5f6fe97c17d028490e9229ed86ac"), looks := true }, kinds := [], alts := [], laidByText := true, laidKinds := [.data, .data, .data, .data, .sentinel, .sentinel, .pinned], laidTests := true, laidLooks := .later }
def FnHelpersUptoCardSaid : Prop := Claim7.holds Tryz.pinned (.plain (OpenSpec.upto fnHelpersSpec)) fnHelpersUptoCard

/-- THE SECOND FORM's CARD OF 'laws.FnLoads'. -/
def fnLoadsUptoCard : Claim7 := { stood := { row := fnLoadsUptoRow, standIns := [], harness := (true, "8ec168195d3c17f7c90488a588ab8b03d71e5f6fe97c17d028490e9229ed86ac"), looks := true }, kinds := [], alts := [], laidByText := true, laidKinds := [.data, .data, .data, .data, .sentinel, .sentinel, .pinned], laidTests := true, laidLooks := .later }
def FnLoadsUptoCardSaid : Prop := Claim7.holds Tryz.pinned (.plain (OpenSpec.upto fnLoadsSpec)) fnLoadsUptoCard
end Rows
end Go.Proofs.YtcclfmapbgdpdaaGreatDoor
