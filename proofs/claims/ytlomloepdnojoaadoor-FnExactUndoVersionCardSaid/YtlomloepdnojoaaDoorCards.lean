/-
  DERIVED. GIVEN WITH THE SEED: THE CARDS: each row of YtlomloepdnojoaaDoorRows.lean that lists a variable, with what it lists TIED to the program's text (the seventh form; the later family's looks); each row that meets fmt, with fmt's text TOLD by the authors' own Lean function (tested against real Go, not proved from fmt's source: count such statements apart). THE CARD IS WHAT COUNTS. Prove the row's statement (the work); the ties are given (YtlomloepdnojoaaDoorTie.lean); close each card by the builder's one call (the guide's Derived/Test/ToyasCard.lean, 'card_holds'). Laid BY PROGRAM, IN A SANDBOX (cutbox-door.mjs). By AI agents, Wed Nov 11 2026. No macro, syntax, notation, axiom, sorry.
-/
import Derived.Test.YtlomloepdnojoaaDoorRows
import GoSem.ClaimSeven
namespace Go.Proofs.YtlomloepdnojoaaDoor
namespace Rows

/-- THE TIED CARD OF 'laws.FnExactUndoVersion'. -/
def fnExactUndoVersionCard : Claim7 := { stood := { row := fnExactUndoVersionRow, standIns := [], harness := (true, "e030f8e23a5f3055a06ce8e9aaaa521c293413aac459a35c431269d543d79de5"), looks := true }, kinds := [], alts := [], laidByText := true, laidKinds := [.data, .data, .data], laidTests := true, laidLooks := .later }
def FnExactUndoVersionCardSaid : Prop := Claim7.holds Tryd.pinned (.plain (OpenSpec.ofChange fnExactUndoVersionSpec)) fnExactUndoVersionCard

/-- THE TIED CARD OF 'laws.FnExactReadHelper'. -/
def fnExactReadHelperCard : Claim7 := { stood := { row := fnExactReadHelperRow, standIns := [], harness := (true, "e030f8e23a5f3055a06ce8e9aaaa521c293413aac459a35c431269d543d79de5"), looks := true }, kinds := [], alts := [], laidByText := true, laidKinds := [.data, .data, .data, .data, .sentinel, .sentinel, .pinned], laidTests := true, laidLooks := .later }
def FnExactReadHelperCardSaid : Prop := Claim7.holds Tryd.pinned (.plain (OpenSpec.ofChange fnExactReadHelperSpec)) fnExactReadHelperCard

/-- THE TIED CARD OF 'laws.FnExactReadTask'. -/
def fnExactReadTaskCard : Claim7 := { stood := { row := fnExactReadTaskRow, standIns := [], harness := (true, "e030f8e23a5f3055a06ce8e9aaaa521c293413aac459a35c431269d543d79de5"), looks := true }, kinds := [], alts := [], laidByText := true, laidKinds := [.data, .data, .data, .data, .sentinel, .sentinel, .pinned], laidTests := true, laidLooks := .later }
def FnExactReadTaskCardSaid : Prop := Claim7.holds Tryd.pinned (.plain (OpenSpec.ofChange fnExactReadTaskSpec)) fnExactReadTaskCard

/-- THE TIED CARD OF 'laws.FnExactSeriesText'. -/
def fnExactSeriesTextCard : Claim7 := { stood := { row := fnExactSeriesTextRow, standIns := [], harness := (true, "e030f8e23a5f3055a06ce8e9aaaa521c293413aac459a35c431269d543d79de5"), looks := true }, kinds := [], alts := [], laidByText := true, laidKinds := [.data, .data, .data], laidTests := true, laidLooks := .later }
def FnExactSeriesTextCardSaid : Prop := Claim7.holds Tryd.pinned (.plain (OpenSpec.ofChange fnExactSeriesTextSpec)) fnExactSeriesTextCard

/-- THE TIED CARD OF 'laws.FnExactReadSeries'. -/
def fnExactReadSeriesCard : Claim7 := { stood := { row := fnExactReadSeriesRow, standIns := [], harness := (true, "e030f8e23a5f3055a06ce8e9aaaa521c293413aac459a35c431269d543d79de5"), looks := true }, kinds := [], alts := [], laidByText := true, laidKinds := [.data, .data, .data, .data, .sentinel, .sentinel, .pinned], laidTests := true, laidLooks := .later }
def FnExactReadSeriesCardSaid : Prop := Claim7.holds Tryd.pinned (.plain (OpenSpec.ofChange fnExactReadSeriesSpec)) fnExactReadSeriesCard

/-- THE TIED CARD OF 'laws.FnExactReadGrant'. -/
def fnExactReadGrantCard : Claim7 := { stood := { row := fnExactReadGrantRow, standIns := [], harness := (true, "e030f8e23a5f3055a06ce8e9aaaa521c293413aac459a35c431269d543d79de5"), looks := true }, kinds := [], alts := [], laidByText := true, laidKinds := [.data, .pinned], laidTests := true, laidLooks := .later }
def FnExactReadGrantCardSaid : Prop := Claim7.holds Tryd.pinned (.plain (OpenSpec.ofChange fnExactReadGrantSpec)) fnExactReadGrantCard

/-- THE TIED CARD OF 'laws.FnVersions'. -/
def fnVersionsCard : Claim7 := { stood := { row := fnVersionsRow, standIns := [], harness := (true, "e030f8e23a5f3055a06ce8e9aaaa521c293413aac459a35c431269d543d79de5"), looks := true }, kinds := [], alts := [], laidByText := true, laidKinds := [.data, .data, .data], laidTests := true, laidLooks := .later }
def FnVersionsCardSaid : Prop := Claim7.holds Tryd.pinned (.plain (OpenSpec.ofChange fnVersionsSpec)) fnVersionsCard

/-- THE SECOND FORM's CARD OF 'laws.FnExactUndoVersion'. -/
def fnExactUndoVersionUptoCard : Claim7 := { stood := { row := fnExactUndoVersionUptoRow, standIns := [], harness := (true, "e030f8e23a5f3055a06ce8e9aaaa521c293413aac459a35c431269d543d79de5"), looks := true }, kinds := [], alts := [], laidByText := true, laidKinds := [.data, .data, .data], laidTests := true, laidLooks := .later }
def FnExactUndoVersionUptoCardSaid : Prop := Claim7.holds Tryd.pinned (.plain (OpenSpec.upto fnExactUndoVersionSpec)) fnExactUndoVersionUptoCard

/-- THE SECOND FORM's CARD OF 'laws.FnExactReadHelper'. -/
def fnExactReadHelperUptoCard : Claim7 := { stood := { row := fnExactReadHelperUptoRow, standIns := [], harness := (true, "e030f8e23a5f3055a06ce8e9aaaa521c293413aac459a35c431269d543d79de5"), looks := true }, kinds := [], alts := [], laidByText := true, laidKinds := [.data, .data, .data, .data, .sentinel, .sentinel, .pinned], laidTests := true, laidLooks := .later }
def FnExactReadHelperUptoCardSaid : Prop := Claim7.holds Tryd.pinned (.plain (OpenSpec.upto fnExactReadHelperSpec)) fnExactReadHelperUptoCard

/-- THE SECOND FORM's CARD OF 'laws.FnExactReadTask'. -/
def fnExactReadTaskUptoCard : Claim7 := { stood := { row := fnExactReadTaskUptoRow, standIns := [], harness := (true, "e030f8e23a5f3055a06ce8e9aaaa521c293413aac459a35c431269d543d79de5"), looks := true }, kinds := [], alts := [], laidByText := true, laidKinds := [.data, .data, .data, .data, .sentinel, .sentinel, .pinned], laidTests := true, laidLooks := .later }
def FnExactReadTaskUptoCardSaid : Prop := Claim7.holds Tryd.pinned (.plain (OpenSpec.upto fnExactReadTaskSpec)) fnExactReadTaskUptoCard

/-- THE SECOND FORM's CARD OF 'laws.FnExactSeriesText'. -/
def fnExactSeriesTextUptoCard : Claim7 := { stood := { row := fnExactSeriesTextUptoRow, standIns := [], harness := (true, "e030f8e23a5f3055a06ce8e9aaaa521c293413aac459a35c431269d543d79de5"), looks := true }, kinds := [], alts := [], laidByText := true, laidKinds := [.data, .data, .data], laidTests := true, laidLooks := .later }
def FnExactSeriesTextUptoCardSaid : Prop := Claim7.holds Tryd.pinned (.plain (OpenSpec.upto fnExactSeriesTextSpec)) fnExactSeriesTextUptoCard

/-- THE SECOND FORM's CARD OF 'laws.FnExactReadSeries'. -/
def fnExactReadSeriesUptoCard : Claim7 := { stood := { row := fnExactReadSeriesUptoRow, standIns := [], harness := (true, "e030f8e23a5f3055a06ce8e9aaaa521c293413aac459a35c431269d543d79de5"), looks := true }, kinds := [], alts := [], laidByText := true, laidKinds := [.data, .data, .data, .data, .sentinel, .sentinel, .pinned], laidTests := true, laidLooks := .later }
def FnExactReadSeriesUptoCardSaid : Prop := Claim7.holds Tryd.pinned (.plain (OpenSpec.upto fnExactReadSeriesSpec)) fnExactReadSeriesUptoCard

/-- THE SECOND FORM's CARD OF 'laws.FnExactReadGrant'. -/
def fnExactReadGrantUptoCard : Claim7 := { stood := { row := fnExactReadGrantUptoRow, standIns := [], harness := (true, "e030f8e23a5f3055a06ce8e9aaaa521c293413aac459a35c431269d543d79de5"), looks := true }, kinds := [], alts := [], laidByText := true, laidKinds := [.data, .pinned], laidTests := true, laidLooks := .later }
def FnExactReadGrantUptoCardSaid : Prop := Claim7.holds Tryd.pinned (.plain (OpenSpec.upto fnExactReadGrantSpec)) fnExactReadGrantUptoCard

/-- THE SECOND FORM's CARD OF 'laws.FnVersions'. -/
def fnVersionsUptoCard : Claim7 := { stood := { row := fnVersionsUptoRow, standIns := [], harness := (true, "e030f8e23a5f3055a06ce8e9aaaa521c293413aac459a35c431269d543d79de5"), looks := true }, kinds := [], alts := [], laidByText := true, laidKinds := [.data, .data, .data], laidTests := true, laidLooks := .later }
def FnVersionsUptoCardSaid : Prop := Claim7.holds Tryd.pinned (.plain (OpenSpec.upto fnVersionsSpec)) fnVersionsUptoCard
end Rows
end Go.Proofs.YtlomloepdnojoaaDoor
