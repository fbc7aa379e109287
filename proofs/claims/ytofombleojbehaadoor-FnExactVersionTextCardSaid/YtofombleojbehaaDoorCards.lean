/-
  DERIVED. GIVEN WITH THE SEED: THE CARDS: each row of YtofombleojbehaaDoorRows.lean that lists a variable, with what it lists TIED to the program's text (the seventh form; the later family's looks); each row that meets fmt, with fmt's text TOLD by the authors' own Lean function (tested against real Go, not proved from fmt's source: count such statements apart). THE CARD IS WHAT COUNTS. Prove the row's statement (the work); the ties are given (YtofombleojbehaaDoorTie.lean); close each card by the builder's one call (the guide's Derived/Test/ToyasCard.lean, 'card_holds'). Laid BY PROGRAM, IN A SANDBOX (cutbox-door.mjs). By AI agents, Wed Nov 11 2026. No macro, syntax, notation, axiom, sorry.
-/
import Derived.Test.YtofombleojbehaaDoorRows
import GoSem.ClaimSeven
namespace Go.Proofs.YtofombleojbehaaDoor
namespace Rows

/-- THE TIED CARD OF 'laws.FnExactVersionText'. -/
def fnExactVersionTextCard : Claim7 := { stood := { row := fnExactVersionTextRow, standIns := [], harness := (true, "09f6d473d99bcf6a87f22be001de979054cb9c31aba0af40442951687011e750"), looks := true }, kinds := [], alts := [], laidByText := true, laidKinds := [.data, .data, .data], laidTests := true, laidLooks := .later }
def FnExactVersionTextCardSaid : Prop := Claim7.holds Tryd.pinned (.plain (OpenSpec.ofChange fnExactVersionTextSpec)) fnExactVersionTextCard

/-- THE TIED CARD OF 'laws.FnExactLineText'. -/
def fnExactLineTextCard : Claim7 := { stood := { row := fnExactLineTextRow, standIns := [], harness := (true, "09f6d473d99bcf6a87f22be001de979054cb9c31aba0af40442951687011e750"), looks := true }, kinds := [], alts := [], laidByText := true, laidKinds := [.data, .data, .data, .data, .pinned], laidTests := true, laidLooks := .later }
def FnExactLineTextCardSaid : Prop := Claim7.holds Tryd.pinned (.plain (OpenSpec.ofChange fnExactLineTextSpec)) fnExactLineTextCard

/-- THE TIED CARD OF 'laws.FnExactSealOf'. -/
def fnExactSealOfCard : Claim7 := { stood := { row := fnExactSealOfRow, standIns := [], harness := (true, "09f6d473d99bcf6a87f22be001de979054cb9c31aba0af40442951687011e750"), looks := true }, kinds := [], alts := [], laidByText := true, laidKinds := [.data, .data, .data, .data, .pinned], laidTests := true, laidLooks := .later }
def FnExactSealOfCardSaid : Prop := Claim7.holds Tryd.pinned (.plain (OpenSpec.ofChange fnExactSealOfSpec)) fnExactSealOfCard

/-- THE TIED CARD OF 'laws.FnExactValidLog'. -/
def fnExactValidLogCard : Claim7 := { stood := { row := fnExactValidLogRow, standIns := [], harness := (true, "09f6d473d99bcf6a87f22be001de979054cb9c31aba0af40442951687011e750"), looks := true }, kinds := [], alts := [], laidByText := true, laidKinds := [.data, .data, .data, .data, .pinned], laidTests := true, laidLooks := .later }
def FnExactValidLogCardSaid : Prop := Claim7.holds Tryd.pinned (.plain (OpenSpec.ofChange fnExactValidLogSpec)) fnExactValidLogCard

/-- THE TIED CARD OF 'laws.FnExactFirstBroken'. -/
def fnExactFirstBrokenCard : Claim7 := { stood := { row := fnExactFirstBrokenRow, standIns := [], harness := (true, "09f6d473d99bcf6a87f22be001de979054cb9c31aba0af40442951687011e750"), looks := true }, kinds := [], alts := [], laidByText := true, laidKinds := [.data, .data, .data, .data, .pinned], laidTests := true, laidLooks := .later }
def FnExactFirstBrokenCardSaid : Prop := Claim7.holds Tryd.pinned (.plain (OpenSpec.ofChange fnExactFirstBrokenSpec)) fnExactFirstBrokenCard

/-- THE TIED CARD OF 'laws.FnExactIsPrefix'. -/
def fnExactIsPrefixCard : Claim7 := { stood := { row := fnExactIsPrefixRow, standIns := [], harness := (true, "09f6d473d99bcf6a87f22be001de979054cb9c31aba0af40442951687011e750"), looks := true }, kinds := [], alts := [], laidByText := true, laidKinds := [.data, .data, .data, .data, .pinned], laidTests := true, laidLooks := .later }
def FnExactIsPrefixCardSaid : Prop := Claim7.holds Tryd.pinned (.plain (OpenSpec.ofChange fnExactIsPrefixSpec)) fnExactIsPrefixCard

/-- THE TIED CARD OF 'laws.FnExactSealLog'. -/
def fnExactSealLogCard : Claim7 := { stood := { row := fnExactSealLogRow, standIns := [], harness := (true, "09f6d473d99bcf6a87f22be001de979054cb9c31aba0af40442951687011e750"), looks := true }, kinds := [], alts := [], laidByText := true, laidKinds := [.data, .data, .data, .data, .pinned], laidTests := true, laidLooks := .later }
def FnExactSealLogCardSaid : Prop := Claim7.holds Tryd.pinned (.plain (OpenSpec.ofChange fnExactSealLogSpec)) fnExactSealLogCard

/-- THE TIED CARD OF 'laws.FnExactLinesOfDay'. -/
def fnExactLinesOfDayCard : Claim7 := { stood := { row := fnExactLinesOfDayRow, standIns := [], harness := (true, "09f6d473d99bcf6a87f22be001de979054cb9c31aba0af40442951687011e750"), looks := true }, kinds := [], alts := [], laidByText := true, laidKinds := [.data, .data, .data, .data, .pinned], laidTests := true, laidLooks := .later }
def FnExactLinesOfDayCardSaid : Prop := Claim7.holds Tryd.pinned (.plain (OpenSpec.ofChange fnExactLinesOfDaySpec)) fnExactLinesOfDayCard

/-- THE TIED CARD OF 'laws.FnExactAddLine'. -/
def fnExactAddLineCard : Claim7 := { stood := { row := fnExactAddLineRow, standIns := [], harness := (true, "09f6d473d99bcf6a87f22be001de979054cb9c31aba0af40442951687011e750"), looks := true }, kinds := [], alts := [], laidByText := true, laidKinds := [.data, .data, .data, .data, .pinned], laidTests := true, laidLooks := .later }
def FnExactAddLineCardSaid : Prop := Claim7.holds Tryd.pinned (.plain (OpenSpec.ofChange fnExactAddLineSpec)) fnExactAddLineCard

/-- THE TIED CARD OF 'laws.FnExactLinesWith'. -/
def fnExactLinesWithCard : Claim7 := { stood := { row := fnExactLinesWithRow, standIns := [], harness := (true, "09f6d473d99bcf6a87f22be001de979054cb9c31aba0af40442951687011e750"), looks := true }, kinds := [], alts := [], laidByText := true, laidKinds := [.data, .data, .data, .data, .pinned], laidTests := true, laidLooks := .later }
def FnExactLinesWithCardSaid : Prop := Claim7.holds Tryd.pinned (.plain (OpenSpec.ofChange fnExactLinesWithSpec)) fnExactLinesWithCard

/-- THE TIED CARD OF 'laws.FnExactReadLine'. -/
def fnExactReadLineCard : Claim7 := { stood := { row := fnExactReadLineRow, standIns := [], harness := (true, "09f6d473d99bcf6a87f22be001de979054cb9c31aba0af40442951687011e750"), looks := true }, kinds := [], alts := [], laidByText := true, laidKinds := [.data, .data, .data, .data, .sentinel, .sentinel, .pinned], laidTests := true, laidLooks := .later }
def FnExactReadLineCardSaid : Prop := Claim7.holds Tryd.pinned (.plain (OpenSpec.ofChange fnExactReadLineSpec)) fnExactReadLineCard

/-- THE SECOND FORM's CARD OF 'laws.FnExactVersionText'. -/
def fnExactVersionTextUptoCard : Claim7 := { stood := { row := fnExactVersionTextUptoRow, standIns := [], harness := (true, "09f6d473d99bcf6a87f22be001de979054cb9c31aba0af40442951687011e750"), looks := true }, kinds := [], alts := [], laidByText := true, laidKinds := [.data, .data, .data], laidTests := true, laidLooks := .later }
def FnExactVersionTextUptoCardSaid : Prop := Claim7.holds Tryd.pinned (.plain (OpenSpec.upto fnExactVersionTextSpec)) fnExactVersionTextUptoCard

/-- THE SECOND FORM's CARD OF 'laws.FnExactLineText'. -/
def fnExactLineTextUptoCard : Claim7 := { stood := { row := fnExactLineTextUptoRow, standIns := [], harness := (true, "09f6d473d99bcf6a87f22be001de979054cb9c31aba0af40442951687011e750"), looks := true }, kinds := [], alts := [], laidByText := true, laidKinds := [.data, .data, .data, .data, .pinned], laidTests := true, laidLooks := .later }
def FnExactLineTextUptoCardSaid : Prop := Claim7.holds Tryd.pinned (.plain (OpenSpec.upto fnExactLineTextSpec)) fnExactLineTextUptoCard

/-- THE SECOND FORM's CARD OF 'laws.FnExactSealOf'. -/
def fnExactSealOfUptoCard : Claim7 := { stood := { row := fnExactSealOfUptoRow, standIns := [], harness := (true, "09f6d473d99bcf6a87f22be001de979054cb9c31aba0af40442951687011e750"), looks := true }, kinds := [], alts := [], laidByText := true, laidKinds := [.data, .data, .data, .data, .pinned], laidTests := true, laidLooks := .later }
def FnExactSealOfUptoCardSaid : Prop := Claim7.holds Tryd.pinned (.plain (OpenSpec.upto fnExactSealOfSpec)) fnExactSealOfUptoCard

/-- THE SECOND FORM's CARD OF 'laws.FnExactValidLog'. -/
def fnExactValidLogUptoCard : Claim7 := { stood := { row := fnExactValidLogUptoRow, standIns := [], harness := (true, "09f6d473d99bcf6a87f22be001de979054cb9c31aba0af40442951687011e750"), looks := true }, kinds := [], alts := [], laidByText := true, laidKinds := [.data, .data, .data, .data, .pinned], laidTests := true, laidLooks := .later }
def FnExactValidLogUptoCardSaid : Prop := Claim7.holds Tryd.pinned (.plain (OpenSpec.upto fnExactValidLogSpec)) fnExactValidLogUptoCard

/-- THE SECOND FORM's CARD OF 'laws.FnExactFirstBroken'. -/
def fnExactFirstBrokenUptoCard : Claim7 := { stood := { row := fnExactFirstBrokenUptoRow, standIns := [], harness := (true, "09f6d473d99bcf6a87f22be001de979054cb9c31aba0af40442951687011e750"), looks := true }, kinds := [], alts := [], laidByText := true, laidKinds := [.data, .data, .data, .data, .pinned], laidTests := true, laidLooks := .later }
def FnExactFirstBrokenUptoCardSaid : Prop := Claim7.holds Tryd.pinned (.plain (OpenSpec.upto fnExactFirstBrokenSpec)) fnExactFirstBrokenUptoCard

/-- THE SECOND FORM's CARD OF 'laws.FnExactIsPrefix'. -/
def fnExactIsPrefixUptoCard : Claim7 := { stood := { row := fnExactIsPrefixUptoRow, standIns := [], harness := (true, "09f6d473d99bcf6a87f22be001de979054cb9c31aba0af40442951687011e750"), looks := true }, kinds := [], alts := [], laidByText := true, laidKinds := [.data, .data, .data, .data, .pinned], laidTests := true, laidLooks := .later }
def FnExactIsPrefixUptoCardSaid : Prop := Claim7.holds Tryd.pinned (.plain (OpenSpec.upto fnExactIsPrefixSpec)) fnExactIsPrefixUptoCard

/-- THE SECOND FORM's CARD OF 'laws.FnExactSealLog'. -/
def fnExactSealLogUptoCard : Claim7 := { stood := { row := fnExactSealLogUptoRow, standIns := [], harness := (true, "09f6d473d99bcf6a87f22be001de979054cb9c31aba0af40442951687011e750"), looks := true }, kinds := [], alts := [], laidByText := true, laidKinds := [.data, .data, .data, .data, .pinned], laidTests := true, laidLooks := .later }
def FnExactSealLogUptoCardSaid : Prop := Claim7.holds Tryd.pinned (.plain (OpenSpec.upto fnExactSealLogSpec)) fnExactSealLogUptoCard

/-- THE SECOND FORM's CARD OF 'laws.FnExactLinesOfDay'. -/
def fnExactLinesOfDayUptoCard : Claim7 := { stood := { row := fnExactLinesOfDayUptoRow, standIns := [], harness := (true, "09f6d473d99bcf6a87f22be001de979054cb9c31aba0af40442951687011e750"), looks := true }, kinds := [], alts := [], laidByText := true, laidKinds := [.data, .data, .data, .data, .pinned], laidTests := true, laidLooks := .later }
def FnExactLinesOfDayUptoCardSaid : Prop := Claim7.holds Tryd.pinned (.plain (OpenSpec.upto fnExactLinesOfDaySpec)) fnExactLinesOfDayUptoCard

/-- THE SECOND FORM's CARD OF 'laws.FnExactAddLine'. -/
def fnExactAddLineUptoCard : Claim7 := { stood := { row := fnExactAddLineUptoRow, standIns := [], harness := (true, "09f6d473d99bcf6a87f22be001de979054cb9c31aba0af40442951687011e750"), looks := true }, kinds := [], alts := [], laidByText := true, laidKinds := [.data, .data, .data, .data, .pinned], laidTests := true, laidLooks := .later }
def FnExactAddLineUptoCardSaid : Prop := Claim7.holds Tryd.pinned (.plain (OpenSpec.upto fnExactAddLineSpec)) fnExactAddLineUptoCard

/-- THE SECOND FORM's CARD OF 'laws.FnExactLinesWith'. -/
def fnExactLinesWithUptoCard : Claim7 := { stood := { row := fnExactLinesWithUptoRow, standIns := [], harness := (true, "09f6d473d99bcf6a87f22be001de979054cb9c31aba0af40442951687011e750"), looks := true }, kinds := [], alts := [], laidByText := true, laidKinds := [.data, .data, .data, .data, .pinned], laidTests := true, laidLooks := .later }
def FnExactLinesWithUptoCardSaid : Prop := Claim7.holds Tryd.pinned (.plain (OpenSpec.upto fnExactLinesWithSpec)) fnExactLinesWithUptoCard

/-- THE SECOND FORM's CARD OF 'laws.FnExactReadLine'. -/
def fnExactReadLineUptoCard : Claim7 := { stood := { row := fnExactReadLineUptoRow, standIns := [], harness := (true, "09f6d473d99bcf6a87f22be001de979054cb9c31aba0af40442951687011e750"), looks := true }, kinds := [], alts := [], laidByText := true, laidKinds := [.data, .data, .data, .data, .sentinel, .sentinel, .pinned], laidTests := true, laidLooks := .later }
def FnExactReadLineUptoCardSaid : Prop := Claim7.holds Tryd.pinned (.plain (OpenSpec.upto fnExactReadLineSpec)) fnExactReadLineUptoCard
end Rows
end Go.Proofs.YtofombleojbehaaDoor
