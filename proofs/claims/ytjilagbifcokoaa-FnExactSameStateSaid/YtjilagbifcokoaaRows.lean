/-
  No cell of these rows narrows 'for every input' (looked for: loops, veiled, ifaces, maps, wideKeys, modest, calm, conditions, laid).
  DERIVED. THE GIVEN ROWS OF THIS SEAT. 7 by the template 'for every input the law returns true; each argument reads behind the call as it read before'; 0 by the template 'total and deterministic' (their statements: YtjilagbifcokoaaTotals.lean).
  GIVEN WITH THE SEED: the statements are not yours to turn. If you find one false, say at which input.
  Laid BY PROGRAM, IN A SANDBOX (cutbox-rows.mjs): the forced cells as the released guide's own fill.sh prints them over the translation e12f5fa8f4152c92… (all of the seat's roots in one cut). By AI agents, Wed Nov 11 2026. No macro, syntax, notation, axiom, sorry.
-/
import Derived.Test.YtjilagbifcokoaaChecked
import GoSem.Claim
import GoSem.ClaimJoined
import GoSem.ClaimMapViews
import Derived.JoinedTies
import Derived.KernelRfl
namespace Go.Proofs.Ytjilagbifcokoaa
/- THE CELL 'sum', in the pinned program and in every row, IS THE sha256 OF THE DUMP (.gsa) THAT YtjilagbifcokoaaProg.lean LOADS. Nothing in Lean hashes anything: it is a label: what it is worth is what the hold of that sum in a sandbox is worth. -/
noncomputable def Try.pinned : Pinned := { name := "ytjilagbifcokoaa", sum := "e12f5fa8f4152c92f35e7939b2b71e9e4c9207ad0a52757e5fb84c10a2a59e24", checked := Try.checked }
namespace Rows
def none {H : Type} : Left H := { results := [], args := [] }

/-- 'laws.FnExactActionName': WHATEVER THE INPUT: true; the input reads as it did. -/
def fnExactActionNameSpec : ChangeSpec := { name := "fnExactActionName", fn := fun _ => fun
  | [d] => { results := [.lit (.bool true)], args := [d] }
  | _ => none }
def fnExactActionNameRow : OpenClaim := { program := "ytjilagbifcokoaa", sum := "e12f5fa8f4152c92f35e7939b2b71e9e4c9207ad0a52757e5fb84c10a2a59e24", func := "loop.example/g01057/laws.FnExactActionName", spec := "fnExactActionName", apart := false }
def FnExactActionNameSaid : Prop := fnExactActionNameRow.holds Try.pinned (OpenSpec.ofChange fnExactActionNameSpec)

/-- ITS FALSE NEIGHBOUR: 'it returns false'. Refute it at one input. -/
def fnExactActionNameWrong : ChangeSpec := { name := "fnExactActionName", fn := fun _ => fun
  | [d] => { results := [.lit (.bool false)], args := [d] }
  | _ => none }
def FnExactActionNameWrongFalsely : Prop := fnExactActionNameRow.holds Try.pinned (OpenSpec.ofChange fnExactActionNameWrong)

/-- 'laws.FnExactValidSeries': WHATEVER THE INPUT: true; the input reads as it did. -/
def fnExactValidSeriesSpec : ChangeSpec := { name := "fnExactValidSeries", fn := fun _ => fun
  | [d] => { results := [.lit (.bool true)], args := [d] }
  | _ => none }
def fnExactValidSeriesRow : OpenClaim := { program := "ytjilagbifcokoaa", sum := "e12f5fa8f4152c92f35e7939b2b71e9e4c9207ad0a52757e5fb84c10a2a59e24", func := "loop.example/g01057/laws.FnExactValidSeries", spec := "fnExactValidSeries", unfollowed := true, recurses := true, apart := false }
def FnExactValidSeriesSaid : Prop := fnExactValidSeriesRow.holds Try.pinned (OpenSpec.ofChange fnExactValidSeriesSpec)

/-- ITS FALSE NEIGHBOUR: 'it returns false'. Refute it at one input. -/
def fnExactValidSeriesWrong : ChangeSpec := { name := "fnExactValidSeries", fn := fun _ => fun
  | [d] => { results := [.lit (.bool false)], args := [d] }
  | _ => none }
def FnExactValidSeriesWrongFalsely : Prop := fnExactValidSeriesRow.holds Try.pinned (OpenSpec.ofChange fnExactValidSeriesWrong)

/-- 'laws.FnExactBestRun': WHATEVER THE INPUT: true; the input reads as it did. -/
def fnExactBestRunSpec : ChangeSpec := { name := "fnExactBestRun", fn := fun _ => fun
  | [d] => { results := [.lit (.bool true)], args := [d] }
  | _ => none }
def fnExactBestRunRow : OpenClaim := { program := "ytjilagbifcokoaa", sum := "e12f5fa8f4152c92f35e7939b2b71e9e4c9207ad0a52757e5fb84c10a2a59e24", func := "loop.example/g01057/laws.FnExactBestRun", spec := "fnExactBestRun", unfollowed := true, recurses := true, apart := false }
def FnExactBestRunSaid : Prop := fnExactBestRunRow.holds Try.pinned (OpenSpec.ofChange fnExactBestRunSpec)

/-- ITS FALSE NEIGHBOUR: 'it returns false'. Refute it at one input. -/
def fnExactBestRunWrong : ChangeSpec := { name := "fnExactBestRun", fn := fun _ => fun
  | [d] => { results := [.lit (.bool false)], args := [d] }
  | _ => none }
def FnExactBestRunWrongFalsely : Prop := fnExactBestRunRow.holds Try.pinned (OpenSpec.ofChange fnExactBestRunWrong)

/-- 'laws.FnExactSameState': WHATEVER THE INPUT: true; the input reads as it did. -/
def fnExactSameStateSpec : ChangeSpec := { name := "fnExactSameState", fn := fun _ => fun
  | [d1, d2] => { results := [.lit (.bool true)], args := [d1, d2] }
  | _ => none }
def fnExactSameStateRow : OpenClaim := { program := "ytjilagbifcokoaa", sum := "e12f5fa8f4152c92f35e7939b2b71e9e4c9207ad0a52757e5fb84c10a2a59e24", func := "loop.example/g01057/laws.FnExactSameState", spec := "fnExactSameState", apart := false }
def FnExactSameStateSaid : Prop := fnExactSameStateRow.holds Try.pinned (OpenSpec.ofChange fnExactSameStateSpec)

/-- ITS FALSE NEIGHBOUR: 'it returns false'. Refute it at one input. -/
def fnExactSameStateWrong : ChangeSpec := { name := "fnExactSameState", fn := fun _ => fun
  | [d1, d2] => { results := [.lit (.bool false)], args := [d1, d2] }
  | _ => none }
def FnExactSameStateWrongFalsely : Prop := fnExactSameStateRow.holds Try.pinned (OpenSpec.ofChange fnExactSameStateWrong)

/-- 'laws.FnExactGrantText': WHATEVER THE INPUT: true; the input reads as it did. -/
def fnExactGrantTextSpec : ChangeSpec := { name := "fnExactGrantText", fn := fun _ => fun
  | [d] => { results := [.lit (.bool true)], args := [d] }
  | _ => none }
def fnExactGrantTextRow : OpenClaim := { program := "ytjilagbifcokoaa", sum := "e12f5fa8f4152c92f35e7939b2b71e9e4c9207ad0a52757e5fb84c10a2a59e24", func := "loop.example/g01057/laws.FnExactGrantText", spec := "fnExactGrantText", apart := false }
def FnExactGrantTextSaid : Prop := fnExactGrantTextRow.holds Try.pinned (OpenSpec.ofChange fnExactGrantTextSpec)

/-- ITS FALSE NEIGHBOUR: 'it returns false'. Refute it at one input. -/
def fnExactGrantTextWrong : ChangeSpec := { name := "fnExactGrantText", fn := fun _ => fun
  | [d] => { results := [.lit (.bool false)], args := [d] }
  | _ => none }
def FnExactGrantTextWrongFalsely : Prop := fnExactGrantTextRow.holds Try.pinned (OpenSpec.ofChange fnExactGrantTextWrong)

/-- 'laws.FnExactMeanOf': WHATEVER THE INPUT: true; the input reads as it did. -/
def fnExactMeanOfSpec : ChangeSpec := { name := "fnExactMeanOf", fn := fun _ => fun
  | [d] => { results := [.lit (.bool true)], args := [d] }
  | _ => none }
def fnExactMeanOfRow : OpenClaim := { program := "ytjilagbifcokoaa", sum := "e12f5fa8f4152c92f35e7939b2b71e9e4c9207ad0a52757e5fb84c10a2a59e24", func := "loop.example/g01057/laws.FnExactMeanOf", spec := "fnExactMeanOf", unfollowed := true, recurses := true, apart := false }
def FnExactMeanOfSaid : Prop := fnExactMeanOfRow.holds Try.pinned (OpenSpec.ofChange fnExactMeanOfSpec)

/-- ITS FALSE NEIGHBOUR: 'it returns false'. Refute it at one input. -/
def fnExactMeanOfWrong : ChangeSpec := { name := "fnExactMeanOf", fn := fun _ => fun
  | [d] => { results := [.lit (.bool false)], args := [d] }
  | _ => none }
def FnExactMeanOfWrongFalsely : Prop := fnExactMeanOfRow.holds Try.pinned (OpenSpec.ofChange fnExactMeanOfWrong)

/-- 'laws.FnExactGrowthTo': WHATEVER THE INPUT: true; the input reads as it did. -/
def fnExactGrowthToSpec : ChangeSpec := { name := "fnExactGrowthTo", fn := fun _ => fun
  | [d1, d2] => { results := [.lit (.bool true)], args := [d1, d2] }
  | _ => none }
def fnExactGrowthToRow : OpenClaim := { program := "ytjilagbifcokoaa", sum := "e12f5fa8f4152c92f35e7939b2b71e9e4c9207ad0a52757e5fb84c10a2a59e24", func := "loop.example/g01057/laws.FnExactGrowthTo", spec := "fnExactGrowthTo", unfollowed := true, recurses := true, apart := false }
def FnExactGrowthToSaid : Prop := fnExactGrowthToRow.holds Try.pinned (OpenSpec.ofChange fnExactGrowthToSpec)

/-- ITS FALSE NEIGHBOUR: 'it returns false'. Refute it at one input. -/
def fnExactGrowthToWrong : ChangeSpec := { name := "fnExactGrowthTo", fn := fun _ => fun
  | [d1, d2] => { results := [.lit (.bool false)], args := [d1, d2] }
  | _ => none }
def FnExactGrowthToWrongFalsely : Prop := fnExactGrowthToRow.holds Try.pinned (OpenSpec.ofChange fnExactGrowthToWrong)

/- THE SECOND FORM. 'bulk': how many values and letters a reading holds, each counted each time it is reached (what is shared counts as often as it is met; a slice's spare places count too). A statement '..UptoSaid' is the law's where the arguments, and the package variables that the reading takes, are together of bulk at most 1048576: NARROWER than '..Said'. Prove '..Said' where nothing that the law and all that it calls make is longer than what came in: it says more and counts as full. Else prove '..UptoSaid'. A law counts once. -/
mutual
def uptoBulk {H : Type} : DataW H → Nat
  | .lit (.string bytes) => bytes.length + 1
  | .lit _ => 1
  | .nil => 1
  | .ptr d => uptoBulk d + 1
  | .slice elems spare => uptoBulkAll elems + uptoBulkAll spare + 1
  | .agg parts => uptoBulkAll parts + 1
  | .iface _ d => uptoBulk d + 1
  | .map entries => uptoBulkEntries entries + 1
  | .held _ => 1
def uptoBulkAll {H : Type} : List (DataW H) → Nat
  | [] => 0
  | d :: r => uptoBulk d + uptoBulkAll r
def uptoBulkEntries {H : Type} : List (Lit × DataW H) → Nat
  | [] => 0
  | x :: r => uptoBulkEntry x + uptoBulkEntries r
def uptoBulkEntry {H : Type} : Lit × DataW H → Nat
  | (.string bytes, d) => bytes.length + uptoBulk d + 1
  | (_, d) => uptoBulk d + 1
 end
def uptoSmall : (H : Type) → List (DataW H) → Bool := fun _ ds => decide (uptoBulkAll ds ≤ 1048576)
def OpenSpec.upto (s : _root_.Go.ChangeSpec) : _root_.Go.OpenSpec := { _root_.Go.OpenSpec.ofChange s with cond := some uptoSmall }

/-- 'laws.FnExactActionName', WHERE WHAT IT READS IS OF BULK AT MOST 1048576: true; the input reads as it did. -/
def fnExactActionNameUptoRow : OpenClaim := { program := "ytjilagbifcokoaa", sum := "e12f5fa8f4152c92f35e7939b2b71e9e4c9207ad0a52757e5fb84c10a2a59e24", func := "loop.example/g01057/laws.FnExactActionName", spec := "fnExactActionName", apart := false, narrowed := true }
def FnExactActionNameUptoSaid : Prop := fnExactActionNameUptoRow.holds Try.pinned (OpenSpec.upto fnExactActionNameSpec)

/-- 'laws.FnExactValidSeries', WHERE WHAT IT READS IS OF BULK AT MOST 1048576: true; the input reads as it did. -/
def fnExactValidSeriesUptoRow : OpenClaim := { program := "ytjilagbifcokoaa", sum := "e12f5fa8f4152c92f35e7939b2b71e9e4c9207ad0a52757e5fb84c10a2a59e24", func := "loop.example/g01057/laws.FnExactValidSeries", spec := "fnExactValidSeries", unfollowed := true, recurses := true, apart := false, narrowed := true }
def FnExactValidSeriesUptoSaid : Prop := fnExactValidSeriesUptoRow.holds Try.pinned (OpenSpec.upto fnExactValidSeriesSpec)

/-- 'laws.FnExactBestRun', WHERE WHAT IT READS IS OF BULK AT MOST 1048576: true; the input reads as it did. -/
def fnExactBestRunUptoRow : OpenClaim := { program := "ytjilagbifcokoaa", sum := "e12f5fa8f4152c92f35e7939b2b71e9e4c9207ad0a52757e5fb84c10a2a59e24", func := "loop.example/g01057/laws.FnExactBestRun", spec := "fnExactBestRun", unfollowed := true, recurses := true, apart := false, narrowed := true }
def FnExactBestRunUptoSaid : Prop := fnExactBestRunUptoRow.holds Try.pinned (OpenSpec.upto fnExactBestRunSpec)

/-- 'laws.FnExactSameState', WHERE WHAT IT READS IS OF BULK AT MOST 1048576: true; the input reads as it did. -/
def fnExactSameStateUptoRow : OpenClaim := { program := "ytjilagbifcokoaa", sum := "e12f5fa8f4152c92f35e7939b2b71e9e4c9207ad0a52757e5fb84c10a2a59e24", func := "loop.example/g01057/laws.FnExactSameState", spec := "fnExactSameState", apart := false, narrowed := true }
def FnExactSameStateUptoSaid : Prop := fnExactSameStateUptoRow.holds Try.pinned (OpenSpec.upto fnExactSameStateSpec)

/-- 'laws.FnExactGrantText', WHERE WHAT IT READS IS OF BULK AT MOST 1048576: true; the input reads as it did. -/
def fnExactGrantTextUptoRow : OpenClaim := { program := "ytjilagbifcokoaa", sum := "e12f5fa8f4152c92f35e7939b2b71e9e4c9207ad0a52757e5fb84c10a2a59e24", func := "loop.example/g01057/laws.FnExactGrantText", spec := "fnExactGrantText", apart := false, narrowed := true }
def FnExactGrantTextUptoSaid : Prop := fnExactGrantTextUptoRow.holds Try.pinned (OpenSpec.upto fnExactGrantTextSpec)

/-- 'laws.FnExactMeanOf', WHERE WHAT IT READS IS OF BULK AT MOST 1048576: true; the input reads as it did. -/
def fnExactMeanOfUptoRow : OpenClaim := { program := "ytjilagbifcokoaa", sum := "e12f5fa8f4152c92f35e7939b2b71e9e4c9207ad0a52757e5fb84c10a2a59e24", func := "loop.example/g01057/laws.FnExactMeanOf", spec := "fnExactMeanOf", unfollowed := true, recurses := true, apart := false, narrowed := true }
def FnExactMeanOfUptoSaid : Prop := fnExactMeanOfUptoRow.holds Try.pinned (OpenSpec.upto fnExactMeanOfSpec)

/-- 'laws.FnExactGrowthTo', WHERE WHAT IT READS IS OF BULK AT MOST 1048576: true; the input reads as it did. -/
def fnExactGrowthToUptoRow : OpenClaim := { program := "ytjilagbifcokoaa", sum := "e12f5fa8f4152c92f35e7939b2b71e9e4c9207ad0a52757e5fb84c10a2a59e24", func := "loop.example/g01057/laws.FnExactGrowthTo", spec := "fnExactGrowthTo", unfollowed := true, recurses := true, apart := false, narrowed := true }
def FnExactGrowthToUptoSaid : Prop := fnExactGrowthToUptoRow.holds Try.pinned (OpenSpec.upto fnExactGrowthToSpec)

end Rows
end Go.Proofs.Ytjilagbifcokoaa
