/-
  No cell of these rows narrows 'for every input' (looked for: loops, veiled, ifaces, maps, wideKeys, modest, calm, conditions, laid).
  DERIVED. THE GIVEN ROWS OF THIS SEAT. 10 by the template 'for every input the law returns true; each argument reads behind the call as it read before'; 0 by the template 'total and deterministic' (their statements: YtmhmfoeibgdjcaaTotals.lean).
  GIVEN WITH THE SEED: the statements are not yours to turn. If you find one false, say at which input.
  Laid BY PROGRAM, IN A SANDBOX (cutbox-rows.mjs): the forced cells as the released guide's own fill.sh prints them over the translation c892ce45319b3b2d… (all of the seat's roots in one cut). By AI agents, Wed Nov 11 2026. No macro, syntax, notation, axiom, sorry.
-/
import Derived.Test.YtmhmfoeibgdjcaaChecked
import GoSem.Claim
import GoSem.ClaimJoined
import GoSem.ClaimMapViews
import Derived.JoinedTies
import Derived.KernelRfl
namespace Go.Proofs.Ytmhmfoeibgdjcaa
/- THE CELL 'sum', in the pinned program and in every row, IS THE sha256 OF THE DUMP (.gsa) THAT YtmhmfoeibgdjcaaProg.lean LOADS. Nothing in Lean hashes anything: it is a label: what it is worth is what the hold of that sum in a sandbox is worth. -/
noncomputable def Try.pinned : Pinned := { name := "ytmhmfoeibgdjcaa", sum := "c892ce45319b3b2d4d1b9cd425a3c53e2b040e4af7d177b268da597b2687779b", checked := Try.checked }
namespace Rows
def none {H : Type} : Left H := { results := [], args := [] }

/-- 'laws.FnExactSameSigns': WHATEVER THE INPUT: true; the input reads as it did. -/
def fnExactSameSignsSpec : ChangeSpec := { name := "fnExactSameSigns", fn := fun _ => fun
  | [d1, d2] => { results := [.lit (.bool true)], args := [d1, d2] }
  | _ => none }
def fnExactSameSignsRow : OpenClaim := { program := "ytmhmfoeibgdjcaa", sum := "c892ce45319b3b2d4d1b9cd425a3c53e2b040e4af7d177b268da597b2687779b", func := "loop.example/g01057/laws.FnExactSameSigns", spec := "fnExactSameSigns", unfollowed := true, recurses := true, apart := false }
def FnExactSameSignsSaid : Prop := fnExactSameSignsRow.holds Try.pinned (OpenSpec.ofChange fnExactSameSignsSpec)

/-- ITS FALSE NEIGHBOUR: 'it returns false'. Refute it at one input. -/
def fnExactSameSignsWrong : ChangeSpec := { name := "fnExactSameSigns", fn := fun _ => fun
  | [d1, d2] => { results := [.lit (.bool false)], args := [d1, d2] }
  | _ => none }
def FnExactSameSignsWrongFalsely : Prop := fnExactSameSignsRow.holds Try.pinned (OpenSpec.ofChange fnExactSameSignsWrong)

/-- 'laws.FnExactTrendOf': WHATEVER THE INPUT: true; the input reads as it did. -/
def fnExactTrendOfSpec : ChangeSpec := { name := "fnExactTrendOf", fn := fun _ => fun
  | [d] => { results := [.lit (.bool true)], args := [d] }
  | _ => none }
def fnExactTrendOfRow : OpenClaim := { program := "ytmhmfoeibgdjcaa", sum := "c892ce45319b3b2d4d1b9cd425a3c53e2b040e4af7d177b268da597b2687779b", func := "loop.example/g01057/laws.FnExactTrendOf", spec := "fnExactTrendOf", unfollowed := true, recurses := true, apart := false }
def FnExactTrendOfSaid : Prop := fnExactTrendOfRow.holds Try.pinned (OpenSpec.ofChange fnExactTrendOfSpec)

/-- ITS FALSE NEIGHBOUR: 'it returns false'. Refute it at one input. -/
def fnExactTrendOfWrong : ChangeSpec := { name := "fnExactTrendOf", fn := fun _ => fun
  | [d] => { results := [.lit (.bool false)], args := [d] }
  | _ => none }
def FnExactTrendOfWrongFalsely : Prop := fnExactTrendOfRow.holds Try.pinned (OpenSpec.ofChange fnExactTrendOfWrong)

/-- 'laws.FnExactHistogram': WHATEVER THE INPUT: true; the input reads as it did. -/
def fnExactHistogramSpec : ChangeSpec := { name := "fnExactHistogram", fn := fun _ => fun
  | [d1, d2] => { results := [.lit (.bool true)], args := [d1, d2] }
  | _ => none }
def fnExactHistogramRow : OpenClaim := { program := "ytmhmfoeibgdjcaa", sum := "c892ce45319b3b2d4d1b9cd425a3c53e2b040e4af7d177b268da597b2687779b", func := "loop.example/g01057/laws.FnExactHistogram", spec := "fnExactHistogram", unfollowed := true, recurses := true, apart := false }
def FnExactHistogramSaid : Prop := fnExactHistogramRow.holds Try.pinned (OpenSpec.ofChange fnExactHistogramSpec)

/-- ITS FALSE NEIGHBOUR: 'it returns false'. Refute it at one input. -/
def fnExactHistogramWrong : ChangeSpec := { name := "fnExactHistogram", fn := fun _ => fun
  | [d1, d2] => { results := [.lit (.bool false)], args := [d1, d2] }
  | _ => none }
def FnExactHistogramWrongFalsely : Prop := fnExactHistogramRow.holds Try.pinned (OpenSpec.ofChange fnExactHistogramWrong)

/-- 'laws.FnExactMovingMeans': WHATEVER THE INPUT: true; the input reads as it did. -/
def fnExactMovingMeansSpec : ChangeSpec := { name := "fnExactMovingMeans", fn := fun _ => fun
  | [d1, d2] => { results := [.lit (.bool true)], args := [d1, d2] }
  | _ => none }
def fnExactMovingMeansRow : OpenClaim := { program := "ytmhmfoeibgdjcaa", sum := "c892ce45319b3b2d4d1b9cd425a3c53e2b040e4af7d177b268da597b2687779b", func := "loop.example/g01057/laws.FnExactMovingMeans", spec := "fnExactMovingMeans", unfollowed := true, recurses := true, apart := false }
def FnExactMovingMeansSaid : Prop := fnExactMovingMeansRow.holds Try.pinned (OpenSpec.ofChange fnExactMovingMeansSpec)

/-- ITS FALSE NEIGHBOUR: 'it returns false'. Refute it at one input. -/
def fnExactMovingMeansWrong : ChangeSpec := { name := "fnExactMovingMeans", fn := fun _ => fun
  | [d1, d2] => { results := [.lit (.bool false)], args := [d1, d2] }
  | _ => none }
def FnExactMovingMeansWrongFalsely : Prop := fnExactMovingMeansRow.holds Try.pinned (OpenSpec.ofChange fnExactMovingMeansWrong)

/-- 'laws.FnExactWeekMeans': WHATEVER THE INPUT: true; the input reads as it did. -/
def fnExactWeekMeansSpec : ChangeSpec := { name := "fnExactWeekMeans", fn := fun _ => fun
  | [d1, d2] => { results := [.lit (.bool true)], args := [d1, d2] }
  | _ => none }
def fnExactWeekMeansRow : OpenClaim := { program := "ytmhmfoeibgdjcaa", sum := "c892ce45319b3b2d4d1b9cd425a3c53e2b040e4af7d177b268da597b2687779b", func := "loop.example/g01057/laws.FnExactWeekMeans", spec := "fnExactWeekMeans", unfollowed := true, recurses := true, apart := false }
def FnExactWeekMeansSaid : Prop := fnExactWeekMeansRow.holds Try.pinned (OpenSpec.ofChange fnExactWeekMeansSpec)

/-- ITS FALSE NEIGHBOUR: 'it returns false'. Refute it at one input. -/
def fnExactWeekMeansWrong : ChangeSpec := { name := "fnExactWeekMeans", fn := fun _ => fun
  | [d1, d2] => { results := [.lit (.bool false)], args := [d1, d2] }
  | _ => none }
def FnExactWeekMeansWrongFalsely : Prop := fnExactWeekMeansRow.holds Try.pinned (OpenSpec.ofChange fnExactWeekMeansWrong)

/-- 'laws.FnExactFillGaps': WHATEVER THE INPUT: true; the input reads as it did. -/
def fnExactFillGapsSpec : ChangeSpec := { name := "fnExactFillGaps", fn := fun _ => fun
  | [d1, d2] => { results := [.lit (.bool true)], args := [d1, d2] }
  | _ => none }
def fnExactFillGapsRow : OpenClaim := { program := "ytmhmfoeibgdjcaa", sum := "c892ce45319b3b2d4d1b9cd425a3c53e2b040e4af7d177b268da597b2687779b", func := "loop.example/g01057/laws.FnExactFillGaps", spec := "fnExactFillGaps", unfollowed := true, recurses := true, apart := false }
def FnExactFillGapsSaid : Prop := fnExactFillGapsRow.holds Try.pinned (OpenSpec.ofChange fnExactFillGapsSpec)

/-- ITS FALSE NEIGHBOUR: 'it returns false'. Refute it at one input. -/
def fnExactFillGapsWrong : ChangeSpec := { name := "fnExactFillGaps", fn := fun _ => fun
  | [d1, d2] => { results := [.lit (.bool false)], args := [d1, d2] }
  | _ => none }
def FnExactFillGapsWrongFalsely : Prop := fnExactFillGapsRow.holds Try.pinned (OpenSpec.ofChange fnExactFillGapsWrong)

/-- 'laws.FnExactMedianOf': WHATEVER THE INPUT: true; the input reads as it did. -/
def fnExactMedianOfSpec : ChangeSpec := { name := "fnExactMedianOf", fn := fun _ => fun
  | [d] => { results := [.lit (.bool true)], args := [d] }
  | _ => none }
def fnExactMedianOfRow : OpenClaim := { program := "ytmhmfoeibgdjcaa", sum := "c892ce45319b3b2d4d1b9cd425a3c53e2b040e4af7d177b268da597b2687779b", func := "loop.example/g01057/laws.FnExactMedianOf", spec := "fnExactMedianOf", unfollowed := true, recurses := true, apart := false }
def FnExactMedianOfSaid : Prop := fnExactMedianOfRow.holds Try.pinned (OpenSpec.ofChange fnExactMedianOfSpec)

/-- ITS FALSE NEIGHBOUR: 'it returns false'. Refute it at one input. -/
def fnExactMedianOfWrong : ChangeSpec := { name := "fnExactMedianOf", fn := fun _ => fun
  | [d] => { results := [.lit (.bool false)], args := [d] }
  | _ => none }
def FnExactMedianOfWrongFalsely : Prop := fnExactMedianOfRow.holds Try.pinned (OpenSpec.ofChange fnExactMedianOfWrong)

/-- 'laws.FnExactOddDays': WHATEVER THE INPUT: true; the input reads as it did. -/
def fnExactOddDaysSpec : ChangeSpec := { name := "fnExactOddDays", fn := fun _ => fun
  | [d1, d2] => { results := [.lit (.bool true)], args := [d1, d2] }
  | _ => none }
def fnExactOddDaysRow : OpenClaim := { program := "ytmhmfoeibgdjcaa", sum := "c892ce45319b3b2d4d1b9cd425a3c53e2b040e4af7d177b268da597b2687779b", func := "loop.example/g01057/laws.FnExactOddDays", spec := "fnExactOddDays", unfollowed := true, recurses := true, apart := false }
def FnExactOddDaysSaid : Prop := fnExactOddDaysRow.holds Try.pinned (OpenSpec.ofChange fnExactOddDaysSpec)

/-- ITS FALSE NEIGHBOUR: 'it returns false'. Refute it at one input. -/
def fnExactOddDaysWrong : ChangeSpec := { name := "fnExactOddDays", fn := fun _ => fun
  | [d1, d2] => { results := [.lit (.bool false)], args := [d1, d2] }
  | _ => none }
def FnExactOddDaysWrongFalsely : Prop := fnExactOddDaysRow.holds Try.pinned (OpenSpec.ofChange fnExactOddDaysWrong)

/-- 'laws.FnExactTopDays': WHATEVER THE INPUT: true; the input reads as it did. -/
def fnExactTopDaysSpec : ChangeSpec := { name := "fnExactTopDays", fn := fun _ => fun
  | [d1, d2] => { results := [.lit (.bool true)], args := [d1, d2] }
  | _ => none }
def fnExactTopDaysRow : OpenClaim := { program := "ytmhmfoeibgdjcaa", sum := "c892ce45319b3b2d4d1b9cd425a3c53e2b040e4af7d177b268da597b2687779b", func := "loop.example/g01057/laws.FnExactTopDays", spec := "fnExactTopDays", unfollowed := true, recurses := true, apart := false }
def FnExactTopDaysSaid : Prop := fnExactTopDaysRow.holds Try.pinned (OpenSpec.ofChange fnExactTopDaysSpec)

/-- ITS FALSE NEIGHBOUR: 'it returns false'. Refute it at one input. -/
def fnExactTopDaysWrong : ChangeSpec := { name := "fnExactTopDays", fn := fun _ => fun
  | [d1, d2] => { results := [.lit (.bool false)], args := [d1, d2] }
  | _ => none }
def FnExactTopDaysWrongFalsely : Prop := fnExactTopDaysRow.holds Try.pinned (OpenSpec.ofChange fnExactTopDaysWrong)

/-- 'laws.FnTrends': WHATEVER THE INPUT: true; the input reads as it did. -/
def fnTrendsSpec : ChangeSpec := { name := "fnTrends", fn := fun _ => fun
  | [d1, d2] => { results := [.lit (.bool true)], args := [d1, d2] }
  | _ => none }
def fnTrendsRow : OpenClaim := { program := "ytmhmfoeibgdjcaa", sum := "c892ce45319b3b2d4d1b9cd425a3c53e2b040e4af7d177b268da597b2687779b", func := "loop.example/g01057/laws.FnTrends", spec := "fnTrends", unfollowed := true, recurses := true, apart := false }
def FnTrendsSaid : Prop := fnTrendsRow.holds Try.pinned (OpenSpec.ofChange fnTrendsSpec)

/-- ITS FALSE NEIGHBOUR: 'it returns false'. Refute it at one input. -/
def fnTrendsWrong : ChangeSpec := { name := "fnTrends", fn := fun _ => fun
  | [d1, d2] => { results := [.lit (.bool false)], args := [d1, d2] }
  | _ => none }
def FnTrendsWrongFalsely : Prop := fnTrendsRow.holds Try.pinned (OpenSpec.ofChange fnTrendsWrong)

/- THE SECOND FORM. 'bulk': how many values and letters a reading holds, each counted each time it is reached (what is shared counts as often as it is met; a slice's spare places count too). A statement '..UptoSaid' is the law's where the arguments, and the package variables that the reading takes, are together of bulk at most 1048576: NARROWER than '..Said'. Prove '..Said' where nothing that the law and all that it calls make is longer than what came in: it says more and counts as full. Else prove '..UptoSaid'. A law counts once. -/
mutual
def uptoBulk {H : Type} : DataW H → Nat
  | .lit (.string bytes) => bytes.length + 1
  | .lit _ => 1
  | .nil => 1
  | .ptr d => uptoBulk d + 1
  | .slice elems spare => uptoBulkAll elems + uptoBulkAll spare + 1
  | .agg parts => uptoBulkAll parts + 1
  | .iface _ d => uptoBulk d + 1
  | .map entries => uptoBulkEntries entries + 1
  | .held _ => 1
def uptoBulkAll {H : Type} : List (DataW H) → Nat
  | [] => 0
  | d :: r => uptoBulk d + uptoBulkAll r
def uptoBulkEntries {H : Type} : List (Lit × DataW H) → Nat
  | [] => 0
  | x :: r => uptoBulkEntry x + uptoBulkEntries r
def uptoBulkEntry {H : Type} : Lit × DataW H → Nat
  | (.string bytes, d) => bytes.length + uptoBulk d + 1
  | (_, d) => uptoBulk d + 1
 end
def uptoSmall : (H : Type) → List (DataW H) → Bool := fun _ ds => decide (uptoBulkAll ds ≤ 1048576)
def OpenSpec.upto (s : _root_.Go.ChangeSpec) : _root_.Go.OpenSpec := { _root_.Go.OpenSpec.ofChange s with cond := some uptoSmall }

/-- 'laws.FnExactSameSigns', WHERE WHAT IT READS IS OF BULK AT MOST 1048576: true; the input reads as it did. -/
def fnExactSameSignsUptoRow : OpenClaim := { program := "ytmhmfoeibgdjcaa", sum := "c892ce45319b3b2d4d1b9cd425a3c53e2b040e4af7d177b268da597b2687779b", func := "loop.example/g01057/laws.FnExactSameSigns", spec := "fnExactSameSigns", unfollowed := true, recurses := true, apart := false, narrowed := true }
def FnExactSameSignsUptoSaid : Prop := fnExactSameSignsUptoRow.holds Try.pinned (OpenSpec.upto fnExactSameSignsSpec)

/-- 'laws.FnExactTrendOf', WHERE WHAT IT READS IS OF BULK AT MOST 1048576: true; the input reads as it did. -/
def fnExactTrendOfUptoRow : OpenClaim := { program := "ytmhmfoeibgdjcaa", sum := "c892ce45319b3b2d4d1b9cd425a3c53e2b040e4af7d177b268da597b2687779b", func := "loop.example/g01057/laws.FnExactTrendOf", spec := "fnExactTrendOf", unfollowed := true, recurses := true, apart := false, narrowed := true }
def FnExactTrendOfUptoSaid : Prop := fnExactTrendOfUptoRow.holds Try.pinned (OpenSpec.upto fnExactTrendOfSpec)

/-- 'laws.FnExactHistogram', WHERE WHAT IT READS IS OF BULK AT MOST 1048576: true; the input reads as it did. -/
def fnExactHistogramUptoRow : OpenClaim := { program := "ytmhmfoeibgdjcaa", sum := "c892ce45319b3b2d4d1b9cd425a3c53e2b040e4af7d177b268da597b2687779b", func := "loop.example/g01057/laws.FnExactHistogram", spec := "fnExactHistogram", unfollowed := true, recurses := true, apart := false, narrowed := true }
def FnExactHistogramUptoSaid : Prop := fnExactHistogramUptoRow.holds Try.pinned (OpenSpec.upto fnExactHistogramSpec)

/-- 'laws.FnExactMovingMeans', WHERE WHAT IT READS IS OF BULK AT MOST 1048576: true; the input reads as it did. -/
def fnExactMovingMeansUptoRow : OpenClaim := { program := "ytmhmfoeibgdjcaa", sum := "c892ce45319b3b2d4d1b9cd425a3c53e2b040e4af7d177b268da597b2687779b", func := "loop.example/g01057/laws.FnExactMovingMeans", spec := "fnExactMovingMeans", unfollowed := true, recurses := true, apart := false, narrowed := true }
def FnExactMovingMeansUptoSaid : Prop := fnExactMovingMeansUptoRow.holds Try.pinned (OpenSpec.upto fnExactMovingMeansSpec)

/-- 'laws.FnExactWeekMeans', WHERE WHAT IT READS IS OF BULK AT MOST 1048576: true; the input reads as it did. -/
def fnExactWeekMeansUptoRow : OpenClaim := { program := "ytmhmfoeibgdjcaa", sum := "c892ce45319b3b2d4d1b9cd425a3c53e2b040e4af7d177b268da597b2687779b", func := "loop.example/g01057/laws.FnExactWeekMeans", spec := "fnExactWeekMeans", unfollowed := true, recurses := true, apart := false, narrowed := true }
def FnExactWeekMeansUptoSaid : Prop := fnExactWeekMeansUptoRow.holds Try.pinned (OpenSpec.upto fnExactWeekMeansSpec)

/-- 'laws.FnExactFillGaps', WHERE WHAT IT READS IS OF BULK AT MOST 1048576: true; the input reads as it did. -/
def fnExactFillGapsUptoRow : OpenClaim := { program := "ytmhmfoeibgdjcaa", sum := "c892ce45319b3b2d4d1b9cd425a3c53e2b040e4af7d177b268da597b2687779b", func := "loop.example/g01057/laws.FnExactFillGaps", spec := "fnExactFillGaps", unfollowed := true, recurses := true, apart := false, narrowed := true }
def FnExactFillGapsUptoSaid : Prop := fnExactFillGapsUptoRow.holds Try.pinned (OpenSpec.upto fnExactFillGapsSpec)

/-- 'laws.FnExactMedianOf', WHERE WHAT IT READS IS OF BULK AT MOST 1048576: true; the input reads as it did. -/
def fnExactMedianOfUptoRow : OpenClaim := { program := "ytmhmfoeibgdjcaa", sum := "c892ce45319b3b2d4d1b9cd425a3c53e2b040e4af7d177b268da597b2687779b", func := "loop.example/g01057/laws.FnExactMedianOf", spec := "fnExactMedianOf", unfollowed := true, recurses := true, apart := false, narrowed := true }
def FnExactMedianOfUptoSaid : Prop := fnExactMedianOfUptoRow.holds Try.pinned (OpenSpec.upto fnExactMedianOfSpec)

/-- 'laws.FnExactOddDays', WHERE WHAT IT READS IS OF BULK AT MOST 1048576: true; the input reads as it did. -/
def fnExactOddDaysUptoRow : OpenClaim := { program := "ytmhmfoeibgdjcaa", sum := "c892ce45319b3b2d4d1b9cd425a3c53e2b040e4af7d177b268da597b2687779b", func := "loop.example/g01057/laws.FnExactOddDays", spec := "fnExactOddDays", unfollowed := true, recurses := true, apart := false, narrowed := true }
def FnExactOddDaysUptoSaid : Prop := fnExactOddDaysUptoRow.holds Try.pinned (OpenSpec.upto fnExactOddDaysSpec)

/-- 'laws.FnExactTopDays', WHERE WHAT IT READS IS OF BULK AT MOST 1048576: true; the input reads as it did. -/
def fnExactTopDaysUptoRow : OpenClaim := { program := "ytmhmfoeibgdjcaa", sum := "c892ce45319b3b2d4d1b9cd425a3c53e2b040e4af7d177b268da597b2687779b", func := "loop.example/g01057/laws.FnExactTopDays", spec := "fnExactTopDays", unfollowed := true, recurses := true, apart := false, narrowed := true }
def FnExactTopDaysUptoSaid : Prop := fnExactTopDaysUptoRow.holds Try.pinned (OpenSpec.upto fnExactTopDaysSpec)

/-- 'laws.FnTrends', WHERE WHAT IT READS IS OF BULK AT MOST 1048576: true; the input reads as it did. -/
def fnTrendsUptoRow : OpenClaim := { program := "ytmhmfoeibgdjcaa", sum := "c892ce45319b3b2d4d1b9cd425a3c53e2b040e4af7d177b268da597b2687779b", func := "loop.example/g01057/laws.FnTrends", spec := "fnTrends", unfollowed := true, recurses := true, apart := false, narrowed := true }
def FnTrendsUptoSaid : Prop := fnTrendsUptoRow.holds Try.pinned (OpenSpec.upto fnTrendsSpec)

end Rows
end Go.Proofs.Ytmhmfoeibgdjcaa
