/-
  No cell of these rows narrows 'for every input' (looked for: loops, veiled, ifaces, maps, wideKeys, modest, calm, conditions, laid).
  DERIVED. THE GIVEN ROWS OF THIS SEAT. 12 by the template 'for every input the law returns true; each argument reads behind the call as it read before'; 0 by the template 'total and deterministic' (their statements: YtldhhbnochlmlaaTotals.lean).
  GIVEN WITH THE SEED: the statements are not yours to turn. If you find one false, say at which input.
  Laid BY PROGRAM, IN A SANDBOX (cutbox-rows.mjs): the forced cells as the released guide's own fill.sh prints them over the translation d036dbf9d6280ac0… (all of the seat's roots in one cut). By AI agents, Wed Nov 11 2026. No macro, syntax, notation, axiom, sorry.
-/
import Derived.Test.YtldhhbnochlmlaaChecked
import GoSem.Claim
import GoSem.ClaimJoined
import GoSem.ClaimMapViews
import Derived.JoinedTies
import Derived.KernelRfl
namespace Go.Proofs.Ytldhhbnochlmlaa
/- THE CELL 'sum', in the pinned program and in every row, IS THE sha256 OF THE DUMP (.gsa) THAT YtldhhbnochlmlaaProg.lean LOADS. Nothing in Lean hashes anything: it is a label: what it is worth is what the hold of that sum in a sandbox is worth. -/
noncomputable def Try.pinned : Pinned := { name := "ytldhhbnochlmlaa", sum := "d036dbf9d6280ac03eccf99eb405c118de864f5761149af00c8478f35b157701", checked := Try.checked }
namespace Rows
def none {H : Type} : Left H := { results := [], args := [] }

/-- 'laws.FnExactStrokesNeeded': WHATEVER THE INPUT: true; the input reads as it did. -/
def fnExactStrokesNeededSpec : ChangeSpec := { name := "fnExactStrokesNeeded", fn := fun _ => fun
  | [d1, d2, d3, d4] => { results := [.lit (.bool true)], args := [d1, d2, d3, d4] }
  | _ => none }
def fnExactStrokesNeededRow : OpenClaim := { program := "ytldhhbnochlmlaa", sum := "d036dbf9d6280ac03eccf99eb405c118de864f5761149af00c8478f35b157701", func := "loop.example/g01045/laws.FnExactStrokesNeeded", spec := "fnExactStrokesNeeded", apart := false }
def FnExactStrokesNeededSaid : Prop := fnExactStrokesNeededRow.holds Try.pinned (OpenSpec.ofChange fnExactStrokesNeededSpec)

/-- ITS FALSE NEIGHBOUR: 'it returns false'. Refute it at one input. -/
def fnExactStrokesNeededWrong : ChangeSpec := { name := "fnExactStrokesNeeded", fn := fun _ => fun
  | [d1, d2, d3, d4] => { results := [.lit (.bool false)], args := [d1, d2, d3, d4] }
  | _ => none }
def FnExactStrokesNeededWrongFalsely : Prop := fnExactStrokesNeededRow.holds Try.pinned (OpenSpec.ofChange fnExactStrokesNeededWrong)

/-- 'laws.FnExactPassesTest': WHATEVER THE INPUT: true; the input reads as it did. -/
def fnExactPassesTestSpec : ChangeSpec := { name := "fnExactPassesTest", fn := fun _ => fun
  | [d1, d2, d3, d4] => { results := [.lit (.bool true)], args := [d1, d2, d3, d4] }
  | _ => none }
def fnExactPassesTestRow : OpenClaim := { program := "ytldhhbnochlmlaa", sum := "d036dbf9d6280ac03eccf99eb405c118de864f5761149af00c8478f35b157701", func := "loop.example/g01045/laws.FnExactPassesTest", spec := "fnExactPassesTest", apart := false }
def FnExactPassesTestSaid : Prop := fnExactPassesTestRow.holds Try.pinned (OpenSpec.ofChange fnExactPassesTestSpec)

/-- ITS FALSE NEIGHBOUR: 'it returns false'. Refute it at one input. -/
def fnExactPassesTestWrong : ChangeSpec := { name := "fnExactPassesTest", fn := fun _ => fun
  | [d1, d2, d3, d4] => { results := [.lit (.bool false)], args := [d1, d2, d3, d4] }
  | _ => none }
def FnExactPassesTestWrongFalsely : Prop := fnExactPassesTestRow.holds Try.pinned (OpenSpec.ofChange fnExactPassesTestWrong)

/-- 'laws.FnExactNetStrokes': WHATEVER THE INPUT: true; the input reads as it did. -/
def fnExactNetStrokesSpec : ChangeSpec := { name := "fnExactNetStrokes", fn := fun _ => fun
  | [d1, d2] => { results := [.lit (.bool true)], args := [d1, d2] }
  | _ => none }
def fnExactNetStrokesRow : OpenClaim := { program := "ytldhhbnochlmlaa", sum := "d036dbf9d6280ac03eccf99eb405c118de864f5761149af00c8478f35b157701", func := "loop.example/g01045/laws.FnExactNetStrokes", spec := "fnExactNetStrokes", apart := false }
def FnExactNetStrokesSaid : Prop := fnExactNetStrokesRow.holds Try.pinned (OpenSpec.ofChange fnExactNetStrokesSpec)

/-- ITS FALSE NEIGHBOUR: 'it returns false'. Refute it at one input. -/
def fnExactNetStrokesWrong : ChangeSpec := { name := "fnExactNetStrokes", fn := fun _ => fun
  | [d1, d2] => { results := [.lit (.bool false)], args := [d1, d2] }
  | _ => none }
def FnExactNetStrokesWrongFalsely : Prop := fnExactNetStrokesRow.holds Try.pinned (OpenSpec.ofChange fnExactNetStrokesWrong)

/-- 'laws.FnExactSameTrials': WHATEVER THE INPUT: true; the input reads as it did. -/
def fnExactSameTrialsSpec : ChangeSpec := { name := "fnExactSameTrials", fn := fun _ => fun
  | [d1, d2] => { results := [.lit (.bool true)], args := [d1, d2] }
  | _ => none }
def fnExactSameTrialsRow : OpenClaim := { program := "ytldhhbnochlmlaa", sum := "d036dbf9d6280ac03eccf99eb405c118de864f5761149af00c8478f35b157701", func := "loop.example/g01045/laws.FnExactSameTrials", spec := "fnExactSameTrials", apart := false }
def FnExactSameTrialsSaid : Prop := fnExactSameTrialsRow.holds Try.pinned (OpenSpec.ofChange fnExactSameTrialsSpec)

/-- ITS FALSE NEIGHBOUR: 'it returns false'. Refute it at one input. -/
def fnExactSameTrialsWrong : ChangeSpec := { name := "fnExactSameTrials", fn := fun _ => fun
  | [d1, d2] => { results := [.lit (.bool false)], args := [d1, d2] }
  | _ => none }
def FnExactSameTrialsWrongFalsely : Prop := fnExactSameTrialsRow.holds Try.pinned (OpenSpec.ofChange fnExactSameTrialsWrong)

/-- 'laws.FnExactValidTrials': WHATEVER THE INPUT: true; the input reads as it did. -/
def fnExactValidTrialsSpec : ChangeSpec := { name := "fnExactValidTrials", fn := fun _ => fun
  | [d] => { results := [.lit (.bool true)], args := [d] }
  | _ => none }
def fnExactValidTrialsRow : OpenClaim := { program := "ytldhhbnochlmlaa", sum := "d036dbf9d6280ac03eccf99eb405c118de864f5761149af00c8478f35b157701", func := "loop.example/g01045/laws.FnExactValidTrials", spec := "fnExactValidTrials", apart := false }
def FnExactValidTrialsSaid : Prop := fnExactValidTrialsRow.holds Try.pinned (OpenSpec.ofChange fnExactValidTrialsSpec)

/-- ITS FALSE NEIGHBOUR: 'it returns false'. Refute it at one input. -/
def fnExactValidTrialsWrong : ChangeSpec := { name := "fnExactValidTrials", fn := fun _ => fun
  | [d] => { results := [.lit (.bool false)], args := [d] }
  | _ => none }
def FnExactValidTrialsWrongFalsely : Prop := fnExactValidTrialsRow.holds Try.pinned (OpenSpec.ofChange fnExactValidTrialsWrong)

/-- 'laws.FnExactErrorShare': WHATEVER THE INPUT: true; the input reads as it did. -/
def fnExactErrorShareSpec : ChangeSpec := { name := "fnExactErrorShare", fn := fun _ => fun
  | [d] => { results := [.lit (.bool true)], args := [d] }
  | _ => none }
def fnExactErrorShareRow : OpenClaim := { program := "ytldhhbnochlmlaa", sum := "d036dbf9d6280ac03eccf99eb405c118de864f5761149af00c8478f35b157701", func := "loop.example/g01045/laws.FnExactErrorShare", spec := "fnExactErrorShare", apart := false }
def FnExactErrorShareSaid : Prop := fnExactErrorShareRow.holds Try.pinned (OpenSpec.ofChange fnExactErrorShareSpec)

/-- ITS FALSE NEIGHBOUR: 'it returns false'. Refute it at one input. -/
def fnExactErrorShareWrong : ChangeSpec := { name := "fnExactErrorShare", fn := fun _ => fun
  | [d] => { results := [.lit (.bool false)], args := [d] }
  | _ => none }
def FnExactErrorShareWrongFalsely : Prop := fnExactErrorShareRow.holds Try.pinned (OpenSpec.ofChange fnExactErrorShareWrong)

/-- 'laws.FnExactStrokesPerMinute': WHATEVER THE INPUT: true; the input reads as it did. -/
def fnExactStrokesPerMinuteSpec : ChangeSpec := { name := "fnExactStrokesPerMinute", fn := fun _ => fun
  | [d1, d2] => { results := [.lit (.bool true)], args := [d1, d2] }
  | _ => none }
def fnExactStrokesPerMinuteRow : OpenClaim := { program := "ytldhhbnochlmlaa", sum := "d036dbf9d6280ac03eccf99eb405c118de864f5761149af00c8478f35b157701", func := "loop.example/g01045/laws.FnExactStrokesPerMinute", spec := "fnExactStrokesPerMinute", apart := false }
def FnExactStrokesPerMinuteSaid : Prop := fnExactStrokesPerMinuteRow.holds Try.pinned (OpenSpec.ofChange fnExactStrokesPerMinuteSpec)

/-- ITS FALSE NEIGHBOUR: 'it returns false'. Refute it at one input. -/
def fnExactStrokesPerMinuteWrong : ChangeSpec := { name := "fnExactStrokesPerMinute", fn := fun _ => fun
  | [d1, d2] => { results := [.lit (.bool false)], args := [d1, d2] }
  | _ => none }
def FnExactStrokesPerMinuteWrongFalsely : Prop := fnExactStrokesPerMinuteRow.holds Try.pinned (OpenSpec.ofChange fnExactStrokesPerMinuteWrong)

/-- 'laws.FnExactWordsPerMinute': WHATEVER THE INPUT: true; the input reads as it did. -/
def fnExactWordsPerMinuteSpec : ChangeSpec := { name := "fnExactWordsPerMinute", fn := fun _ => fun
  | [d1, d2] => { results := [.lit (.bool true)], args := [d1, d2] }
  | _ => none }
def fnExactWordsPerMinuteRow : OpenClaim := { program := "ytldhhbnochlmlaa", sum := "d036dbf9d6280ac03eccf99eb405c118de864f5761149af00c8478f35b157701", func := "loop.example/g01045/laws.FnExactWordsPerMinute", spec := "fnExactWordsPerMinute", apart := false }
def FnExactWordsPerMinuteSaid : Prop := fnExactWordsPerMinuteRow.holds Try.pinned (OpenSpec.ofChange fnExactWordsPerMinuteSpec)

/-- ITS FALSE NEIGHBOUR: 'it returns false'. Refute it at one input. -/
def fnExactWordsPerMinuteWrong : ChangeSpec := { name := "fnExactWordsPerMinute", fn := fun _ => fun
  | [d1, d2] => { results := [.lit (.bool false)], args := [d1, d2] }
  | _ => none }
def FnExactWordsPerMinuteWrongFalsely : Prop := fnExactWordsPerMinuteRow.holds Try.pinned (OpenSpec.ofChange fnExactWordsPerMinuteWrong)

/-- 'laws.FnExactFastestTrial': WHATEVER THE INPUT: true; the input reads as it did. -/
def fnExactFastestTrialSpec : ChangeSpec := { name := "fnExactFastestTrial", fn := fun _ => fun
  | [d1, d2] => { results := [.lit (.bool true)], args := [d1, d2] }
  | _ => none }
def fnExactFastestTrialRow : OpenClaim := { program := "ytldhhbnochlmlaa", sum := "d036dbf9d6280ac03eccf99eb405c118de864f5761149af00c8478f35b157701", func := "loop.example/g01045/laws.FnExactFastestTrial", spec := "fnExactFastestTrial", apart := false }
def FnExactFastestTrialSaid : Prop := fnExactFastestTrialRow.holds Try.pinned (OpenSpec.ofChange fnExactFastestTrialSpec)

/-- ITS FALSE NEIGHBOUR: 'it returns false'. Refute it at one input. -/
def fnExactFastestTrialWrong : ChangeSpec := { name := "fnExactFastestTrial", fn := fun _ => fun
  | [d1, d2] => { results := [.lit (.bool false)], args := [d1, d2] }
  | _ => none }
def FnExactFastestTrialWrongFalsely : Prop := fnExactFastestTrialRow.holds Try.pinned (OpenSpec.ofChange fnExactFastestTrialWrong)

/-- 'laws.FnExactLongestRise': WHATEVER THE INPUT: true; the input reads as it did. -/
def fnExactLongestRiseSpec : ChangeSpec := { name := "fnExactLongestRise", fn := fun _ => fun
  | [d1, d2] => { results := [.lit (.bool true)], args := [d1, d2] }
  | _ => none }
def fnExactLongestRiseRow : OpenClaim := { program := "ytldhhbnochlmlaa", sum := "d036dbf9d6280ac03eccf99eb405c118de864f5761149af00c8478f35b157701", func := "loop.example/g01045/laws.FnExactLongestRise", spec := "fnExactLongestRise", apart := false }
def FnExactLongestRiseSaid : Prop := fnExactLongestRiseRow.holds Try.pinned (OpenSpec.ofChange fnExactLongestRiseSpec)

/-- ITS FALSE NEIGHBOUR: 'it returns false'. Refute it at one input. -/
def fnExactLongestRiseWrong : ChangeSpec := { name := "fnExactLongestRise", fn := fun _ => fun
  | [d1, d2] => { results := [.lit (.bool false)], args := [d1, d2] }
  | _ => none }
def FnExactLongestRiseWrongFalsely : Prop := fnExactLongestRiseRow.holds Try.pinned (OpenSpec.ofChange fnExactLongestRiseWrong)

/-- 'laws.FnExactRecordsOf': WHATEVER THE INPUT: true; the input reads as it did. -/
def fnExactRecordsOfSpec : ChangeSpec := { name := "fnExactRecordsOf", fn := fun _ => fun
  | [d1, d2] => { results := [.lit (.bool true)], args := [d1, d2] }
  | _ => none }
def fnExactRecordsOfRow : OpenClaim := { program := "ytldhhbnochlmlaa", sum := "d036dbf9d6280ac03eccf99eb405c118de864f5761149af00c8478f35b157701", func := "loop.example/g01045/laws.FnExactRecordsOf", spec := "fnExactRecordsOf", apart := false }
def FnExactRecordsOfSaid : Prop := fnExactRecordsOfRow.holds Try.pinned (OpenSpec.ofChange fnExactRecordsOfSpec)

/-- ITS FALSE NEIGHBOUR: 'it returns false'. Refute it at one input. -/
def fnExactRecordsOfWrong : ChangeSpec := { name := "fnExactRecordsOf", fn := fun _ => fun
  | [d1, d2] => { results := [.lit (.bool false)], args := [d1, d2] }
  | _ => none }
def FnExactRecordsOfWrongFalsely : Prop := fnExactRecordsOfRow.holds Try.pinned (OpenSpec.ofChange fnExactRecordsOfWrong)

/-- 'laws.FnExactMedianTrial': WHATEVER THE INPUT: true; the input reads as it did. -/
def fnExactMedianTrialSpec : ChangeSpec := { name := "fnExactMedianTrial", fn := fun _ => fun
  | [d1, d2] => { results := [.lit (.bool true)], args := [d1, d2] }
  | _ => none }
def fnExactMedianTrialRow : OpenClaim := { program := "ytldhhbnochlmlaa", sum := "d036dbf9d6280ac03eccf99eb405c118de864f5761149af00c8478f35b157701", func := "loop.example/g01045/laws.FnExactMedianTrial", spec := "fnExactMedianTrial", inPlace := ["internal/reflectlite.ValueOf", "internal/reflectlite.Swapper", "(internal/reflectlite.Value).Len"], unfollowed := true, recurses := true, apart := false }
def FnExactMedianTrialSaid : Prop := fnExactMedianTrialRow.holds Try.pinned (OpenSpec.ofChange fnExactMedianTrialSpec)

/-- ITS FALSE NEIGHBOUR: 'it returns false'. Refute it at one input. -/
def fnExactMedianTrialWrong : ChangeSpec := { name := "fnExactMedianTrial", fn := fun _ => fun
  | [d1, d2] => { results := [.lit (.bool false)], args := [d1, d2] }
  | _ => none }
def FnExactMedianTrialWrongFalsely : Prop := fnExactMedianTrialRow.holds Try.pinned (OpenSpec.ofChange fnExactMedianTrialWrong)

/- THE SECOND FORM. 'bulk': how many values and letters a reading holds, each counted each time it is reached (what is shared counts as often as it is met; a slice's spare places count too). A statement '..UptoSaid' is the law's where the arguments, and the package variables that the reading takes, are together of bulk at most 1048576: NARROWER than '..Said'. Prove '..Said' where nothing that the law and all that it calls make is longer than what came in: it says more and counts as full. Else prove '..UptoSaid'. A law counts once. -/
mutual
def uptoBulk {H : Type} : DataW H → Nat
  | .lit (.string bytes) => bytes.length + 1
  | .lit _ => 1
  | .nil => 1
  | .ptr d => uptoBulk d + 1
  | .slice elems spare => uptoBulkAll elems + uptoBulkAll spare + 1
  | .agg parts => uptoBulkAll parts + 1
  | .iface _ d => uptoBulk d + 1
  | .map entries => uptoBulkEntries entries + 1
  | .held _ => 1
def uptoBulkAll {H : Type} : List (DataW H) → Nat
  | [] => 0
  | d :: r => uptoBulk d + uptoBulkAll r
def uptoBulkEntries {H : Type} : List (Lit × DataW H) → Nat
  | [] => 0
  | x :: r => uptoBulkEntry x + uptoBulkEntries r
def uptoBulkEntry {H : Type} : Lit × DataW H → Nat
  | (.string bytes, d) => bytes.length + uptoBulk d + 1
  | (_, d) => uptoBulk d + 1
 end
def uptoSmall : (H : Type) → List (DataW H) → Bool := fun _ ds => decide (uptoBulkAll ds ≤ 1048576)
def OpenSpec.upto (s : _root_.Go.ChangeSpec) : _root_.Go.OpenSpec := { _root_.Go.OpenSpec.ofChange s with cond := some uptoSmall }

/-- 'laws.FnExactStrokesNeeded', WHERE WHAT IT READS IS OF BULK AT MOST 1048576: true; the input reads as it did. -/
def fnExactStrokesNeededUptoRow : OpenClaim := { program := "ytldhhbnochlmlaa", sum := "d036dbf9d6280ac03eccf99eb405c118de864f5761149af00c8478f35b157701", func := "loop.example/g01045/laws.FnExactStrokesNeeded", spec := "fnExactStrokesNeeded", apart := false, narrowed := true }
def FnExactStrokesNeededUptoSaid : Prop := fnExactStrokesNeededUptoRow.holds Try.pinned (OpenSpec.upto fnExactStrokesNeededSpec)

/-- 'laws.FnExactPassesTest', WHERE WHAT IT READS IS OF BULK AT MOST 1048576: true; the input reads as it did. -/
def fnExactPassesTestUptoRow : OpenClaim := { program := "ytldhhbnochlmlaa", sum := "d036dbf9d6280ac03eccf99eb405c118de864f5761149af00c8478f35b157701", func := "loop.example/g01045/laws.FnExactPassesTest", spec := "fnExactPassesTest", apart := false, narrowed := true }
def FnExactPassesTestUptoSaid : Prop := fnExactPassesTestUptoRow.holds Try.pinned (OpenSpec.upto fnExactPassesTestSpec)

/-- 'laws.FnExactNetStrokes', WHERE WHAT IT READS IS OF BULK AT MOST 1048576: true; the input reads as it did. -/
def fnExactNetStrokesUptoRow : OpenClaim := { program := "ytldhhbnochlmlaa", sum := "d036dbf9d6280ac03eccf99eb405c118de864f5761149af00c8478f35b157701", func := "loop.example/g01045/laws.FnExactNetStrokes", spec := "fnExactNetStrokes", apart := false, narrowed := true }
def FnExactNetStrokesUptoSaid : Prop := fnExactNetStrokesUptoRow.holds Try.pinned (OpenSpec.upto fnExactNetStrokesSpec)

/-- 'laws.FnExactSameTrials', WHERE WHAT IT READS IS OF BULK AT MOST 1048576: true; the input reads as it did. -/
def fnExactSameTrialsUptoRow : OpenClaim := { program := "ytldhhbnochlmlaa", sum := "d036dbf9d6280ac03eccf99eb405c118de864f5761149af00c8478f35b157701", func := "loop.example/g01045/laws.FnExactSameTrials", spec := "fnExactSameTrials", apart := false, narrowed := true }
def FnExactSameTrialsUptoSaid : Prop := fnExactSameTrialsUptoRow.holds Try.pinned (OpenSpec.upto fnExactSameTrialsSpec)

/-- 'laws.FnExactValidTrials', WHERE WHAT IT READS IS OF BULK AT MOST 1048576: true; the input reads as it did. -/
def fnExactValidTrialsUptoRow : OpenClaim := { program := "ytldhhbnochlmlaa", sum := "d036dbf9d6280ac03eccf99eb405c118de864f5761149af00c8478f35b157701", func := "loop.example/g01045/laws.FnExactValidTrials", spec := "fnExactValidTrials", apart := false, narrowed := true }
def FnExactValidTrialsUptoSaid : Prop := fnExactValidTrialsUptoRow.holds Try.pinned (OpenSpec.upto fnExactValidTrialsSpec)

/-- 'laws.FnExactErrorShare', WHERE WHAT IT READS IS OF BULK AT MOST 1048576: true; the input reads as it did. -/
def fnExactErrorShareUptoRow : OpenClaim := { program := "ytldhhbnochlmlaa", sum := "d036dbf9d6280ac03eccf99eb405c118de864f5761149af00c8478f35b157701", func := "loop.example/g01045/laws.FnExactErrorShare", spec := "fnExactErrorShare", apart := false, narrowed := true }
def FnExactErrorShareUptoSaid : Prop := fnExactErrorShareUptoRow.holds Try.pinned (OpenSpec.upto fnExactErrorShareSpec)

/-- 'laws.FnExactStrokesPerMinute', WHERE WHAT IT READS IS OF BULK AT MOST 1048576: true; the input reads as it did. -/
def fnExactStrokesPerMinuteUptoRow : OpenClaim := { program := "ytldhhbnochlmlaa", sum := "d036dbf9d6280ac03eccf99eb405c118de864f5761149af00c8478f35b157701", func := "loop.example/g01045/laws.FnExactStrokesPerMinute", spec := "fnExactStrokesPerMinute", apart := false, narrowed := true }
def FnExactStrokesPerMinuteUptoSaid : Prop := fnExactStrokesPerMinuteUptoRow.holds Try.pinned (OpenSpec.upto fnExactStrokesPerMinuteSpec)

/-- 'laws.FnExactWordsPerMinute', WHERE WHAT IT READS IS OF BULK AT MOST 1048576: true; the input reads as it did. -/
def fnExactWordsPerMinuteUptoRow : OpenClaim := { program := "ytldhhbnochlmlaa", sum := "d036dbf9d6280ac03eccf99eb405c118de864f5761149af00c8478f35b157701", func := "loop.example/g01045/laws.FnExactWordsPerMinute", spec := "fnExactWordsPerMinute", apart := false, narrowed := true }
def FnExactWordsPerMinuteUptoSaid : Prop := fnExactWordsPerMinuteUptoRow.holds Try.pinned (OpenSpec.upto fnExactWordsPerMinuteSpec)

/-- 'laws.FnExactFastestTrial', WHERE WHAT IT READS IS OF BULK AT MOST 1048576: true; the input reads as it did. -/
def fnExactFastestTrialUptoRow : OpenClaim := { program := "ytldhhbnochlmlaa", sum := "d036dbf9d6280ac03eccf99eb405c118de864f5761149af00c8478f35b157701", func := "loop.example/g01045/laws.FnExactFastestTrial", spec := "fnExactFastestTrial", apart := false, narrowed := true }
def FnExactFastestTrialUptoSaid : Prop := fnExactFastestTrialUptoRow.holds Try.pinned (OpenSpec.upto fnExactFastestTrialSpec)

/-- 'laws.FnExactLongestRise', WHERE WHAT IT READS IS OF BULK AT MOST 1048576: true; the input reads as it did. -/
def fnExactLongestRiseUptoRow : OpenClaim := { program := "ytldhhbnochlmlaa", sum := "d036dbf9d6280ac03eccf99eb405c118de864f5761149af00c8478f35b157701", func := "loop.example/g01045/laws.FnExactLongestRise", spec := "fnExactLongestRise", apart := false, narrowed := true }
def FnExactLongestRiseUptoSaid : Prop := fnExactLongestRiseUptoRow.holds Try.pinned (OpenSpec.upto fnExactLongestRiseSpec)

/-- 'laws.FnExactRecordsOf', WHERE WHAT IT READS IS OF BULK AT MOST 1048576: true; the input reads as it did. -/
def fnExactRecordsOfUptoRow : OpenClaim := { program := "ytldhhbnochlmlaa", sum := "d036dbf9d6280ac03eccf99eb405c118de864f5761149af00c8478f35b157701", func := "loop.example/g01045/laws.FnExactRecordsOf", spec := "fnExactRecordsOf", apart := false, narrowed := true }
def FnExactRecordsOfUptoSaid : Prop := fnExactRecordsOfUptoRow.holds Try.pinned (OpenSpec.upto fnExactRecordsOfSpec)

/-- 'laws.FnExactMedianTrial', WHERE WHAT IT READS IS OF BULK AT MOST 1048576: true; the input reads as it did. -/
def fnExactMedianTrialUptoRow : OpenClaim := { program := "ytldhhbnochlmlaa", sum := "d036dbf9d6280ac03eccf99eb405c118de864f5761149af00c8478f35b157701", func := "loop.example/g01045/laws.FnExactMedianTrial", spec := "fnExactMedianTrial", inPlace := ["internal/reflectlite.ValueOf", "internal/reflectlite.Swapper", "(internal/reflectlite.Value).Len"], unfollowed := true, recurses := true, apart := false, narrowed := true }
def FnExactMedianTrialUptoSaid : Prop := fnExactMedianTrialUptoRow.holds Try.pinned (OpenSpec.upto fnExactMedianTrialSpec)

end Rows
end Go.Proofs.Ytldhhbnochlmlaa
