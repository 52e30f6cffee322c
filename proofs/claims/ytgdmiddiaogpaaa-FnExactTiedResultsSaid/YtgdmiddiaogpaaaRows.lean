/-
  No cell of these rows narrows 'for every input' (looked for: loops, veiled, ifaces, maps, wideKeys, modest, calm, conditions, laid).
  DERIVED. THE GIVEN ROWS OF THIS SEAT. 11 by the template 'for every input the law returns true; each argument reads behind the call as it read before'; 0 by the template 'total and deterministic' (their statements: YtgdmiddiaogpaaaTotals.lean).
  GIVEN WITH THE SEED: the statements are not yours to turn. If you find one false, say at which input.
  Laid BY PROGRAM, IN A SANDBOX (cutbox-rows.mjs): the forced cells as the released guide's own fill.sh prints them over the translation f21c0f06bcd08589… (all of the seat's roots in one cut). By AI agents, Wed Nov 11 2026. No macro, syntax, notation, axiom, sorry.
-/
import Derived.Test.YtgdmiddiaogpaaaChecked
import GoSem.Claim
import GoSem.ClaimJoined
import GoSem.ClaimMapViews
import Derived.JoinedTies
import Derived.KernelRfl
namespace Go.Proofs.Ytgdmiddiaogpaaa
/- THE CELL 'sum', in the pinned program and in every row, IS THE sha256 OF THE DUMP (.gsa) THAT YtgdmiddiaogpaaaProg.lean LOADS. Nothing in Lean hashes anything: it is a label: what it is worth is what the hold of that sum in a sandbox is worth. -/
noncomputable def Try.pinned : Pinned := { name := "ytgdmiddiaogpaaa", sum := "f21c0f06bcd08589f93efb64dc4ed903ee7c360f3ee247b99c643b5a98077bf8", checked := Try.checked }
namespace Rows
def none {H : Type} : Left H := { results := [], args := [] }

/-- 'laws.FnExactSameResults': WHATEVER THE INPUT: true; the input reads as it did. -/
def fnExactSameResultsSpec : ChangeSpec := { name := "fnExactSameResults", fn := fun _ => fun
  | [d1, d2] => { results := [.lit (.bool true)], args := [d1, d2] }
  | _ => none }
def fnExactSameResultsRow : OpenClaim := { program := "ytgdmiddiaogpaaa", sum := "f21c0f06bcd08589f93efb64dc4ed903ee7c360f3ee247b99c643b5a98077bf8", func := "loop.example/g01045/laws.FnExactSameResults", spec := "fnExactSameResults", apart := false }
def FnExactSameResultsSaid : Prop := fnExactSameResultsRow.holds Try.pinned (OpenSpec.ofChange fnExactSameResultsSpec)

/-- ITS FALSE NEIGHBOUR: 'it returns false'. Refute it at one input. -/
def fnExactSameResultsWrong : ChangeSpec := { name := "fnExactSameResults", fn := fun _ => fun
  | [d1, d2] => { results := [.lit (.bool false)], args := [d1, d2] }
  | _ => none }
def FnExactSameResultsWrongFalsely : Prop := fnExactSameResultsRow.holds Try.pinned (OpenSpec.ofChange fnExactSameResultsWrong)

/-- 'laws.FnExactValidResults': WHATEVER THE INPUT: true; the input reads as it did. -/
def fnExactValidResultsSpec : ChangeSpec := { name := "fnExactValidResults", fn := fun _ => fun
  | [d] => { results := [.lit (.bool true)], args := [d] }
  | _ => none }
def fnExactValidResultsRow : OpenClaim := { program := "ytgdmiddiaogpaaa", sum := "f21c0f06bcd08589f93efb64dc4ed903ee7c360f3ee247b99c643b5a98077bf8", func := "loop.example/g01045/laws.FnExactValidResults", spec := "fnExactValidResults", apart := false }
def FnExactValidResultsSaid : Prop := fnExactValidResultsRow.holds Try.pinned (OpenSpec.ofChange fnExactValidResultsSpec)

/-- ITS FALSE NEIGHBOUR: 'it returns false'. Refute it at one input. -/
def fnExactValidResultsWrong : ChangeSpec := { name := "fnExactValidResults", fn := fun _ => fun
  | [d] => { results := [.lit (.bool false)], args := [d] }
  | _ => none }
def FnExactValidResultsWrongFalsely : Prop := fnExactValidResultsRow.holds Try.pinned (OpenSpec.ofChange fnExactValidResultsWrong)

/-- 'laws.FnExactBestOfRounds': WHATEVER THE INPUT: true; the input reads as it did. -/
def fnExactBestOfRoundsSpec : ChangeSpec := { name := "fnExactBestOfRounds", fn := fun _ => fun
  | [d] => { results := [.lit (.bool true)], args := [d] }
  | _ => none }
def fnExactBestOfRoundsRow : OpenClaim := { program := "ytgdmiddiaogpaaa", sum := "f21c0f06bcd08589f93efb64dc4ed903ee7c360f3ee247b99c643b5a98077bf8", func := "loop.example/g01045/laws.FnExactBestOfRounds", spec := "fnExactBestOfRounds", apart := false }
def FnExactBestOfRoundsSaid : Prop := fnExactBestOfRoundsRow.holds Try.pinned (OpenSpec.ofChange fnExactBestOfRoundsSpec)

/-- ITS FALSE NEIGHBOUR: 'it returns false'. Refute it at one input. -/
def fnExactBestOfRoundsWrong : ChangeSpec := { name := "fnExactBestOfRounds", fn := fun _ => fun
  | [d] => { results := [.lit (.bool false)], args := [d] }
  | _ => none }
def FnExactBestOfRoundsWrongFalsely : Prop := fnExactBestOfRoundsRow.holds Try.pinned (OpenSpec.ofChange fnExactBestOfRoundsWrong)

/-- 'laws.FnExactRankResults': WHATEVER THE INPUT: true; the input reads as it did. -/
def fnExactRankResultsSpec : ChangeSpec := { name := "fnExactRankResults", fn := fun _ => fun
  | [d] => { results := [.lit (.bool true)], args := [d] }
  | _ => none }
def fnExactRankResultsRow : OpenClaim := { program := "ytgdmiddiaogpaaa", sum := "f21c0f06bcd08589f93efb64dc4ed903ee7c360f3ee247b99c643b5a98077bf8", func := "loop.example/g01045/laws.FnExactRankResults", spec := "fnExactRankResults", inPlace := ["internal/reflectlite.ValueOf", "internal/reflectlite.Swapper", "(internal/reflectlite.Value).Len"], unfollowed := true, recurses := true, apart := false }
def FnExactRankResultsSaid : Prop := fnExactRankResultsRow.holds Try.pinned (OpenSpec.ofChange fnExactRankResultsSpec)

/-- ITS FALSE NEIGHBOUR: 'it returns false'. Refute it at one input. -/
def fnExactRankResultsWrong : ChangeSpec := { name := "fnExactRankResults", fn := fun _ => fun
  | [d] => { results := [.lit (.bool false)], args := [d] }
  | _ => none }
def FnExactRankResultsWrongFalsely : Prop := fnExactRankResultsRow.holds Try.pinned (OpenSpec.ofChange fnExactRankResultsWrong)

/-- 'laws.FnExactPlacesOfResults': WHATEVER THE INPUT: true; the input reads as it did. -/
def fnExactPlacesOfResultsSpec : ChangeSpec := { name := "fnExactPlacesOfResults", fn := fun _ => fun
  | [d] => { results := [.lit (.bool true)], args := [d] }
  | _ => none }
def fnExactPlacesOfResultsRow : OpenClaim := { program := "ytgdmiddiaogpaaa", sum := "f21c0f06bcd08589f93efb64dc4ed903ee7c360f3ee247b99c643b5a98077bf8", func := "loop.example/g01045/laws.FnExactPlacesOfResults", spec := "fnExactPlacesOfResults", inPlace := ["internal/reflectlite.ValueOf", "internal/reflectlite.Swapper", "(internal/reflectlite.Value).Len"], unfollowed := true, recurses := true, apart := false }
def FnExactPlacesOfResultsSaid : Prop := fnExactPlacesOfResultsRow.holds Try.pinned (OpenSpec.ofChange fnExactPlacesOfResultsSpec)

/-- ITS FALSE NEIGHBOUR: 'it returns false'. Refute it at one input. -/
def fnExactPlacesOfResultsWrong : ChangeSpec := { name := "fnExactPlacesOfResults", fn := fun _ => fun
  | [d] => { results := [.lit (.bool false)], args := [d] }
  | _ => none }
def FnExactPlacesOfResultsWrongFalsely : Prop := fnExactPlacesOfResultsRow.holds Try.pinned (OpenSpec.ofChange fnExactPlacesOfResultsWrong)

/-- 'laws.FnExactHeatsOf': WHATEVER THE INPUT: true; the input reads as it did. -/
def fnExactHeatsOfSpec : ChangeSpec := { name := "fnExactHeatsOf", fn := fun _ => fun
  | [d1, d2] => { results := [.lit (.bool true)], args := [d1, d2] }
  | _ => none }
def fnExactHeatsOfRow : OpenClaim := { program := "ytgdmiddiaogpaaa", sum := "f21c0f06bcd08589f93efb64dc4ed903ee7c360f3ee247b99c643b5a98077bf8", func := "loop.example/g01045/laws.FnExactHeatsOf", spec := "fnExactHeatsOf", inPlace := ["internal/reflectlite.ValueOf", "internal/reflectlite.Swapper", "(internal/reflectlite.Value).Len"], unfollowed := true, recurses := true, apart := false }
def FnExactHeatsOfSaid : Prop := fnExactHeatsOfRow.holds Try.pinned (OpenSpec.ofChange fnExactHeatsOfSpec)

/-- ITS FALSE NEIGHBOUR: 'it returns false'. Refute it at one input. -/
def fnExactHeatsOfWrong : ChangeSpec := { name := "fnExactHeatsOf", fn := fun _ => fun
  | [d1, d2] => { results := [.lit (.bool false)], args := [d1, d2] }
  | _ => none }
def FnExactHeatsOfWrongFalsely : Prop := fnExactHeatsOfRow.holds Try.pinned (OpenSpec.ofChange fnExactHeatsOfWrong)

/-- 'laws.FnExactTiedResults': WHATEVER THE INPUT: true; the input reads as it did. -/
def fnExactTiedResultsSpec : ChangeSpec := { name := "fnExactTiedResults", fn := fun _ => fun
  | [d] => { results := [.lit (.bool true)], args := [d] }
  | _ => none }
def fnExactTiedResultsRow : OpenClaim := { program := "ytgdmiddiaogpaaa", sum := "f21c0f06bcd08589f93efb64dc4ed903ee7c360f3ee247b99c643b5a98077bf8", func := "loop.example/g01045/laws.FnExactTiedResults", spec := "fnExactTiedResults", inPlace := ["internal/reflectlite.ValueOf", "internal/reflectlite.Swapper", "(internal/reflectlite.Value).Len"], unfollowed := true, recurses := true, apart := false }
def FnExactTiedResultsSaid : Prop := fnExactTiedResultsRow.holds Try.pinned (OpenSpec.ofChange fnExactTiedResultsSpec)

/-- ITS FALSE NEIGHBOUR: 'it returns false'. Refute it at one input. -/
def fnExactTiedResultsWrong : ChangeSpec := { name := "fnExactTiedResults", fn := fun _ => fun
  | [d] => { results := [.lit (.bool false)], args := [d] }
  | _ => none }
def FnExactTiedResultsWrongFalsely : Prop := fnExactTiedResultsRow.holds Try.pinned (OpenSpec.ofChange fnExactTiedResultsWrong)

/-- 'laws.FnExactQualifyFrom': WHATEVER THE INPUT: true; the input reads as it did. -/
def fnExactQualifyFromSpec : ChangeSpec := { name := "fnExactQualifyFrom", fn := fun _ => fun
  | [d1, d2, d3, d4] => { results := [.lit (.bool true)], args := [d1, d2, d3, d4] }
  | _ => none }
def fnExactQualifyFromRow : OpenClaim := { program := "ytgdmiddiaogpaaa", sum := "f21c0f06bcd08589f93efb64dc4ed903ee7c360f3ee247b99c643b5a98077bf8", func := "loop.example/g01045/laws.FnExactQualifyFrom", spec := "fnExactQualifyFrom", inPlace := ["internal/reflectlite.ValueOf", "internal/reflectlite.Swapper", "(internal/reflectlite.Value).Len"], unfollowed := true, recurses := true, apart := false }
def FnExactQualifyFromSaid : Prop := fnExactQualifyFromRow.holds Try.pinned (OpenSpec.ofChange fnExactQualifyFromSpec)

/-- ITS FALSE NEIGHBOUR: 'it returns false'. Refute it at one input. -/
def fnExactQualifyFromWrong : ChangeSpec := { name := "fnExactQualifyFrom", fn := fun _ => fun
  | [d1, d2, d3, d4] => { results := [.lit (.bool false)], args := [d1, d2, d3, d4] }
  | _ => none }
def FnExactQualifyFromWrongFalsely : Prop := fnExactQualifyFromRow.holds Try.pinned (OpenSpec.ofChange fnExactQualifyFromWrong)

/-- 'laws.FnExactPrizesFor': WHATEVER THE INPUT: true; the input reads as it did. -/
def fnExactPrizesForSpec : ChangeSpec := { name := "fnExactPrizesFor", fn := fun _ => fun
  | [d1, d2] => { results := [.lit (.bool true)], args := [d1, d2] }
  | _ => none }
def fnExactPrizesForRow : OpenClaim := { program := "ytgdmiddiaogpaaa", sum := "f21c0f06bcd08589f93efb64dc4ed903ee7c360f3ee247b99c643b5a98077bf8", func := "loop.example/g01045/laws.FnExactPrizesFor", spec := "fnExactPrizesFor", inPlace := ["internal/reflectlite.ValueOf", "internal/reflectlite.Swapper", "(internal/reflectlite.Value).Len"], unfollowed := true, recurses := true, apart := false }
def FnExactPrizesForSaid : Prop := fnExactPrizesForRow.holds Try.pinned (OpenSpec.ofChange fnExactPrizesForSpec)

/-- ITS FALSE NEIGHBOUR: 'it returns false'. Refute it at one input. -/
def fnExactPrizesForWrong : ChangeSpec := { name := "fnExactPrizesFor", fn := fun _ => fun
  | [d1, d2] => { results := [.lit (.bool false)], args := [d1, d2] }
  | _ => none }
def FnExactPrizesForWrongFalsely : Prop := fnExactPrizesForRow.holds Try.pinned (OpenSpec.ofChange fnExactPrizesForWrong)

/-- 'laws.FnExactPointsFor': WHATEVER THE INPUT: true; the input reads as it did. -/
def fnExactPointsForSpec : ChangeSpec := { name := "fnExactPointsFor", fn := fun _ => fun
  | [d1, d2] => { results := [.lit (.bool true)], args := [d1, d2] }
  | _ => none }
def fnExactPointsForRow : OpenClaim := { program := "ytgdmiddiaogpaaa", sum := "f21c0f06bcd08589f93efb64dc4ed903ee7c360f3ee247b99c643b5a98077bf8", func := "loop.example/g01045/laws.FnExactPointsFor", spec := "fnExactPointsFor", inPlace := ["internal/reflectlite.ValueOf", "internal/reflectlite.Swapper", "(internal/reflectlite.Value).Len"], unfollowed := true, recurses := true, apart := false }
def FnExactPointsForSaid : Prop := fnExactPointsForRow.holds Try.pinned (OpenSpec.ofChange fnExactPointsForSpec)

/-- ITS FALSE NEIGHBOUR: 'it returns false'. Refute it at one input. -/
def fnExactPointsForWrong : ChangeSpec := { name := "fnExactPointsFor", fn := fun _ => fun
  | [d1, d2] => { results := [.lit (.bool false)], args := [d1, d2] }
  | _ => none }
def FnExactPointsForWrongFalsely : Prop := fnExactPointsForRow.holds Try.pinned (OpenSpec.ofChange fnExactPointsForWrong)

/-- 'laws.FnExactTeamTotals': WHATEVER THE INPUT: true; the input reads as it did. -/
def fnExactTeamTotalsSpec : ChangeSpec := { name := "fnExactTeamTotals", fn := fun _ => fun
  | [d1, d2, d3] => { results := [.lit (.bool true)], args := [d1, d2, d3] }
  | _ => none }
def fnExactTeamTotalsRow : OpenClaim := { program := "ytgdmiddiaogpaaa", sum := "f21c0f06bcd08589f93efb64dc4ed903ee7c360f3ee247b99c643b5a98077bf8", func := "loop.example/g01045/laws.FnExactTeamTotals", spec := "fnExactTeamTotals", inPlace := ["internal/reflectlite.ValueOf", "internal/reflectlite.Swapper", "(internal/reflectlite.Value).Len"], unfollowed := true, recurses := true, apart := false }
def FnExactTeamTotalsSaid : Prop := fnExactTeamTotalsRow.holds Try.pinned (OpenSpec.ofChange fnExactTeamTotalsSpec)

/-- ITS FALSE NEIGHBOUR: 'it returns false'. Refute it at one input. -/
def fnExactTeamTotalsWrong : ChangeSpec := { name := "fnExactTeamTotals", fn := fun _ => fun
  | [d1, d2, d3] => { results := [.lit (.bool false)], args := [d1, d2, d3] }
  | _ => none }
def FnExactTeamTotalsWrongFalsely : Prop := fnExactTeamTotalsRow.holds Try.pinned (OpenSpec.ofChange fnExactTeamTotalsWrong)

/- THE SECOND FORM. 'bulk': how many values and letters a reading holds, each counted each time it is reached (what is shared counts as often as it is met; a slice's spare places count too). A statement '..UptoSaid' is the law's where the arguments, and the package variables that the reading takes, are together of bulk at most 1048576: NARROWER than '..Said'. Prove '..Said' where nothing that the law and all that it calls make is longer than what came in: it says more and counts as full. Else prove '..UptoSaid'. A law counts once. -/
mutual
def uptoBulk {H : Type} : DataW H → Nat
  | .lit (.string bytes) => bytes.length + 1
  | .lit _ => 1
  | .nil => 1
  | .ptr d => uptoBulk d + 1
  | .slice elems spare => uptoBulkAll elems + uptoBulkAll spare + 1
  | .agg parts => uptoBulkAll parts + 1
  | .iface _ d => uptoBulk d + 1
  | .map entries => uptoBulkEntries entries + 1
  | .held _ => 1
def uptoBulkAll {H : Type} : List (DataW H) → Nat
  | [] => 0
  | d :: r => uptoBulk d + uptoBulkAll r
def uptoBulkEntries {H : Type} : List (Lit × DataW H) → Nat
  | [] => 0
  | x :: r => uptoBulkEntry x + uptoBulkEntries r
def uptoBulkEntry {H : Type} : Lit × DataW H → Nat
  | (.string bytes, d) => bytes.length + uptoBulk d + 1
  | (_, d) => uptoBulk d + 1
 end
def uptoSmall : (H : Type) → List (DataW H) → Bool := fun _ ds => decide (uptoBulkAll ds ≤ 1048576)
def OpenSpec.upto (s : _root_.Go.ChangeSpec) : _root_.Go.OpenSpec := { _root_.Go.OpenSpec.ofChange s with cond := some uptoSmall }

/-- 'laws.FnExactSameResults', WHERE WHAT IT READS IS OF BULK AT MOST 1048576: true; the input reads as it did. -/
def fnExactSameResultsUptoRow : OpenClaim := { program := "ytgdmiddiaogpaaa", sum := "f21c0f06bcd08589f93efb64dc4ed903ee7c360f3ee247b99c643b5a98077bf8", func := "loop.example/g01045/laws.FnExactSameResults", spec := "fnExactSameResults", apart := false, narrowed := true }
def FnExactSameResultsUptoSaid : Prop := fnExactSameResultsUptoRow.holds Try.pinned (OpenSpec.upto fnExactSameResultsSpec)

/-- 'laws.FnExactValidResults', WHERE WHAT IT READS IS OF BULK AT MOST 1048576: true; the input reads as it did. -/
def fnExactValidResultsUptoRow : OpenClaim := { program := "ytgdmiddiaogpaaa", sum := "f21c0f06bcd08589f93efb64dc4ed903ee7c360f3ee247b99c643b5a98077bf8", func := "loop.example/g01045/laws.FnExactValidResults", spec := "fnExactValidResults", apart := false, narrowed := true }
def FnExactValidResultsUptoSaid : Prop := fnExactValidResultsUptoRow.holds Try.pinned (OpenSpec.upto fnExactValidResultsSpec)

/-- 'laws.FnExactBestOfRounds', WHERE WHAT IT READS IS OF BULK AT MOST 1048576: true; the input reads as it did. -/
def fnExactBestOfRoundsUptoRow : OpenClaim := { program := "ytgdmiddiaogpaaa", sum := "f21c0f06bcd08589f93efb64dc4ed903ee7c360f3ee247b99c643b5a98077bf8", func := "loop.example/g01045/laws.FnExactBestOfRounds", spec := "fnExactBestOfRounds", apart := false, narrowed := true }
def FnExactBestOfRoundsUptoSaid : Prop := fnExactBestOfRoundsUptoRow.holds Try.pinned (OpenSpec.upto fnExactBestOfRoundsSpec)

/-- 'laws.FnExactRankResults', WHERE WHAT IT READS IS OF BULK AT MOST 1048576: true; the input reads as it did. -/
def fnExactRankResultsUptoRow : OpenClaim := { program := "ytgdmiddiaogpaaa", sum := "f21c0f06bcd08589f93efb64dc4ed903ee7c360f3ee247b99c643b5a98077bf8", func := "loop.example/g01045/laws.FnExactRankResults", spec := "fnExactRankResults", inPlace := ["internal/reflectlite.ValueOf", "internal/reflectlite.Swapper", "(internal/reflectlite.Value).Len"], unfollowed := true, recurses := true, apart := false, narrowed := true }
def FnExactRankResultsUptoSaid : Prop := fnExactRankResultsUptoRow.holds Try.pinned (OpenSpec.upto fnExactRankResultsSpec)

/-- 'laws.FnExactPlacesOfResults', WHERE WHAT IT READS IS OF BULK AT MOST 1048576: true; the input reads as it did. -/
def fnExactPlacesOfResultsUptoRow : OpenClaim := { program := "ytgdmiddiaogpaaa", sum := "f21c0f06bcd08589f93efb64dc4ed903ee7c360f3ee247b99c643b5a98077bf8", func := "loop.example/g01045/laws.FnExactPlacesOfResults", spec := "fnExactPlacesOfResults", inPlace := ["internal/reflectlite.ValueOf", "internal/reflectlite.Swapper", "(internal/reflectlite.Value).Len"], unfollowed := true, recurses := true, apart := false, narrowed := true }
def FnExactPlacesOfResultsUptoSaid : Prop := fnExactPlacesOfResultsUptoRow.holds Try.pinned (OpenSpec.upto fnExactPlacesOfResultsSpec)

/-- 'laws.FnExactHeatsOf', WHERE WHAT IT READS IS OF BULK AT MOST 1048576: true; the input reads as it did. -/
def fnExactHeatsOfUptoRow : OpenClaim := { program := "ytgdmiddiaogpaaa", sum := "f21c0f06bcd08589f93efb64dc4ed903ee7c360f3ee247b99c643b5a98077bf8", func := "loop.example/g01045/laws.FnExactHeatsOf", spec := "fnExactHeatsOf", inPlace := ["internal/reflectlite.ValueOf", "internal/reflectlite.Swapper", "(internal/reflectlite.Value).Len"], unfollowed := true, recurses := true, apart := false, narrowed := true }
def FnExactHeatsOfUptoSaid : Prop := fnExactHeatsOfUptoRow.holds Try.pinned (OpenSpec.upto fnExactHeatsOfSpec)

/-- 'laws.FnExactTiedResults', WHERE WHAT IT READS IS OF BULK AT MOST 1048576: true; the input reads as it did. -/
def fnExactTiedResultsUptoRow : OpenClaim := { program := "ytgdmiddiaogpaaa", sum := "f21c0f06bcd08589f93efb64dc4ed903ee7c360f3ee247b99c643b5a98077bf8", func := "loop.example/g01045/laws.FnExactTiedResults", spec := "fnExactTiedResults", inPlace := ["internal/reflectlite.ValueOf", "internal/reflectlite.Swapper", "(internal/reflectlite.Value).Len"], unfollowed := true, recurses := true, apart := false, narrowed := true }
def FnExactTiedResultsUptoSaid : Prop := fnExactTiedResultsUptoRow.holds Try.pinned (OpenSpec.upto fnExactTiedResultsSpec)

/-- 'laws.FnExactQualifyFrom', WHERE WHAT IT READS IS OF BULK AT MOST 1048576: true; the input reads as it did. -/
def fnExactQualifyFromUptoRow : OpenClaim := { program := "ytgdmiddiaogpaaa", sum := "f21c0f06bcd08589f93efb64dc4ed903ee7c360f3ee247b99c643b5a98077bf8", func := "loop.example/g01045/laws.FnExactQualifyFrom", spec := "fnExactQualifyFrom", inPlace := ["internal/reflectlite.ValueOf", "internal/reflectlite.Swapper", "(internal/reflectlite.Value).Len"], unfollowed := true, recurses := true, apart := false, narrowed := true }
def FnExactQualifyFromUptoSaid : Prop := fnExactQualifyFromUptoRow.holds Try.pinned (OpenSpec.upto fnExactQualifyFromSpec)

/-- 'laws.FnExactPrizesFor', WHERE WHAT IT READS IS OF BULK AT MOST 1048576: true; the input reads as it did. -/
def fnExactPrizesForUptoRow : OpenClaim := { program := "ytgdmiddiaogpaaa", sum := "f21c0f06bcd08589f93efb64dc4ed903ee7c360f3ee247b99c643b5a98077bf8", func := "loop.example/g01045/laws.FnExactPrizesFor", spec := "fnExactPrizesFor", inPlace := ["internal/reflectlite.ValueOf", "internal/reflectlite.Swapper", "(internal/reflectlite.Value).Len"], unfollowed := true, recurses := true, apart := false, narrowed := true }
def FnExactPrizesForUptoSaid : Prop := fnExactPrizesForUptoRow.holds Try.pinned (OpenSpec.upto fnExactPrizesForSpec)

/-- 'laws.FnExactPointsFor', WHERE WHAT IT READS IS OF BULK AT MOST 1048576: true; the input reads as it did. -/
def fnExactPointsForUptoRow : OpenClaim := { program := "ytgdmiddiaogpaaa", sum := "f21c0f06bcd08589f93efb64dc4ed903ee7c360f3ee247b99c643b5a98077bf8", func := "loop.example/g01045/laws.FnExactPointsFor", spec := "fnExactPointsFor", inPlace := ["internal/reflectlite.ValueOf", "internal/reflectlite.Swapper", "(internal/reflectlite.Value).Len"], unfollowed := true, recurses := true, apart := false, narrowed := true }
def FnExactPointsForUptoSaid : Prop := fnExactPointsForUptoRow.holds Try.pinned (OpenSpec.upto fnExactPointsForSpec)

/-- 'laws.FnExactTeamTotals', WHERE WHAT IT READS IS OF BULK AT MOST 1048576: true; the input reads as it did. -/
def fnExactTeamTotalsUptoRow : OpenClaim := { program := "ytgdmiddiaogpaaa", sum := "f21c0f06bcd08589f93efb64dc4ed903ee7c360f3ee247b99c643b5a98077bf8", func := "loop.example/g01045/laws.FnExactTeamTotals", spec := "fnExactTeamTotals", inPlace := ["internal/reflectlite.ValueOf", "internal/reflectlite.Swapper", "(internal/reflectlite.Value).Len"], unfollowed := true, recurses := true, apart := false, narrowed := true }
def FnExactTeamTotalsUptoSaid : Prop := fnExactTeamTotalsUptoRow.holds Try.pinned (OpenSpec.upto fnExactTeamTotalsSpec)

end Rows
end Go.Proofs.Ytgdmiddiaogpaaa
