/-
  No cell of these rows narrows 'for every input' (looked for: loops, veiled, ifaces, maps, wideKeys, modest, calm, conditions, laid).
  DERIVED. THE GIVEN ROWS OF THIS SEAT. 9 by the template 'for every input the law returns true; each argument reads behind the call as it read before'; 0 by the template 'total and deterministic' (their statements: YthgoofjojanakaaTotals.lean).
  GIVEN WITH THE SEED: the statements are not yours to turn. If you find one false, say at which input.
  Laid BY PROGRAM, IN A SANDBOX (cutbox-rows.mjs): the forced cells as the released guide's own fill.sh prints them over the translation 4f2ce1799b917803… (all of the seat's roots in one cut). By AI agents, Wed Nov 11 2026. No macro, syntax, notation, axiom, sorry.
-/
import Derived.Test.YthgoofjojanakaaChecked
import GoSem.Claim
import GoSem.ClaimJoined
import GoSem.ClaimMapViews
import Derived.JoinedTies
import Derived.KernelRfl
namespace Go.Proofs.Ythgoofjojanakaa
/- THE CELL 'sum', in the pinned program and in every row, IS THE sha256 OF THE DUMP (.gsa) THAT YthgoofjojanakaaProg.lean LOADS. Nothing in Lean hashes anything: it is a label: what it is worth is what the hold of that sum in a sandbox is worth. -/
noncomputable def Try.pinned : Pinned := { name := "ythgoofjojanakaa", sum := "4f2ce1799b9178035805f3dca28ee333098cc1748d11abe0acafb18f0449a11e", checked := Try.checked }
namespace Rows
def none {H : Type} : Left H := { results := [], args := [] }

/-- 'laws.FnExactErrorsIn': WHATEVER THE INPUT: true; the input reads as it did. -/
def fnExactErrorsInSpec : ChangeSpec := { name := "fnExactErrorsIn", fn := fun _ => fun
  | [d] => { results := [.lit (.bool true)], args := [d] }
  | _ => none }
def fnExactErrorsInRow : OpenClaim := { program := "ythgoofjojanakaa", sum := "4f2ce1799b9178035805f3dca28ee333098cc1748d11abe0acafb18f0449a11e", func := "loop.example/g01045/laws.FnExactErrorsIn", spec := "fnExactErrorsIn", apart := false }
def FnExactErrorsInSaid : Prop := fnExactErrorsInRow.holds Try.pinned (OpenSpec.ofChange fnExactErrorsInSpec)

/-- ITS FALSE NEIGHBOUR: 'it returns false'. Refute it at one input. -/
def fnExactErrorsInWrong : ChangeSpec := { name := "fnExactErrorsIn", fn := fun _ => fun
  | [d] => { results := [.lit (.bool false)], args := [d] }
  | _ => none }
def FnExactErrorsInWrongFalsely : Prop := fnExactErrorsInRow.holds Try.pinned (OpenSpec.ofChange fnExactErrorsInWrong)

/-- 'laws.FnExactLeastErrors': WHATEVER THE INPUT: true; the input reads as it did. -/
def fnExactLeastErrorsSpec : ChangeSpec := { name := "fnExactLeastErrors", fn := fun _ => fun
  | [d1, d2] => { results := [.lit (.bool true)], args := [d1, d2] }
  | _ => none }
def fnExactLeastErrorsRow : OpenClaim := { program := "ythgoofjojanakaa", sum := "4f2ce1799b9178035805f3dca28ee333098cc1748d11abe0acafb18f0449a11e", func := "loop.example/g01045/laws.FnExactLeastErrors", spec := "fnExactLeastErrors", apart := false }
def FnExactLeastErrorsSaid : Prop := fnExactLeastErrorsRow.holds Try.pinned (OpenSpec.ofChange fnExactLeastErrorsSpec)

/-- ITS FALSE NEIGHBOUR: 'it returns false'. Refute it at one input. -/
def fnExactLeastErrorsWrong : ChangeSpec := { name := "fnExactLeastErrors", fn := fun _ => fun
  | [d1, d2] => { results := [.lit (.bool false)], args := [d1, d2] }
  | _ => none }
def FnExactLeastErrorsWrongFalsely : Prop := fnExactLeastErrorsRow.holds Try.pinned (OpenSpec.ofChange fnExactLeastErrorsWrong)

/-- 'laws.FnExactIsAlignment': WHATEVER THE INPUT: true; the input reads as it did. -/
def fnExactIsAlignmentSpec : ChangeSpec := { name := "fnExactIsAlignment", fn := fun _ => fun
  | [d1, d2, d3] => { results := [.lit (.bool true)], args := [d1, d2, d3] }
  | _ => none }
def fnExactIsAlignmentRow : OpenClaim := { program := "ythgoofjojanakaa", sum := "4f2ce1799b9178035805f3dca28ee333098cc1748d11abe0acafb18f0449a11e", func := "loop.example/g01045/laws.FnExactIsAlignment", spec := "fnExactIsAlignment", apart := false }
def FnExactIsAlignmentSaid : Prop := fnExactIsAlignmentRow.holds Try.pinned (OpenSpec.ofChange fnExactIsAlignmentSpec)

/-- ITS FALSE NEIGHBOUR: 'it returns false'. Refute it at one input. -/
def fnExactIsAlignmentWrong : ChangeSpec := { name := "fnExactIsAlignment", fn := fun _ => fun
  | [d1, d2, d3] => { results := [.lit (.bool false)], args := [d1, d2, d3] }
  | _ => none }
def FnExactIsAlignmentWrongFalsely : Prop := fnExactIsAlignmentRow.holds Try.pinned (OpenSpec.ofChange fnExactIsAlignmentWrong)

/-- 'laws.FnExactMarkOf': WHATEVER THE INPUT: true; the input reads as it did. -/
def fnExactMarkOfSpec : ChangeSpec := { name := "fnExactMarkOf", fn := fun _ => fun
  | [d1, d2] => { results := [.lit (.bool true)], args := [d1, d2] }
  | _ => none }
def fnExactMarkOfRow : OpenClaim := { program := "ythgoofjojanakaa", sum := "4f2ce1799b9178035805f3dca28ee333098cc1748d11abe0acafb18f0449a11e", func := "loop.example/g01045/laws.FnExactMarkOf", spec := "fnExactMarkOf", apart := false }
def FnExactMarkOfSaid : Prop := fnExactMarkOfRow.holds Try.pinned (OpenSpec.ofChange fnExactMarkOfSpec)

/-- ITS FALSE NEIGHBOUR: 'it returns false'. Refute it at one input. -/
def fnExactMarkOfWrong : ChangeSpec := { name := "fnExactMarkOf", fn := fun _ => fun
  | [d1, d2] => { results := [.lit (.bool false)], args := [d1, d2] }
  | _ => none }
def FnExactMarkOfWrongFalsely : Prop := fnExactMarkOfRow.holds Try.pinned (OpenSpec.ofChange fnExactMarkOfWrong)

/-- 'laws.FnExactAlignTexts': WHATEVER THE INPUT: true; the input reads as it did. -/
def fnExactAlignTextsSpec : ChangeSpec := { name := "fnExactAlignTexts", fn := fun _ => fun
  | [d1, d2] => { results := [.lit (.bool true)], args := [d1, d2] }
  | _ => none }
def fnExactAlignTextsRow : OpenClaim := { program := "ythgoofjojanakaa", sum := "4f2ce1799b9178035805f3dca28ee333098cc1748d11abe0acafb18f0449a11e", func := "loop.example/g01045/laws.FnExactAlignTexts", spec := "fnExactAlignTexts", apart := false }
def FnExactAlignTextsSaid : Prop := fnExactAlignTextsRow.holds Try.pinned (OpenSpec.ofChange fnExactAlignTextsSpec)

/-- ITS FALSE NEIGHBOUR: 'it returns false'. Refute it at one input. -/
def fnExactAlignTextsWrong : ChangeSpec := { name := "fnExactAlignTexts", fn := fun _ => fun
  | [d1, d2] => { results := [.lit (.bool false)], args := [d1, d2] }
  | _ => none }
def FnExactAlignTextsWrongFalsely : Prop := fnExactAlignTextsRow.holds Try.pinned (OpenSpec.ofChange fnExactAlignTextsWrong)

/-- 'laws.FnExactBestTry': WHATEVER THE INPUT: true; the input reads as it did. -/
def fnExactBestTrySpec : ChangeSpec := { name := "fnExactBestTry", fn := fun _ => fun
  | [d1, d2] => { results := [.lit (.bool true)], args := [d1, d2] }
  | _ => none }
def fnExactBestTryRow : OpenClaim := { program := "ythgoofjojanakaa", sum := "4f2ce1799b9178035805f3dca28ee333098cc1748d11abe0acafb18f0449a11e", func := "loop.example/g01045/laws.FnExactBestTry", spec := "fnExactBestTry", apart := false }
def FnExactBestTrySaid : Prop := fnExactBestTryRow.holds Try.pinned (OpenSpec.ofChange fnExactBestTrySpec)

/-- ITS FALSE NEIGHBOUR: 'it returns false'. Refute it at one input. -/
def fnExactBestTryWrong : ChangeSpec := { name := "fnExactBestTry", fn := fun _ => fun
  | [d1, d2] => { results := [.lit (.bool false)], args := [d1, d2] }
  | _ => none }
def FnExactBestTryWrongFalsely : Prop := fnExactBestTryRow.holds Try.pinned (OpenSpec.ofChange fnExactBestTryWrong)

/-- 'laws.FnExactTypedFrom': WHATEVER THE INPUT: true; the input reads as it did. -/
def fnExactTypedFromSpec : ChangeSpec := { name := "fnExactTypedFrom", fn := fun _ => fun
  | [d1, d2, d3] => { results := [.lit (.bool true)], args := [d1, d2, d3] }
  | _ => none }
def fnExactTypedFromRow : OpenClaim := { program := "ythgoofjojanakaa", sum := "4f2ce1799b9178035805f3dca28ee333098cc1748d11abe0acafb18f0449a11e", func := "loop.example/g01045/laws.FnExactTypedFrom", spec := "fnExactTypedFrom", apart := false }
def FnExactTypedFromSaid : Prop := fnExactTypedFromRow.holds Try.pinned (OpenSpec.ofChange fnExactTypedFromSpec)

/-- ITS FALSE NEIGHBOUR: 'it returns false'. Refute it at one input. -/
def fnExactTypedFromWrong : ChangeSpec := { name := "fnExactTypedFrom", fn := fun _ => fun
  | [d1, d2, d3] => { results := [.lit (.bool false)], args := [d1, d2, d3] }
  | _ => none }
def FnExactTypedFromWrongFalsely : Prop := fnExactTypedFromRow.holds Try.pinned (OpenSpec.ofChange fnExactTypedFromWrong)

/-- 'laws.FnExactAccuracyOf': WHATEVER THE INPUT: true; the input reads as it did. -/
def fnExactAccuracyOfSpec : ChangeSpec := { name := "fnExactAccuracyOf", fn := fun _ => fun
  | [d1, d2] => { results := [.lit (.bool true)], args := [d1, d2] }
  | _ => none }
def fnExactAccuracyOfRow : OpenClaim := { program := "ythgoofjojanakaa", sum := "4f2ce1799b9178035805f3dca28ee333098cc1748d11abe0acafb18f0449a11e", func := "loop.example/g01045/laws.FnExactAccuracyOf", spec := "fnExactAccuracyOf", apart := false }
def FnExactAccuracyOfSaid : Prop := fnExactAccuracyOfRow.holds Try.pinned (OpenSpec.ofChange fnExactAccuracyOfSpec)

/-- ITS FALSE NEIGHBOUR: 'it returns false'. Refute it at one input. -/
def fnExactAccuracyOfWrong : ChangeSpec := { name := "fnExactAccuracyOf", fn := fun _ => fun
  | [d1, d2] => { results := [.lit (.bool false)], args := [d1, d2] }
  | _ => none }
def FnExactAccuracyOfWrongFalsely : Prop := fnExactAccuracyOfRow.holds Try.pinned (OpenSpec.ofChange fnExactAccuracyOfWrong)

/-- 'laws.FnExactMissedLetters': WHATEVER THE INPUT: true; the input reads as it did. -/
def fnExactMissedLettersSpec : ChangeSpec := { name := "fnExactMissedLetters", fn := fun _ => fun
  | [d1, d2] => { results := [.lit (.bool true)], args := [d1, d2] }
  | _ => none }
def fnExactMissedLettersRow : OpenClaim := { program := "ythgoofjojanakaa", sum := "4f2ce1799b9178035805f3dca28ee333098cc1748d11abe0acafb18f0449a11e", func := "loop.example/g01045/laws.FnExactMissedLetters", spec := "fnExactMissedLetters", apart := false }
def FnExactMissedLettersSaid : Prop := fnExactMissedLettersRow.holds Try.pinned (OpenSpec.ofChange fnExactMissedLettersSpec)

/-- ITS FALSE NEIGHBOUR: 'it returns false'. Refute it at one input. -/
def fnExactMissedLettersWrong : ChangeSpec := { name := "fnExactMissedLetters", fn := fun _ => fun
  | [d1, d2] => { results := [.lit (.bool false)], args := [d1, d2] }
  | _ => none }
def FnExactMissedLettersWrongFalsely : Prop := fnExactMissedLettersRow.holds Try.pinned (OpenSpec.ofChange fnExactMissedLettersWrong)

/- THE SECOND FORM. 'bulk': how many values and letters a reading holds, each counted each time it is reached (what is shared counts as often as it is met; a slice's spare places count too). A statement '..UptoSaid' is the law's where the arguments, and the package variables that the reading takes, are together of bulk at most 1048576: NARROWER than '..Said'. Prove '..Said' where nothing that the law and all that it calls make is longer than what came in: it says more and counts as full. Else prove '..UptoSaid'. A law counts once. -/
mutual
def uptoBulk {H : Type} : DataW H → Nat
  | .lit (.string bytes) => bytes.length + 1
  | .lit _ => 1
  | .nil => 1
  | .ptr d => uptoBulk d + 1
  | .slice elems spare => uptoBulkAll elems + uptoBulkAll spare + 1
  | .agg parts => uptoBulkAll parts + 1
  | .iface _ d => uptoBulk d + 1
  | .map entries => uptoBulkEntries entries + 1
  | .held _ => 1
def uptoBulkAll {H : Type} : List (DataW H) → Nat
  | [] => 0
  | d :: r => uptoBulk d + uptoBulkAll r
def uptoBulkEntries {H : Type} : List (Lit × DataW H) → Nat
  | [] => 0
  | x :: r => uptoBulkEntry x + uptoBulkEntries r
def uptoBulkEntry {H : Type} : Lit × DataW H → Nat
  | (.string bytes, d) => bytes.length + uptoBulk d + 1
  | (_, d) => uptoBulk d + 1
 end
def uptoSmall : (H : Type) → List (DataW H) → Bool := fun _ ds => decide (uptoBulkAll ds ≤ 1048576)
def OpenSpec.upto (s : _root_.Go.ChangeSpec) : _root_.Go.OpenSpec := { _root_.Go.OpenSpec.ofChange s with cond := some uptoSmall }

/-- 'laws.FnExactErrorsIn', WHERE WHAT IT READS IS OF BULK AT MOST 1048576: true; the input reads as it did. -/
def fnExactErrorsInUptoRow : OpenClaim := { program := "ythgoofjojanakaa", sum := "4f2ce1799b9178035805f3dca28ee333098cc1748d11abe0acafb18f0449a11e", func := "loop.example/g01045/laws.FnExactErrorsIn", spec := "fnExactErrorsIn", apart := false, narrowed := true }
def FnExactErrorsInUptoSaid : Prop := fnExactErrorsInUptoRow.holds Try.pinned (OpenSpec.upto fnExactErrorsInSpec)

/-- 'laws.FnExactLeastErrors', WHERE WHAT IT READS IS OF BULK AT MOST 1048576: true; the input reads as it did. -/
def fnExactLeastErrorsUptoRow : OpenClaim := { program := "ythgoofjojanakaa", sum := "4f2ce1799b9178035805f3dca28ee333098cc1748d11abe0acafb18f0449a11e", func := "loop.example/g01045/laws.FnExactLeastErrors", spec := "fnExactLeastErrors", apart := false, narrowed := true }
def FnExactLeastErrorsUptoSaid : Prop := fnExactLeastErrorsUptoRow.holds Try.pinned (OpenSpec.upto fnExactLeastErrorsSpec)

/-- 'laws.FnExactIsAlignment', WHERE WHAT IT READS IS OF BULK AT MOST 1048576: true; the input reads as it did. -/
def fnExactIsAlignmentUptoRow : OpenClaim := { program := "ythgoofjojanakaa", sum := "4f2ce1799b9178035805f3dca28ee333098cc1748d11abe0acafb18f0449a11e", func := "loop.example/g01045/laws.FnExactIsAlignment", spec := "fnExactIsAlignment", apart := false, narrowed := true }
def FnExactIsAlignmentUptoSaid : Prop := fnExactIsAlignmentUptoRow.holds Try.pinned (OpenSpec.upto fnExactIsAlignmentSpec)

/-- 'laws.FnExactMarkOf', WHERE WHAT IT READS IS OF BULK AT MOST 1048576: true; the input reads as it did. -/
def fnExactMarkOfUptoRow : OpenClaim := { program := "ythgoofjojanakaa", sum := "4f2ce1799b9178035805f3dca28ee333098cc1748d11abe0acafb18f0449a11e", func := "loop.example/g01045/laws.FnExactMarkOf", spec := "fnExactMarkOf", apart := false, narrowed := true }
def FnExactMarkOfUptoSaid : Prop := fnExactMarkOfUptoRow.holds Try.pinned (OpenSpec.upto fnExactMarkOfSpec)

/-- 'laws.FnExactAlignTexts', WHERE WHAT IT READS IS OF BULK AT MOST 1048576: true; the input reads as it did. -/
def fnExactAlignTextsUptoRow : OpenClaim := { program := "ythgoofjojanakaa", sum := "4f2ce1799b9178035805f3dca28ee333098cc1748d11abe0acafb18f0449a11e", func := "loop.example/g01045/laws.FnExactAlignTexts", spec := "fnExactAlignTexts", apart := false, narrowed := true }
def FnExactAlignTextsUptoSaid : Prop := fnExactAlignTextsUptoRow.holds Try.pinned (OpenSpec.upto fnExactAlignTextsSpec)

/-- 'laws.FnExactBestTry', WHERE WHAT IT READS IS OF BULK AT MOST 1048576: true; the input reads as it did. -/
def fnExactBestTryUptoRow : OpenClaim := { program := "ythgoofjojanakaa", sum := "4f2ce1799b9178035805f3dca28ee333098cc1748d11abe0acafb18f0449a11e", func := "loop.example/g01045/laws.FnExactBestTry", spec := "fnExactBestTry", apart := false, narrowed := true }
def FnExactBestTryUptoSaid : Prop := fnExactBestTryUptoRow.holds Try.pinned (OpenSpec.upto fnExactBestTrySpec)

/-- 'laws.FnExactTypedFrom', WHERE WHAT IT READS IS OF BULK AT MOST 1048576: true; the input reads as it did. -/
def fnExactTypedFromUptoRow : OpenClaim := { program := "ythgoofjojanakaa", sum := "4f2ce1799b9178035805f3dca28ee333098cc1748d11abe0acafb18f0449a11e", func := "loop.example/g01045/laws.FnExactTypedFrom", spec := "fnExactTypedFrom", apart := false, narrowed := true }
def FnExactTypedFromUptoSaid : Prop := fnExactTypedFromUptoRow.holds Try.pinned (OpenSpec.upto fnExactTypedFromSpec)

/-- 'laws.FnExactAccuracyOf', WHERE WHAT IT READS IS OF BULK AT MOST 1048576: true; the input reads as it did. -/
def fnExactAccuracyOfUptoRow : OpenClaim := { program := "ythgoofjojanakaa", sum := "4f2ce1799b9178035805f3dca28ee333098cc1748d11abe0acafb18f0449a11e", func := "loop.example/g01045/laws.FnExactAccuracyOf", spec := "fnExactAccuracyOf", apart := false, narrowed := true }
def FnExactAccuracyOfUptoSaid : Prop := fnExactAccuracyOfUptoRow.holds Try.pinned (OpenSpec.upto fnExactAccuracyOfSpec)

/-- 'laws.FnExactMissedLetters', WHERE WHAT IT READS IS OF BULK AT MOST 1048576: true; the input reads as it did. -/
def fnExactMissedLettersUptoRow : OpenClaim := { program := "ythgoofjojanakaa", sum := "4f2ce1799b9178035805f3dca28ee333098cc1748d11abe0acafb18f0449a11e", func := "loop.example/g01045/laws.FnExactMissedLetters", spec := "fnExactMissedLetters", apart := false, narrowed := true }
def FnExactMissedLettersUptoSaid : Prop := fnExactMissedLettersUptoRow.holds Try.pinned (OpenSpec.upto fnExactMissedLettersSpec)

end Rows
end Go.Proofs.Ythgoofjojanakaa
