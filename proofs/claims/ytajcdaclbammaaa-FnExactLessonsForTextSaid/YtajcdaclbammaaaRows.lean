/-
  No cell of these rows narrows 'for every input' (looked for: loops, veiled, ifaces, maps, wideKeys, modest, calm, conditions, laid).
  DERIVED. THE GIVEN ROWS OF THIS SEAT. 6 by the template 'for every input the law returns true; each argument reads behind the call as it read before'; 0 by the template 'total and deterministic' (their statements: YtajcdaclbammaaaTotals.lean).
  GIVEN WITH THE SEED: the statements are not yours to turn. If you find one false, say at which input.
  Laid BY PROGRAM, IN A SANDBOX (cutbox-rows.mjs): the forced cells as the released guide's own fill.sh prints them over the translation edc411fc81e5d75f… (all of the seat's roots in one cut). By AI agents, Wed Nov 11 2026. No macro, syntax, notation, axiom, sorry.
-/
import Derived.Test.YtajcdaclbammaaaChecked
import GoSem.Claim
import GoSem.ClaimJoined
import GoSem.ClaimMapViews
import Derived.JoinedTies
import Derived.KernelRfl
namespace Go.Proofs.Ytajcdaclbammaaa
/- THE CELL 'sum', in the pinned program and in every row, IS THE sha256 OF THE DUMP (.gsa) THAT YtajcdaclbammaaaProg.lean LOADS. Nothing in Lean hashes anything: it is a label: what it is worth is what the hold of that sum in a sandbox is worth. -/
noncomputable def Try.pinned : Pinned := { name := "ytajcdaclbammaaa", sum := "edc411fc81e5d75f937d7182bae8b0ef372132d43c343866b8cb20afc63b732a", checked := Try.checked }
namespace Rows
def none {H : Type} : Left H := { results := [], args := [] }

/-- 'laws.FnExactLessonCircle': WHATEVER THE INPUT: true; the input reads as it did. -/
def fnExactLessonCircleSpec : ChangeSpec := { name := "fnExactLessonCircle", fn := fun _ => fun
  | [d] => { results := [.lit (.bool true)], args := [d] }
  | _ => none }
def fnExactLessonCircleRow : OpenClaim := { program := "ytajcdaclbammaaa", sum := "edc411fc81e5d75f937d7182bae8b0ef372132d43c343866b8cb20afc63b732a", func := "loop.example/g01045/laws.FnExactLessonCircle", spec := "fnExactLessonCircle", apart := false }
def FnExactLessonCircleSaid : Prop := fnExactLessonCircleRow.holds Try.pinned (OpenSpec.ofChange fnExactLessonCircleSpec)

/-- ITS FALSE NEIGHBOUR: 'it returns false'. Refute it at one input. -/
def fnExactLessonCircleWrong : ChangeSpec := { name := "fnExactLessonCircle", fn := fun _ => fun
  | [d] => { results := [.lit (.bool false)], args := [d] }
  | _ => none }
def FnExactLessonCircleWrongFalsely : Prop := fnExactLessonCircleRow.holds Try.pinned (OpenSpec.ofChange fnExactLessonCircleWrong)

/-- 'laws.FnExactCanType': WHATEVER THE INPUT: true; the input reads as it did. -/
def fnExactCanTypeSpec : ChangeSpec := { name := "fnExactCanType", fn := fun _ => fun
  | [d1, d2, d3] => { results := [.lit (.bool true)], args := [d1, d2, d3] }
  | _ => none }
def fnExactCanTypeRow : OpenClaim := { program := "ytajcdaclbammaaa", sum := "edc411fc81e5d75f937d7182bae8b0ef372132d43c343866b8cb20afc63b732a", func := "loop.example/g01045/laws.FnExactCanType", spec := "fnExactCanType", apart := false }
def FnExactCanTypeSaid : Prop := fnExactCanTypeRow.holds Try.pinned (OpenSpec.ofChange fnExactCanTypeSpec)

/-- ITS FALSE NEIGHBOUR: 'it returns false'. Refute it at one input. -/
def fnExactCanTypeWrong : ChangeSpec := { name := "fnExactCanType", fn := fun _ => fun
  | [d1, d2, d3] => { results := [.lit (.bool false)], args := [d1, d2, d3] }
  | _ => none }
def FnExactCanTypeWrongFalsely : Prop := fnExactCanTypeRow.holds Try.pinned (OpenSpec.ofChange fnExactCanTypeWrong)

/-- 'laws.FnExactUntaughtLetters': WHATEVER THE INPUT: true; the input reads as it did. -/
def fnExactUntaughtLettersSpec : ChangeSpec := { name := "fnExactUntaughtLetters", fn := fun _ => fun
  | [d1, d2] => { results := [.lit (.bool true)], args := [d1, d2] }
  | _ => none }
def fnExactUntaughtLettersRow : OpenClaim := { program := "ytajcdaclbammaaa", sum := "edc411fc81e5d75f937d7182bae8b0ef372132d43c343866b8cb20afc63b732a", func := "loop.example/g01045/laws.FnExactUntaughtLetters", spec := "fnExactUntaughtLetters", apart := false }
def FnExactUntaughtLettersSaid : Prop := fnExactUntaughtLettersRow.holds Try.pinned (OpenSpec.ofChange fnExactUntaughtLettersSpec)

/-- ITS FALSE NEIGHBOUR: 'it returns false'. Refute it at one input. -/
def fnExactUntaughtLettersWrong : ChangeSpec := { name := "fnExactUntaughtLetters", fn := fun _ => fun
  | [d1, d2] => { results := [.lit (.bool false)], args := [d1, d2] }
  | _ => none }
def FnExactUntaughtLettersWrongFalsely : Prop := fnExactUntaughtLettersRow.holds Try.pinned (OpenSpec.ofChange fnExactUntaughtLettersWrong)

/-- 'laws.FnExactNextLessons': WHATEVER THE INPUT: true; the input reads as it did. -/
def fnExactNextLessonsSpec : ChangeSpec := { name := "fnExactNextLessons", fn := fun _ => fun
  | [d1, d2] => { results := [.lit (.bool true)], args := [d1, d2] }
  | _ => none }
def fnExactNextLessonsRow : OpenClaim := { program := "ytajcdaclbammaaa", sum := "edc411fc81e5d75f937d7182bae8b0ef372132d43c343866b8cb20afc63b732a", func := "loop.example/g01045/laws.FnExactNextLessons", spec := "fnExactNextLessons", apart := false }
def FnExactNextLessonsSaid : Prop := fnExactNextLessonsRow.holds Try.pinned (OpenSpec.ofChange fnExactNextLessonsSpec)

/-- ITS FALSE NEIGHBOUR: 'it returns false'. Refute it at one input. -/
def fnExactNextLessonsWrong : ChangeSpec := { name := "fnExactNextLessons", fn := fun _ => fun
  | [d1, d2] => { results := [.lit (.bool false)], args := [d1, d2] }
  | _ => none }
def FnExactNextLessonsWrongFalsely : Prop := fnExactNextLessonsRow.holds Try.pinned (OpenSpec.ofChange fnExactNextLessonsWrong)

/-- 'laws.FnExactLessonOrder': WHATEVER THE INPUT: true; the input reads as it did. -/
def fnExactLessonOrderSpec : ChangeSpec := { name := "fnExactLessonOrder", fn := fun _ => fun
  | [d] => { results := [.lit (.bool true)], args := [d] }
  | _ => none }
def fnExactLessonOrderRow : OpenClaim := { program := "ytajcdaclbammaaa", sum := "edc411fc81e5d75f937d7182bae8b0ef372132d43c343866b8cb20afc63b732a", func := "loop.example/g01045/laws.FnExactLessonOrder", spec := "fnExactLessonOrder", apart := false }
def FnExactLessonOrderSaid : Prop := fnExactLessonOrderRow.holds Try.pinned (OpenSpec.ofChange fnExactLessonOrderSpec)

/-- ITS FALSE NEIGHBOUR: 'it returns false'. Refute it at one input. -/
def fnExactLessonOrderWrong : ChangeSpec := { name := "fnExactLessonOrder", fn := fun _ => fun
  | [d] => { results := [.lit (.bool false)], args := [d] }
  | _ => none }
def FnExactLessonOrderWrongFalsely : Prop := fnExactLessonOrderRow.holds Try.pinned (OpenSpec.ofChange fnExactLessonOrderWrong)

/-- 'laws.FnExactLessonsForText': WHATEVER THE INPUT: true; the input reads as it did. -/
def fnExactLessonsForTextSpec : ChangeSpec := { name := "fnExactLessonsForText", fn := fun _ => fun
  | [d1, d2] => { results := [.lit (.bool true)], args := [d1, d2] }
  | _ => none }
def fnExactLessonsForTextRow : OpenClaim := { program := "ytajcdaclbammaaa", sum := "edc411fc81e5d75f937d7182bae8b0ef372132d43c343866b8cb20afc63b732a", func := "loop.example/g01045/laws.FnExactLessonsForText", spec := "fnExactLessonsForText", apart := false }
def FnExactLessonsForTextSaid : Prop := fnExactLessonsForTextRow.holds Try.pinned (OpenSpec.ofChange fnExactLessonsForTextSpec)

/-- ITS FALSE NEIGHBOUR: 'it returns false'. Refute it at one input. -/
def fnExactLessonsForTextWrong : ChangeSpec := { name := "fnExactLessonsForText", fn := fun _ => fun
  | [d1, d2] => { results := [.lit (.bool false)], args := [d1, d2] }
  | _ => none }
def FnExactLessonsForTextWrongFalsely : Prop := fnExactLessonsForTextRow.holds Try.pinned (OpenSpec.ofChange fnExactLessonsForTextWrong)

/- THE SECOND FORM. 'bulk': how many values and letters a reading holds, each counted each time it is reached (what is shared counts as often as it is met; a slice's spare places count too). A statement '..UptoSaid' is the law's where the arguments, and the package variables that the reading takes, are together of bulk at most 1048576: NARROWER than '..Said'. Prove '..Said' where nothing that the law and all that it calls make is longer than what came in: it says more and counts as full. Else prove '..UptoSaid'. A law counts once. -/
mutual
def uptoBulk {H : Type} : DataW H → Nat
  | .lit (.string bytes) => bytes.length + 1
  | .lit _ => 1
  | .nil => 1
  | .ptr d => uptoBulk d + 1
  | .slice elems spare => uptoBulkAll elems + uptoBulkAll spare + 1
  | .agg parts => uptoBulkAll parts + 1
  | .iface _ d => uptoBulk d + 1
  | .map entries => uptoBulkEntries entries + 1
  | .held _ => 1
def uptoBulkAll {H : Type} : List (DataW H) → Nat
  | [] => 0
  | d :: r => uptoBulk d + uptoBulkAll r
def uptoBulkEntries {H : Type} : List (Lit × DataW H) → Nat
  | [] => 0
  | x :: r => uptoBulkEntry x + uptoBulkEntries r
def uptoBulkEntry {H : Type} : Lit × DataW H → Nat
  | (.string bytes, d) => bytes.length + uptoBulk d + 1
  | (_, d) => uptoBulk d + 1
 end
def uptoSmall : (H : Type) → List (DataW H) → Bool := fun _ ds => decide (uptoBulkAll ds ≤ 1048576)
def OpenSpec.upto (s : _root_.Go.ChangeSpec) : _root_.Go.OpenSpec := { _root_.Go.OpenSpec.ofChange s with cond := some uptoSmall }

/-- 'laws.FnExactLessonCircle', WHERE WHAT IT READS IS OF BULK AT MOST 1048576: true; the input reads as it did. -/
def fnExactLessonCircleUptoRow : OpenClaim := { program := "ytajcdaclbammaaa", sum := "edc411fc81e5d75f937d7182bae8b0ef372132d43c343866b8cb20afc63b732a", func := "loop.example/g01045/laws.FnExactLessonCircle", spec := "fnExactLessonCircle", apart := false, narrowed := true }
def FnExactLessonCircleUptoSaid : Prop := fnExactLessonCircleUptoRow.holds Try.pinned (OpenSpec.upto fnExactLessonCircleSpec)

/-- 'laws.FnExactCanType', WHERE WHAT IT READS IS OF BULK AT MOST 1048576: true; the input reads as it did. -/
def fnExactCanTypeUptoRow : OpenClaim := { program := "ytajcdaclbammaaa", sum := "edc411fc81e5d75f937d7182bae8b0ef372132d43c343866b8cb20afc63b732a", func := "loop.example/g01045/laws.FnExactCanType", spec := "fnExactCanType", apart := false, narrowed := true }
def FnExactCanTypeUptoSaid : Prop := fnExactCanTypeUptoRow.holds Try.pinned (OpenSpec.upto fnExactCanTypeSpec)

/-- 'laws.FnExactUntaughtLetters', WHERE WHAT IT READS IS OF BULK AT MOST 1048576: true; the input reads as it did. -/
def fnExactUntaughtLettersUptoRow : OpenClaim := { program := "ytajcdaclbammaaa", sum := "edc411fc81e5d75f937d7182bae8b0ef372132d43c343866b8cb20afc63b732a", func := "loop.example/g01045/laws.FnExactUntaughtLetters", spec := "fnExactUntaughtLetters", apart := false, narrowed := true }
def FnExactUntaughtLettersUptoSaid : Prop := fnExactUntaughtLettersUptoRow.holds Try.pinned (OpenSpec.upto fnExactUntaughtLettersSpec)

/-- 'laws.FnExactNextLessons', WHERE WHAT IT READS IS OF BULK AT MOST 1048576: true; the input reads as it did. -/
def fnExactNextLessonsUptoRow : OpenClaim := { program := "ytajcdaclbammaaa", sum := "edc411fc81e5d75f937d7182bae8b0ef372132d43c343866b8cb20afc63b732a", func := "loop.example/g01045/laws.FnExactNextLessons", spec := "fnExactNextLessons", apart := false, narrowed := true }
def FnExactNextLessonsUptoSaid : Prop := fnExactNextLessonsUptoRow.holds Try.pinned (OpenSpec.upto fnExactNextLessonsSpec)

/-- 'laws.FnExactLessonOrder', WHERE WHAT IT READS IS OF BULK AT MOST 1048576: true; the input reads as it did. -/
def fnExactLessonOrderUptoRow : OpenClaim := { program := "ytajcdaclbammaaa", sum := "edc411fc81e5d75f937d7182bae8b0ef372132d43c343866b8cb20afc63b732a", func := "loop.example/g01045/laws.FnExactLessonOrder", spec := "fnExactLessonOrder", apart := false, narrowed := true }
def FnExactLessonOrderUptoSaid : Prop := fnExactLessonOrderUptoRow.holds Try.pinned (OpenSpec.upto fnExactLessonOrderSpec)

/-- 'laws.FnExactLessonsForText', WHERE WHAT IT READS IS OF BULK AT MOST 1048576: true; the input reads as it did. -/
def fnExactLessonsForTextUptoRow : OpenClaim := { program := "ytajcdaclbammaaa", sum := "edc411fc81e5d75f937d7182bae8b0ef372132d43c343866b8cb20afc63b732a", func := "loop.example/g01045/laws.FnExactLessonsForText", spec := "fnExactLessonsForText", apart := false, narrowed := true }
def FnExactLessonsForTextUptoSaid : Prop := fnExactLessonsForTextUptoRow.holds Try.pinned (OpenSpec.upto fnExactLessonsForTextSpec)

end Rows
end Go.Proofs.Ytajcdaclbammaaa
