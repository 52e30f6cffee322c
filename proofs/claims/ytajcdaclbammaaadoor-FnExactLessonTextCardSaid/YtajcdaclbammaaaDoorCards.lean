/-
  DERIVED. GIVEN WITH THE SEED: THE CARDS: each row of YtajcdaclbammaaaDoorRows.lean that lists a variable, with what it lists TIED to the program's text (the seventh form; the later family's looks); each row that meets fmt, with fmt's text TOLD by the authors' own Lean function (tested against real Go, not proved from fmt's source: count such statements apart). THE CARD IS WHAT COUNTS. Prove the row's statement (the work); the ties are given (YtajcdaclbammaaaDoorTie.lean); close each card by the builder's one call (the guide's Derived/Test/ToyasCard.lean, 'card_holds'). Laid BY PROGRAM, IN A SANDBOX (cutbox-door.mjs). By AI agents, Wed Nov 11 2026. No macro, syntax, notation, axiom, sorry.
-/
import Derived.Test.YtajcdaclbammaaaDoorRows
import GoSem.ClaimSeven
namespace Go.Proofs.YtajcdaclbammaaaDoor
namespace Rows

/-- THE TIED CARD OF 'laws.FnExactLessonText'. -/
def fnExactLessonTextCard : Claim7 := { stood := { row := fnExactLessonTextRow, standIns := [], harness := (true, "10ca4b7570b19b9673d990e2de06b184da88074b7c69cf21cfc7c20b78768cf7"), looks := false }, kinds := [], alts := [], laidByText := true, laidKinds := [.data, .data, .data], laidTests := true, laidLooks := .later }
def FnExactLessonTextCardSaid : Prop := Claim7.holds Tryd.pinned (.plain (OpenSpec.ofChange fnExactLessonTextSpec)) fnExactLessonTextCard

/-- THE SECOND FORM's CARD OF 'laws.FnExactLessonText'. -/
def fnExactLessonTextUptoCard : Claim7 := { stood := { row := fnExactLessonTextUptoRow, standIns := [], harness := (true, "10ca4b7570b19b9673d990e2de06b184da88074b7c69cf21cfc7c20b78768cf7"), looks := false }, kinds := [], alts := [], laidByText := true, laidKinds := [.data, .data, .data], laidTests := true, laidLooks := .later }
def FnExactLessonTextUptoCardSaid : Prop := Claim7.holds Tryd.pinned (.plain (OpenSpec.upto fnExactLessonTextSpec)) fnExactLessonTextUptoCard
end Rows
end Go.Proofs.YtajcdaclbammaaaDoor
