/-
  DERIVED. GIVEN WITH THE SEED: THE CARDS: each row of YtldhhbnochlmlaaDoorRows.lean that lists a variable, with what it lists TIED to the program's text (the seventh form; the later family's looks); each row that meets fmt, with fmt's text TOLD by the authors' own Lean function (tested against real Go, not proved from fmt's source: count such statements apart). THE CARD IS WHAT COUNTS. Prove the row's statement (the work); the ties are given (YtldhhbnochlmlaaDoorTie.lean); close each card by the builder's one call (the guide's Derived/Test/ToyasCard.lean, 'card_holds'). Laid BY PROGRAM, IN A SANDBOX (cutbox-door.mjs). By AI agents, Wed Nov 11 2026. No macro, syntax, notation, axiom, sorry.
-/
import Derived.Test.YtldhhbnochlmlaaDoorRows
import GoSem.ClaimSeven
namespace Go.Proofs.YtldhhbnochlmlaaDoor
namespace Rows

/-- THE TIED CARD OF 'laws.FnExactTrialText'. -/
def fnExactTrialTextCard : Claim7 := { stood := { row := fnExactTrialTextRow, standIns := [], harness := (true, "1d67f20d8e3a1c209f8fe68ab08c3814869f41e55a61752a2d3638a295081002"), looks := false }, kinds := [], alts := [], laidByText := true, laidKinds := [.data, .data, .data], laidTests := true, laidLooks := .later }
def FnExactTrialTextCardSaid : Prop := Claim7.holds Tryd.pinned (.plain (OpenSpec.ofChange fnExactTrialTextSpec)) fnExactTrialTextCard

/-- THE TIED CARD OF 'laws.FnExactReadTrial'. -/
def fnExactReadTrialCard : Claim7 := { stood := { row := fnExactReadTrialRow, standIns := [], harness := (true, "1d67f20d8e3a1c209f8fe68ab08c3814869f41e55a61752a2d3638a295081002"), looks := false }, kinds := [], alts := [], laidByText := true, laidKinds := [.data, .data, .data], laidTests := true, laidLooks := .later }
def FnExactReadTrialCardSaid : Prop := Claim7.holds Tryd.pinned (.plain (OpenSpec.ofChange fnExactReadTrialSpec)) fnExactReadTrialCard

/-- THE SECOND FORM's CARD OF 'laws.FnExactTrialText'. -/
def fnExactTrialTextUptoCard : Claim7 := { stood := { row := fnExactTrialTextUptoRow, standIns := [], harness := (true, "1d67f20d8e3a1c209f8fe68ab08c3814869f41e55a61752a2d3638a295081002"), looks := false }, kinds := [], alts := [], laidByText := true, laidKinds := [.data, .data, .data], laidTests := true, laidLooks := .later }
def FnExactTrialTextUptoCardSaid : Prop := Claim7.holds Tryd.pinned (.plain (OpenSpec.upto fnExactTrialTextSpec)) fnExactTrialTextUptoCard

/-- THE SECOND FORM's CARD OF 'laws.FnExactReadTrial'. -/
def fnExactReadTrialUptoCard : Claim7 := { stood := { row := fnExactReadTrialUptoRow, standIns := [], harness := (true, "1d67f20d8e3a1c209f8fe68ab08c3814869f41e55a61752a2d3638a295081002"), looks := false }, kinds := [], alts := [], laidByText := true, laidKinds := [.data, .data, .data], laidTests := true, laidLooks := .later }
def FnExactReadTrialUptoCardSaid : Prop := Claim7.holds Tryd.pinned (.plain (OpenSpec.upto fnExactReadTrialSpec)) fnExactReadTrialUptoCard
end Rows
end Go.Proofs.YtldhhbnochlmlaaDoor
