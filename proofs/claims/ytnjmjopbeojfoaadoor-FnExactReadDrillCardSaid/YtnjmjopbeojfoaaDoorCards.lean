/-
  DERIVED. GIVEN WITH THE SEED: THE CARDS: each row of YtnjmjopbeojfoaaDoorRows.lean that lists a variable, with what it lists TIED to the program's text (the seventh form; the later family's looks); each row that meets fmt, with fmt's text TOLD by the authors' own Lean function (tested against real Go, not proved from fmt's source: count such statements apart). THE CARD IS WHAT COUNTS. Prove the row's statement (the work); the ties are given (YtnjmjopbeojfoaaDoorTie.lean); close each card by the builder's one call (the guide's Derived/Test/ToyasCard.lean, 'card_holds'). Laid BY PROGRAM, IN A SANDBOX (cutbox-door.mjs). By AI agents, Wed Nov 11 2026. No macro, syntax, notation, axiom, sorry.
-/
import Derived.Test.YtnjmjopbeojfoaaDoorRows
import GoSem.ClaimSeven
namespace Go.Proofs.YtnjmjopbeojfoaaDoor
namespace Rows

/-- THE TIED CARD OF 'laws.FnExactDrillText'. -/
def fnExactDrillTextCard : Claim7 := { stood := { row := fnExactDrillTextRow, standIns := [], harness := (true, "9b255c7105d0b6015734fc7bdff9ee4f1884ce18553f789d914ec1dd387ec59e"), looks := false }, kinds := [], alts := [], laidByText := true, laidKinds := [.data, .data, .data], laidTests := true, laidLooks := .later }
def FnExactDrillTextCardSaid : Prop := Claim7.holds Tryd.pinned (.plain (OpenSpec.ofChange fnExactDrillTextSpec)) fnExactDrillTextCard

/-- THE TIED CARD OF 'laws.FnExactReadDrill'. -/
def fnExactReadDrillCard : Claim7 := { stood := { row := fnExactReadDrillRow, standIns := [], harness := (true, "9b255c7105d0b6015734fc7bdff9ee4f1884ce18553f789d914ec1dd387ec59e"), looks := false }, kinds := [], alts := [], laidByText := true, laidKinds := [.data, .data, .data], laidTests := true, laidLooks := .later }
def FnExactReadDrillCardSaid : Prop := Claim7.holds Tryd.pinned (.plain (OpenSpec.ofChange fnExactReadDrillSpec)) fnExactReadDrillCard

/-- THE SECOND FORM's CARD OF 'laws.FnExactDrillText'. -/
def fnExactDrillTextUptoCard : Claim7 := { stood := { row := fnExactDrillTextUptoRow, standIns := [], harness := (true, "9b255c7105d0b6015734fc7bdff9ee4f1884ce18553f789d914ec1dd387ec59e"), looks := false }, kinds := [], alts := [], laidByText := true, laidKinds := [.data, .data, .data], laidTests := true, laidLooks := .later }
def FnExactDrillTextUptoCardSaid : Prop := Claim7.holds Tryd.pinned (.plain (OpenSpec.upto fnExactDrillTextSpec)) fnExactDrillTextUptoCard

/-- THE SECOND FORM's CARD OF 'laws.FnExactReadDrill'. -/
def fnExactReadDrillUptoCard : Claim7 := { stood := { row := fnExactReadDrillUptoRow, standIns := [], harness := (true, "9b255c7105d0b6015734fc7bdff9ee4f1884ce18553f789d914ec1dd387ec59e"), looks := false }, kinds := [], alts := [], laidByText := true, laidKinds := [.data, .data, .data], laidTests := true, laidLooks := .later }
def FnExactReadDrillUptoCardSaid : Prop := Claim7.holds Tryd.pinned (.plain (OpenSpec.upto fnExactReadDrillSpec)) fnExactReadDrillUptoCard
end Rows
end Go.Proofs.YtnjmjopbeojfoaaDoor
