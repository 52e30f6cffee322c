/-
  No cell of these rows narrows 'for every input' (looked for: loops, veiled, ifaces, maps, wideKeys, modest, calm, conditions, laid).
  DERIVED. THE GIVEN ROWS OF THIS SEAT. 9 by the template 'for every input the law returns true; each argument reads behind the call as it read before'; 0 by the template 'total and deterministic' (their statements: YtnjmjopbeojfoaaTotals.lean).
  GIVEN WITH THE SEED: the statements are not yours to turn. If you find one false, say at which input.
  Laid BY PROGRAM, IN A SANDBOX (cutbox-rows.mjs): the forced cells as the released guide's own fill.sh prints them over the translation 180a1cde3427e6ed… (all of the seat's roots in one cut). By AI agents, Wed Nov 11 2026. No macro, syntax, notation, axiom, sorry.
-/
import Derived.Test.YtnjmjopbeojfoaaChecked
import GoSem.Claim
import GoSem.ClaimJoined
import GoSem.ClaimMapViews
import Derived.JoinedTies
import Derived.KernelRfl
namespace Go.Proofs.Ytnjmjopbeojfoaa
/- THE CELL 'sum', in the pinned program and in every row, IS THE sha256 OF THE DUMP (.gsa) THAT YtnjmjopbeojfoaaProg.lean LOADS. Nothing in Lean hashes anything: it is a label: what it is worth is what the hold of that sum in a sandbox is worth. -/
noncomputable def Try.pinned : Pinned := { name := "ytnjmjopbeojfoaa", sum := "180a1cde3427e6ed01e5d03c8e06ef0e43d01fd1548f28175017408ca9a01bed", checked := Try.checked }
namespace Rows
def none {H : Type} : Left H := { results := [], args := [] }

/-- 'laws.FnExactValidNeeds': WHATEVER THE INPUT: true; the input reads as it did. -/
def fnExactValidNeedsSpec : ChangeSpec := { name := "fnExactValidNeeds", fn := fun _ => fun
  | [d1, d2] => { results := [.lit (.bool true)], args := [d1, d2] }
  | _ => none }
def fnExactValidNeedsRow : OpenClaim := { program := "ytnjmjopbeojfoaa", sum := "180a1cde3427e6ed01e5d03c8e06ef0e43d01fd1548f28175017408ca9a01bed", func := "loop.example/g01045/laws.FnExactValidNeeds", spec := "fnExactValidNeeds", apart := false }
def FnExactValidNeedsSaid : Prop := fnExactValidNeedsRow.holds Try.pinned (OpenSpec.ofChange fnExactValidNeedsSpec)

/-- ITS FALSE NEIGHBOUR: 'it returns false'. Refute it at one input. -/
def fnExactValidNeedsWrong : ChangeSpec := { name := "fnExactValidNeeds", fn := fun _ => fun
  | [d1, d2] => { results := [.lit (.bool false)], args := [d1, d2] }
  | _ => none }
def FnExactValidNeedsWrongFalsely : Prop := fnExactValidNeedsRow.holds Try.pinned (OpenSpec.ofChange fnExactValidNeedsWrong)

/-- 'laws.FnExactDrillLine': WHATEVER THE INPUT: true; the input reads as it did. -/
def fnExactDrillLineSpec : ChangeSpec := { name := "fnExactDrillLine", fn := fun _ => fun
  | [d1, d2] => { results := [.lit (.bool true)], args := [d1, d2] }
  | _ => none }
def fnExactDrillLineRow : OpenClaim := { program := "ytnjmjopbeojfoaa", sum := "180a1cde3427e6ed01e5d03c8e06ef0e43d01fd1548f28175017408ca9a01bed", func := "loop.example/g01045/laws.FnExactDrillLine", spec := "fnExactDrillLine", apart := false }
def FnExactDrillLineSaid : Prop := fnExactDrillLineRow.holds Try.pinned (OpenSpec.ofChange fnExactDrillLineSpec)

/-- ITS FALSE NEIGHBOUR: 'it returns false'. Refute it at one input. -/
def fnExactDrillLineWrong : ChangeSpec := { name := "fnExactDrillLine", fn := fun _ => fun
  | [d1, d2] => { results := [.lit (.bool false)], args := [d1, d2] }
  | _ => none }
def FnExactDrillLineWrongFalsely : Prop := fnExactDrillLineRow.holds Try.pinned (OpenSpec.ofChange fnExactDrillLineWrong)

/-- 'laws.FnExactValidDrills': WHATEVER THE INPUT: true; the input reads as it did. -/
def fnExactValidDrillsSpec : ChangeSpec := { name := "fnExactValidDrills", fn := fun _ => fun
  | [d] => { results := [.lit (.bool true)], args := [d] }
  | _ => none }
def fnExactValidDrillsRow : OpenClaim := { program := "ytnjmjopbeojfoaa", sum := "180a1cde3427e6ed01e5d03c8e06ef0e43d01fd1548f28175017408ca9a01bed", func := "loop.example/g01045/laws.FnExactValidDrills", spec := "fnExactValidDrills", apart := false }
def FnExactValidDrillsSaid : Prop := fnExactValidDrillsRow.holds Try.pinned (OpenSpec.ofChange fnExactValidDrillsSpec)

/-- ITS FALSE NEIGHBOUR: 'it returns false'. Refute it at one input. -/
def fnExactValidDrillsWrong : ChangeSpec := { name := "fnExactValidDrills", fn := fun _ => fun
  | [d] => { results := [.lit (.bool false)], args := [d] }
  | _ => none }
def FnExactValidDrillsWrongFalsely : Prop := fnExactValidDrillsRow.holds Try.pinned (OpenSpec.ofChange fnExactValidDrillsWrong)

/-- 'laws.FnExactMinutesOf': WHATEVER THE INPUT: true; the input reads as it did. -/
def fnExactMinutesOfSpec : ChangeSpec := { name := "fnExactMinutesOf", fn := fun _ => fun
  | [d1, d2] => { results := [.lit (.bool true)], args := [d1, d2] }
  | _ => none }
def fnExactMinutesOfRow : OpenClaim := { program := "ytnjmjopbeojfoaa", sum := "180a1cde3427e6ed01e5d03c8e06ef0e43d01fd1548f28175017408ca9a01bed", func := "loop.example/g01045/laws.FnExactMinutesOf", spec := "fnExactMinutesOf", apart := false }
def FnExactMinutesOfSaid : Prop := fnExactMinutesOfRow.holds Try.pinned (OpenSpec.ofChange fnExactMinutesOfSpec)

/-- ITS FALSE NEIGHBOUR: 'it returns false'. Refute it at one input. -/
def fnExactMinutesOfWrong : ChangeSpec := { name := "fnExactMinutesOf", fn := fun _ => fun
  | [d1, d2] => { results := [.lit (.bool false)], args := [d1, d2] }
  | _ => none }
def FnExactMinutesOfWrongFalsely : Prop := fnExactMinutesOfRow.holds Try.pinned (OpenSpec.ofChange fnExactMinutesOfWrong)

/-- 'laws.FnExactAddDrill': WHATEVER THE INPUT: true; the input reads as it did. -/
def fnExactAddDrillSpec : ChangeSpec := { name := "fnExactAddDrill", fn := fun _ => fun
  | [d1, d2] => { results := [.lit (.bool true)], args := [d1, d2] }
  | _ => none }
def fnExactAddDrillRow : OpenClaim := { program := "ytnjmjopbeojfoaa", sum := "180a1cde3427e6ed01e5d03c8e06ef0e43d01fd1548f28175017408ca9a01bed", func := "loop.example/g01045/laws.FnExactAddDrill", spec := "fnExactAddDrill", apart := false }
def FnExactAddDrillSaid : Prop := fnExactAddDrillRow.holds Try.pinned (OpenSpec.ofChange fnExactAddDrillSpec)

/-- ITS FALSE NEIGHBOUR: 'it returns false'. Refute it at one input. -/
def fnExactAddDrillWrong : ChangeSpec := { name := "fnExactAddDrill", fn := fun _ => fun
  | [d1, d2] => { results := [.lit (.bool false)], args := [d1, d2] }
  | _ => none }
def FnExactAddDrillWrongFalsely : Prop := fnExactAddDrillRow.holds Try.pinned (OpenSpec.ofChange fnExactAddDrillWrong)

/-- 'laws.FnExactLettersLeft': WHATEVER THE INPUT: true; the input reads as it did. -/
def fnExactLettersLeftSpec : ChangeSpec := { name := "fnExactLettersLeft", fn := fun _ => fun
  | [d1, d2, d3] => { results := [.lit (.bool true)], args := [d1, d2, d3] }
  | _ => none }
def fnExactLettersLeftRow : OpenClaim := { program := "ytnjmjopbeojfoaa", sum := "180a1cde3427e6ed01e5d03c8e06ef0e43d01fd1548f28175017408ca9a01bed", func := "loop.example/g01045/laws.FnExactLettersLeft", spec := "fnExactLettersLeft", apart := false }
def FnExactLettersLeftSaid : Prop := fnExactLettersLeftRow.holds Try.pinned (OpenSpec.ofChange fnExactLettersLeftSpec)

/-- ITS FALSE NEIGHBOUR: 'it returns false'. Refute it at one input. -/
def fnExactLettersLeftWrong : ChangeSpec := { name := "fnExactLettersLeft", fn := fun _ => fun
  | [d1, d2, d3] => { results := [.lit (.bool false)], args := [d1, d2, d3] }
  | _ => none }
def FnExactLettersLeftWrongFalsely : Prop := fnExactLettersLeftRow.holds Try.pinned (OpenSpec.ofChange fnExactLettersLeftWrong)

/-- 'laws.FnExactCoveredBy': WHATEVER THE INPUT: true; the input reads as it did. -/
def fnExactCoveredBySpec : ChangeSpec := { name := "fnExactCoveredBy", fn := fun _ => fun
  | [d1, d2, d3, d4] => { results := [.lit (.bool true)], args := [d1, d2, d3, d4] }
  | _ => none }
def fnExactCoveredByRow : OpenClaim := { program := "ytnjmjopbeojfoaa", sum := "180a1cde3427e6ed01e5d03c8e06ef0e43d01fd1548f28175017408ca9a01bed", func := "loop.example/g01045/laws.FnExactCoveredBy", spec := "fnExactCoveredBy", apart := false }
def FnExactCoveredBySaid : Prop := fnExactCoveredByRow.holds Try.pinned (OpenSpec.ofChange fnExactCoveredBySpec)

/-- ITS FALSE NEIGHBOUR: 'it returns false'. Refute it at one input. -/
def fnExactCoveredByWrong : ChangeSpec := { name := "fnExactCoveredBy", fn := fun _ => fun
  | [d1, d2, d3, d4] => { results := [.lit (.bool false)], args := [d1, d2, d3, d4] }
  | _ => none }
def FnExactCoveredByWrongFalsely : Prop := fnExactCoveredByRow.holds Try.pinned (OpenSpec.ofChange fnExactCoveredByWrong)

/-- 'laws.FnExactFewestDrills': WHATEVER THE INPUT: true; the input reads as it did. -/
def fnExactFewestDrillsSpec : ChangeSpec := { name := "fnExactFewestDrills", fn := fun _ => fun
  | [d1, d2] => { results := [.lit (.bool true)], args := [d1, d2] }
  | _ => none }
def fnExactFewestDrillsRow : OpenClaim := { program := "ytnjmjopbeojfoaa", sum := "180a1cde3427e6ed01e5d03c8e06ef0e43d01fd1548f28175017408ca9a01bed", func := "loop.example/g01045/laws.FnExactFewestDrills", spec := "fnExactFewestDrills", recurses := true, apart := false }
def FnExactFewestDrillsSaid : Prop := fnExactFewestDrillsRow.holds Try.pinned (OpenSpec.ofChange fnExactFewestDrillsSpec)

/-- ITS FALSE NEIGHBOUR: 'it returns false'. Refute it at one input. -/
def fnExactFewestDrillsWrong : ChangeSpec := { name := "fnExactFewestDrills", fn := fun _ => fun
  | [d1, d2] => { results := [.lit (.bool false)], args := [d1, d2] }
  | _ => none }
def FnExactFewestDrillsWrongFalsely : Prop := fnExactFewestDrillsRow.holds Try.pinned (OpenSpec.ofChange fnExactFewestDrillsWrong)

/-- 'laws.FnExactBestDrills': WHATEVER THE INPUT: true; the input reads as it did. -/
def fnExactBestDrillsSpec : ChangeSpec := { name := "fnExactBestDrills", fn := fun _ => fun
  | [d1, d2, d3, d4] => { results := [.lit (.bool true)], args := [d1, d2, d3, d4] }
  | _ => none }
def fnExactBestDrillsRow : OpenClaim := { program := "ytnjmjopbeojfoaa", sum := "180a1cde3427e6ed01e5d03c8e06ef0e43d01fd1548f28175017408ca9a01bed", func := "loop.example/g01045/laws.FnExactBestDrills", spec := "fnExactBestDrills", recurses := true, apart := false }
def FnExactBestDrillsSaid : Prop := fnExactBestDrillsRow.holds Try.pinned (OpenSpec.ofChange fnExactBestDrillsSpec)

/-- ITS FALSE NEIGHBOUR: 'it returns false'. Refute it at one input. -/
def fnExactBestDrillsWrong : ChangeSpec := { name := "fnExactBestDrills", fn := fun _ => fun
  | [d1, d2, d3, d4] => { results := [.lit (.bool false)], args := [d1, d2, d3, d4] }
  | _ => none }
def FnExactBestDrillsWrongFalsely : Prop := fnExactBestDrillsRow.holds Try.pinned (OpenSpec.ofChange fnExactBestDrillsWrong)

/- THE SECOND FORM. 'bulk': how many values and letters a reading holds, each counted each time it is reached (what is shared counts as often as it is met; a slice's spare places count too). A statement '..UptoSaid' is the law's where the arguments, and the package variables that the reading takes, are together of bulk at most 1048576: NARROWER than '..Said'. Prove '..Said' where nothing that the law and all that it calls make is longer than what came in: it says more and counts as full. Else prove '..UptoSaid'. A law counts once. -/
mutual
def uptoBulk {H : Type} : DataW H → Nat
  | .lit (.string bytes) => bytes.length + 1
  | .lit _ => 1
  | .nil => 1
  | .ptr d => uptoBulk d + 1
  | .slice elems spare => uptoBulkAll elems + uptoBulkAll spare + 1
  | .agg parts => uptoBulkAll parts + 1
  | .iface _ d => uptoBulk d + 1
  | .map entries => uptoBulkEntries entries + 1
  | .held _ => 1
def uptoBulkAll {H : Type} : List (DataW H) → Nat
  | [] => 0
  | d :: r => uptoBulk d + uptoBulkAll r
def uptoBulkEntries {H : Type} : List (Lit × DataW H) → Nat
  | [] => 0
  | x :: r => uptoBulkEntry x + uptoBulkEntries r
def uptoBulkEntry {H : Type} : Lit × DataW H → Nat
  | (.string bytes, d) => bytes.length + uptoBulk d + 1
  | (_, d) => uptoBulk d + 1
 end
def uptoSmall : (H : Type) → List (DataW H) → Bool := fun _ ds => decide (uptoBulkAll ds ≤ 1048576)
def OpenSpec.upto (s : _root_.Go.ChangeSpec) : _root_.Go.OpenSpec := { _root_.Go.OpenSpec.ofChange s with cond := some uptoSmall }

/-- 'laws.FnExactValidNeeds', WHERE WHAT IT READS IS OF BULK AT MOST 1048576: true; the input reads as it did. -/
def fnExactValidNeedsUptoRow : OpenClaim := { program := "ytnjmjopbeojfoaa", sum := "180a1cde3427e6ed01e5d03c8e06ef0e43d01fd1548f28175017408ca9a01bed", func := "loop.example/g01045/laws.FnExactValidNeeds", spec := "fnExactValidNeeds", apart := false, narrowed := true }
def FnExactValidNeedsUptoSaid : Prop := fnExactValidNeedsUptoRow.holds Try.pinned (OpenSpec.upto fnExactValidNeedsSpec)

/-- 'laws.FnExactDrillLine', WHERE WHAT IT READS IS OF BULK AT MOST 1048576: true; the input reads as it did. -/
def fnExactDrillLineUptoRow : OpenClaim := { program := "ytnjmjopbeojfoaa", sum := "180a1cde3427e6ed01e5d03c8e06ef0e43d01fd1548f28175017408ca9a01bed", func := "loop.example/g01045/laws.FnExactDrillLine", spec := "fnExactDrillLine", apart := false, narrowed := true }
def FnExactDrillLineUptoSaid : Prop := fnExactDrillLineUptoRow.holds Try.pinned (OpenSpec.upto fnExactDrillLineSpec)

/-- 'laws.FnExactValidDrills', WHERE WHAT IT READS IS OF BULK AT MOST 1048576: true; the input reads as it did. -/
def fnExactValidDrillsUptoRow : OpenClaim := { program := "ytnjmjopbeojfoaa", sum := "180a1cde3427e6ed01e5d03c8e06ef0e43d01fd1548f28175017408ca9a01bed", func := "loop.example/g01045/laws.FnExactValidDrills", spec := "fnExactValidDrills", apart := false, narrowed := true }
def FnExactValidDrillsUptoSaid : Prop := fnExactValidDrillsUptoRow.holds Try.pinned (OpenSpec.upto fnExactValidDrillsSpec)

/-- 'laws.FnExactMinutesOf', WHERE WHAT IT READS IS OF BULK AT MOST 1048576: true; the input reads as it did. -/
def fnExactMinutesOfUptoRow : OpenClaim := { program := "ytnjmjopbeojfoaa", sum := "180a1cde3427e6ed01e5d03c8e06ef0e43d01fd1548f28175017408ca9a01bed", func := "loop.example/g01045/laws.FnExactMinutesOf", spec := "fnExactMinutesOf", apart := false, narrowed := true }
def FnExactMinutesOfUptoSaid : Prop := fnExactMinutesOfUptoRow.holds Try.pinned (OpenSpec.upto fnExactMinutesOfSpec)

/-- 'laws.FnExactAddDrill', WHERE WHAT IT READS IS OF BULK AT MOST 1048576: true; the input reads as it did. -/
def fnExactAddDrillUptoRow : OpenClaim := { program := "ytnjmjopbeojfoaa", sum := "180a1cde3427e6ed01e5d03c8e06ef0e43d01fd1548f28175017408ca9a01bed", func := "loop.example/g01045/laws.FnExactAddDrill", spec := "fnExactAddDrill", apart := false, narrowed := true }
def FnExactAddDrillUptoSaid : Prop := fnExactAddDrillUptoRow.holds Try.pinned (OpenSpec.upto fnExactAddDrillSpec)

/-- 'laws.FnExactLettersLeft', WHERE WHAT IT READS IS OF BULK AT MOST 1048576: true; the input reads as it did. -/
def fnExactLettersLeftUptoRow : OpenClaim := { program := "ytnjmjopbeojfoaa", sum := "180a1cde3427e6ed01e5d03c8e06ef0e43d01fd1548f28175017408ca9a01bed", func := "loop.example/g01045/laws.FnExactLettersLeft", spec := "fnExactLettersLeft", apart := false, narrowed := true }
def FnExactLettersLeftUptoSaid : Prop := fnExactLettersLeftUptoRow.holds Try.pinned (OpenSpec.upto fnExactLettersLeftSpec)

/-- 'laws.FnExactCoveredBy', WHERE WHAT IT READS IS OF BULK AT MOST 1048576: true; the input reads as it did. -/
def fnExactCoveredByUptoRow : OpenClaim := { program := "ytnjmjopbeojfoaa", sum := "180a1cde3427e6ed01e5d03c8e06ef0e43d01fd1548f28175017408ca9a01bed", func := "loop.example/g01045/laws.FnExactCoveredBy", spec := "fnExactCoveredBy", apart := false, narrowed := true }
def FnExactCoveredByUptoSaid : Prop := fnExactCoveredByUptoRow.holds Try.pinned (OpenSpec.upto fnExactCoveredBySpec)

/-- 'laws.FnExactFewestDrills', WHERE WHAT IT READS IS OF BULK AT MOST 1048576: true; the input reads as it did. -/
def fnExactFewestDrillsUptoRow : OpenClaim := { program := "ytnjmjopbeojfoaa", sum := "180a1cde3427e6ed01e5d03c8e06ef0e43d01fd1548f28175017408ca9a01bed", func := "loop.example/g01045/laws.FnExactFewestDrills", spec := "fnExactFewestDrills", recurses := true, apart := false, narrowed := true }
def FnExactFewestDrillsUptoSaid : Prop := fnExactFewestDrillsUptoRow.holds Try.pinned (OpenSpec.upto fnExactFewestDrillsSpec)

/-- 'laws.FnExactBestDrills', WHERE WHAT IT READS IS OF BULK AT MOST 1048576: true; the input reads as it did. -/
def fnExactBestDrillsUptoRow : OpenClaim := { program := "ytnjmjopbeojfoaa", sum := "180a1cde3427e6ed01e5d03c8e06ef0e43d01fd1548f28175017408ca9a01bed", func := "loop.example/g01045/laws.FnExactBestDrills", spec := "fnExactBestDrills", recurses := true, apart := false, narrowed := true }
def FnExactBestDrillsUptoSaid : Prop := fnExactBestDrillsUptoRow.holds Try.pinned (OpenSpec.upto fnExactBestDrillsSpec)

end Rows
end Go.Proofs.Ytnjmjopbeojfoaa
