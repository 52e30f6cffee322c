/- The walk of the law FnExactStrokesNeeded: it returns true, and what was there stays as it was. -/
import Derived.Test.YtldhhbnochlmlaaSp4
namespace Go.Proofs.Ytldhhbnochlmlaa.fnExactStrokesNeeded
open Go.RowKit Go.BigFrame
attribute [local go_sem] sub_cell sub_frozen drewN_setCell

theorem snV_form (a b c d : Int) : ∃ x y, snV a b c d = .tuple #[.int .i64 x, .int .i64 y] := by
  unfold snV
  split
  · split <;> exact ⟨_, _, rfl⟩
  · exact ⟨_, _, rfl⟩
set_option maxHeartbeats 1000000 in
theorem walk (a0 a1 a2 a3 : Int) (w : World) (w0 : (Lit.int .i64 a0).wf = true) (w1 : (Lit.int .i64 a1).wf = true) (w2 : (Lit.int .i64 a2).wf = true) (w3 : (Lit.int .i64 a3).wf = true) :
    Calls Try.prog 3 #[.int .i64 a0, .int .i64 a1, .int .i64 a2, .int .i64 a3] w fun e w' => e = .returned (.bool true) ∧ Below w.heap.size w w' := by
  obtain ⟨x, y, hv⟩ := snV_form a0 a1 a2 a3
  have c1 := c_sStrokesNeeded a0 a1 a2 a3
  have c2 := c_iStrokesNeeded a0 a1 a2 a3
  rw [hv] at c1 c2
  have C1 := Lib.hid c1
  have C2 := Lib.hid c2
  clear c1 c2 hv w0 w1 w2 w3
  go_enter Try.func3, Try.ntmps3
  go_wp2_with (first
    | (go_at_call 15; refine (C1.out _).mono ?_; rintro r_ w' ⟨rfl, rfl⟩)
    | (go_at_call 16; refine (C2.out _).mono ?_; rintro r_ w' ⟨rfl, rfl⟩))
  go_returns
  exact ⟨rfl, Below.refl _ _⟩
end Go.Proofs.Ytldhhbnochlmlaa.fnExactStrokesNeeded
