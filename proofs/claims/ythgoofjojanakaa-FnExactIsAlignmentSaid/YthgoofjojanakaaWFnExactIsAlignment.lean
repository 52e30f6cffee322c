/- The walk of the law FnExactIsAlignment: it returns true, and what was there stays as it was. -/
import Derived.Test.YthgoofjojanakaaEr5
namespace Go.Proofs.Ythgoofjojanakaa.fnExactIsAlignment
open Go.RowKit Go.BigFrame
attribute [local go_sem] sub_cell sub_frozen drewN_setCell

set_option maxHeartbeats 2000000 in
theorem walk (s0 : ByteArray) (s1 : ByteArray) (s2 : ByteArray) (w : World) (w0 : s0.size ≤ maxLen) (w1 : s1.size ≤ maxLen) (w2 : s2.size ≤ maxLen) :
    Calls Try.prog 5 #[.string s0, .string s1, .string s2] w fun e w' => e = .returned (.bool true) ∧ Below w.heap.size w w' := by
  have C1 := Lib.hid (fun W => c_sIsAlignment s0 s1 s2 W w0 w1 w2)
  have C2 := Lib.hid (fun W => c_iIsAlignment s0 s1 s2 W w0 w1 w2)
  generalize alB (bl s0) (bl s1) (bl s2) = v at C1 C2
  generalize alC (bl s0) (bl s1) (bl s2) = c at C1 C2
  unfold maxLen at w0 w1 w2
  by_cases hn0 : s0.size ≤ 1048576
  rotate_left
  · go_enter Try.func5, Try.ntmps5
    go_wp2_with fail
    go_returns
    exact ⟨rfl, Below.refl _ _⟩
  by_cases hn1 : s1.size ≤ 1048576
  rotate_left
  · go_enter Try.func5, Try.ntmps5
    go_wp2_with fail
    go_returns
    exact ⟨rfl, Below.refl _ _⟩
  by_cases hn2 : s2.size ≤ 1048576
  rotate_left
  · go_enter Try.func5, Try.ntmps5
    go_wp2_with fail
    go_returns
    exact ⟨rfl, Below.refl _ _⟩
  go_enter Try.func5, Try.ntmps5
  go_wp2_with fail
  refine (C1.out _).mono ?_
  rintro r_ w1 ⟨rfl, b1⟩
  have e1 := b1
  go_wp2_with fail
  refine (C2.out _).mono ?_
  rintro r_ w2 ⟨rfl, b2⟩
  have e2 := e1.trans (b2.mono e1.size)
  go_wp2_with fail
  go_returns
  exact ⟨rfl, e2⟩
end Go.Proofs.Ythgoofjojanakaa.fnExactIsAlignment
