/- The walk of the law FnExactErrorsIn: it returns true, and what was there stays as it was. -/
import Derived.Test.YthgoofjojanakaaEr2
namespace Go.Proofs.Ythgoofjojanakaa.fnExactErrorsIn
open Go.RowKit Go.BigFrame
attribute [local go_sem] sub_cell sub_frozen drewN_setCell

set_option maxHeartbeats 2000000 in
theorem walk (s0 : ByteArray) (w : World) (w0 : s0.size ≤ maxLen) :
    Calls Try.prog 3 #[.string s0] w fun e w' => e = .returned (.bool true) ∧ Below w.heap.size w w' := by
  have hz0 := errZ_len (bl s0)
  have C1 : Hid (∀ W, Calls Try.prog 12 #[.string s0] W (IntsPost (errZ (bl s0)) (errC (bl s0)) W)) := fun W => c_sErrorsIn s0 W w0
  have C2 : Hid (∀ W, Calls Try.prog 13 #[.string s0] W (IntsPost (errZ (bl s0)) (errC (bl s0)) W)) := fun W => c_iErrorsIn s0 W w0
  generalize errZ (bl s0) = zs at *
  generalize errC (bl s0) = v at *
  unfold maxLen at w0
  by_cases hn0 : s0.size ≤ 1048576
  · have hq2 : ¬ ((1 : Int) + (zs.length : Int) < 0) := by omega
    go_enter Try.func3, Try.ntmps3
    go_wp2_with fail
    refine (C1.out _).mono ?_
    rintro r_ w1 ⟨Aw, cw, rfl, ow1, b1⟩
    have e1 := b1
    go_wp2_with fail
    refine (C2.out _).mono ?_
    rintro r_ w2 ⟨Ag, cg, rfl, og2, b2⟩
    have e2 := e1.trans (b2.mono e1.size)
    have ow2 := own_below ow1 b2
    go_wp2_with fail
    refine (c_eqInt64S _ _ _ _ _ _ _ (z_own og2) (z_own ow2) (by omega)).mono ?_
    rintro r_ w3 ⟨rfl, b3⟩
    have e3 := e2.trans (b3.mono e2.size)
    have ow3 := own_below ow2 b3
    have og3 := own_below og2 b3
    go_wp2_with fail
    refine (c_markInt64S _ _ _ _ _ _ _ rfl og3 (by omega) (by omega) (by omega)).mono ?_
    rintro r_ w4 ⟨rfl, og4, m4⟩
    have e4 := below_mark e3 m4 og3 e1.size e3.size
    have ow4 := own_mark_young ow3 m4 og3 (own_lt ow1) (Nat.le_refl _)
    go_wp2_with fail
    refine (c_heldInt64S _ _ _ _ _ (z_held og4) (by omega) (by omega) (by omega)).mono ?_
    rintro r_ w5 ⟨rfl, b5⟩
    have e5 := e4.trans (b5.mono e4.size)
    have ow5 := own_below ow4 b5
    have og5 := own_below og4 b5
    go_wp2_with fail
    refine (C2.out _).mono ?_
    rintro r_ w6 ⟨Ah, ch, rfl, oh6, b6⟩
    have e6 := e5.trans (b6.mono e5.size)
    have ow6 := own_below ow5 b6
    have og6 := own_below og5 b6
    go_wp2_with fail
    refine (c_eqInt64S _ _ _ _ _ _ _ (z_own oh6) (z_own ow6) (by omega)).mono ?_
    rintro r_ w7 ⟨rfl, b7⟩
    have e7 := e6.trans (b7.mono e6.size)
    have og7 := own_below og6 b7
    go_wp2_with fail
    refine (c_heldInt64S _ _ _ _ _ (z_held og7) (by omega) (by omega) (by omega)).mono ?_
    rintro r_ w8 ⟨rfl, b8⟩
    have e8 := e7.trans (b8.mono e7.size)
    go_wp2_with fail
    go_returns
    exact ⟨rfl, e8⟩
  · go_enter Try.func3, Try.ntmps3
    go_wp2_with fail
    go_returns
    exact ⟨rfl, Below.refl _ _⟩
end Go.Proofs.Ythgoofjojanakaa.fnExactErrorsIn
