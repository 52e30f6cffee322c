/- The walk of the law FnExactValidTrials: it returns true, and what was there stays as it was. -/
import Derived.Test.YtldhhbnochlmlaaTrO
namespace Go.Proofs.Ytldhhbnochlmlaa.fnExactValidTrials
open Go.RowKit Go.BigFrame
attribute [local go_sem] sub_cell sub_frozen drewN_setCell

set_option maxHeartbeats 1000000 in
theorem walk (A0 : Option Addr) (n0 c0 : Nat) (l : List (Int × Int × Int)) (w : World) (h0 : InT w A0 n0 l) :
    Calls Try.prog 7 #[.slice A0 n0 c0] w fun e w' => e = .returned (.bool true) ∧ Below w.heap.size w w' := by
  obtain ⟨ha, _, hm⟩ := h0
  unfold maxLen at hm
  obtain ⟨r, hr⟩ : ∃ r, okT l = r := ⟨_, rfl⟩
  have HR := Lib.hid hr
  clear hr
  by_cases hn : n0 ≤ 1048576
  · have hsz : (if (1048576 : Int) - n0 < 0 then (-1 : Int) else 1048576 - n0) = 1048576 - n0 := if_neg (by omega)
    have H1 := Lib.hid (fun W => c_szTrialS A0 n0 c0 1048576 _ (by omega) (by omega) (by omega) hsz W)
    clear hsz
    have HL := Lib.hid ha.1
    go_enter Try.func7, Try.ntmps7
    go_wp2_with fail
    refine (H1.out _).mono ?_
    rintro r_ w' ⟨rfl, rfl⟩
    go_wp2_with fail
    refine (c_toTrialS _ _ _ _ _ ha hn).mono ?_
    rintro r_ w1 ⟨rfl, o1, b1⟩
    go_wp2_with fail
    refine (c_sValidTrials _ _ _ _ _ HR.out _ (HL.out ▸ o1.sl) hn).mono ?_
    rintro r_ w2 ⟨rfl, b2⟩
    have e2 := b1.trans (b2.mono b1.size)
    go_wp2_with fail
    refine (c_toTrialS _ _ _ _ _ (ha.later e2) hn).mono ?_
    rintro r_ w3 ⟨rfl, o3, b3⟩
    have e3 := e2.trans (b3.mono e2.size)
    go_wp2_with fail
    refine (c_iValidTrials _ _ _ _ _ HR.out _ (HL.out ▸ o3.sl) hn).mono ?_
    rintro r_ w4 ⟨rfl, b4⟩
    have e4 := e3.trans (b4.mono e3.size)
    have o4 := o3.later b4
    go_wp2_with fail
    refine (c_toTrialS _ _ _ _ _ (ha.later e4) hn).mono ?_
    rintro r_ w5 ⟨rfl, o5, b5⟩
    have e5 := e4.trans (b5.mono e4.size)
    have o5' := o4.later b5
    go_wp2_with fail
    refine (c_eqTrialS _ _ _ _ _ _ _ (HL.out ▸ o5'.sl) (HL.out ▸ o5.sl) (by omega)).mono ?_
    rintro r_ w6 ⟨rfl, b6⟩
    have e6 := e5.trans (b6.mono e5.size)
    go_wp2_with fail
    go_ret
    exact ⟨rfl, e6⟩
  · have hsz : (if (1048576 : Int) - n0 < 0 then (-1 : Int) else 1048576 - n0) = -1 := if_pos (by omega)
    have H1 := Lib.hid (fun W => c_szTrialS A0 n0 c0 1048576 _ (by omega) (by omega) (by omega) hsz W)
    clear hsz
    go_enter Try.func7, Try.ntmps7
    go_wp2_with fail
    refine (H1.out _).mono ?_
    rintro r_ w' ⟨rfl, rfl⟩
    go_wp2_with fail
    go_ret
    exact ⟨rfl, Below.refl _ _⟩
end Go.Proofs.Ytldhhbnochlmlaa.fnExactValidTrials
