/- The walk of the law FnExactSameTrials: it returns true, and what was there stays as it was. -/
import Derived.Test.YtldhhbnochlmlaaTrO
namespace Go.Proofs.Ytldhhbnochlmlaa.fnExactSameTrials
open Go.RowKit Go.BigFrame
attribute [local go_sem] sub_cell sub_frozen drewN_setCell

set_option maxHeartbeats 2000000 in
theorem walk (A0 : Option Addr) (n0 c0 : Nat) (l0 : List (Int × Int × Int)) (A1 : Option Addr) (n1 c1 : Nat) (l1 : List (Int × Int × Int)) (w : World) (h0 : InT w A0 n0 l0) (h1 : InT w A1 n1 l1) :
    Calls Try.prog 6 #[.slice A0 n0 c0, .slice A1 n1 c1] w fun e w' => e = .returned (.bool true) ∧ Below w.heap.size w w' := by
  obtain ⟨ha, _, hm0⟩ := h0
  obtain ⟨hb, _, hm1⟩ := h1
  unfold maxLen at hm0 hm1
  by_cases hn0 : n0 ≤ 1048576
  · have hsz : (if (1048576 : Int) - n0 < 0 then (-1 : Int) else 1048576 - n0) = 1048576 - n0 := if_neg (by omega)
    have H1 := Lib.hid (fun W => c_szTrialS A0 n0 c0 1048576 _ (by omega) (by omega) (by omega) hsz W)
    clear hsz
    by_cases hn1 : n0 + n1 ≤ 1048576
    · have hsz : (if (1048576 : Int) - n0 - n1 < 0 then (-1 : Int) else 1048576 - n0 - n1) = 1048576 - n0 - n1 := if_neg (by omega)
      have H2 := Lib.hid (fun W => c_szTrialS A1 n1 c1 (1048576 - n0) _ (by omega) (by omega) (by omega) hsz W)
      clear hsz
      have hn1' : n1 ≤ 1048576 := by omega
      have HL0 := Lib.hid ha.1
      have HL1 := Lib.hid hb.1
      go_enter Try.func6, Try.ntmps6
      go_wp2_with fail
      refine (H1.out _).mono ?_
      rintro r_ w' ⟨rfl, rfl⟩
      go_wp2_with fail
      refine (H2.out _).mono ?_
      rintro r_ w' ⟨rfl, rfl⟩
      go_wp2_with fail
      refine (c_toTrialS _ _ _ _ _ ha hn0).mono ?_
      rintro r_ w1 ⟨rfl, o1, b1⟩
      have e1 := b1
      go_wp2_with fail
      refine (c_toTrialS _ _ _ _ _ (hb.later e1) hn1').mono ?_
      rintro r_ w2 ⟨rfl, o2, b2⟩
      have e2 := e1.trans (b2.mono e1.size)
      go_wp2_with fail
      refine (c_sSameTrials _ _ _ _ _ _ l0 l1 _ (HL0.out ▸ (o1.later b2).sl) (HL1.out ▸ o2.sl) hn0 hn1').mono ?_
      rintro r_ w3 ⟨rfl, b3⟩
      have e3 := e2.trans (b3.mono e2.size)
      go_wp2_with fail
      refine (c_toTrialS _ _ _ _ _ (ha.later e3) hn0).mono ?_
      rintro r_ w4 ⟨rfl, o4, b4⟩
      have e4 := e3.trans (b4.mono e3.size)
      go_wp2_with fail
      refine (c_toTrialS _ _ _ _ _ (hb.later e4) hn1').mono ?_
      rintro r_ w5 ⟨rfl, o5, b5⟩
      have e5 := e4.trans (b5.mono e4.size)
      have o4a := o4.later b5
      go_wp2_with fail
      refine (c_iSameTrials _ _ _ _ _ _ l0 l1 _ (HL0.out ▸ o4a.sl) (HL1.out ▸ o5.sl) hn0 hn1').mono ?_
      rintro r_ w6 ⟨rfl, b6⟩
      have e6 := e5.trans (b6.mono e5.size)
      have o4b := o4a.later b6
      have o5b := o5.later b6
      go_wp2_with fail
      refine (c_toTrialS _ _ _ _ _ (ha.later e6) hn0).mono ?_
      rintro r_ w7 ⟨rfl, o7, b7⟩
      have e7 := e6.trans (b7.mono e6.size)
      have o4c := o4b.later b7
      have o5c := o5b.later b7
      go_wp2_with fail
      refine (c_eqTrialS _ _ _ _ _ _ _ (HL0.out ▸ o4c.sl) (HL0.out ▸ o7.sl) (by omega)).mono ?_
      rintro r_ w8 ⟨rfl, b8⟩
      have e8 := e7.trans (b8.mono e7.size)
      have o5d := o5c.later b8
      go_wp2_with fail
      refine (c_toTrialS _ _ _ _ _ (hb.later e8) hn1').mono ?_
      rintro r_ w9 ⟨rfl, o9, b9⟩
      have e9 := e8.trans (b9.mono e8.size)
      have o5e := o5d.later b9
      go_wp2_with fail
      refine (c_eqTrialS _ _ _ _ _ _ _ (HL1.out ▸ o5e.sl) (HL1.out ▸ o9.sl) (by omega)).mono ?_
      rintro r_ w10 ⟨rfl, b10⟩
      have e10 := e9.trans (b10.mono e9.size)
      go_wp2_with fail
      go_returns
      exact ⟨rfl, e10⟩
    · have hsz : (if (1048576 : Int) - n0 - n1 < 0 then (-1 : Int) else 1048576 - n0 - n1) = -1 := if_pos (by omega)
      have H2 := Lib.hid (fun W => c_szTrialS A1 n1 c1 (1048576 - n0) _ (by omega) (by omega) (by omega) hsz W)
      clear hsz
      go_enter Try.func6, Try.ntmps6
      go_wp2_with fail
      refine (H1.out _).mono ?_
      rintro r_ w' ⟨rfl, rfl⟩
      go_wp2_with fail
      refine (H2.out _).mono ?_
      rintro r_ w' ⟨rfl, rfl⟩
      go_wp2_with fail
      go_returns
      exact ⟨rfl, Below.refl _ _⟩
  · have hsz : (if (1048576 : Int) - n0 < 0 then (-1 : Int) else 1048576 - n0) = -1 := if_pos (by omega)
    have H1 := Lib.hid (fun W => c_szTrialS A0 n0 c0 1048576 _ (by omega) (by omega) (by omega) hsz W)
    clear hsz
    go_enter Try.func6, Try.ntmps6
    go_wp2_with fail
    refine (H1.out _).mono ?_
    rintro r_ w' ⟨rfl, rfl⟩
    go_wp2_with fail
    go_returns
    exact ⟨rfl, Below.refl _ _⟩
end Go.Proofs.Ytldhhbnochlmlaa.fnExactSameTrials
