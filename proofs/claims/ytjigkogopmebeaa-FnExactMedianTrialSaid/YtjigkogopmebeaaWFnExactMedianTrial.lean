/- The walk of the law FnExactMedianTrial: it returns true, and what was there stays as it was. -/
import Derived.Test.YtjigkogopmebeaaMd3
import Derived.Test.YtjigkogopmebeaaTrOM
namespace Go.Proofs.Ytjigkogopmebeaa.fnExactMedianTrial
open Go.RowKit Go.BigFrame
attribute [local go_sem] sub_cell sub_frozen drewN_setCell

set_option maxHeartbeats 2000000 in
theorem walk (A0 : Option Addr) (n0 c0 : Nat) (l0 : List (Int × Int × Int)) (pe : Int) (w : World) (h0 : InT w A0 n0 l0) (w1 : (Lit.int .i64 pe).wf = true) :
    Calls Try.prog 3 #[.slice A0 n0 c0, .int .i64 pe] w fun e w' => e = .returned (.bool true) ∧ Below w.heap.size w w' := by
  obtain ⟨ha, _, hm0⟩ := h0
  unfold maxLen at hm0
  clear w1
  obtain ⟨x, y, hv⟩ := medV_form l0 pe
  have C1 : Hid (∀ (A : Option Addr) (n c : Nat) (w : World), Sl trc w w.heap.size 3 A n l0 → n ≤ 1048576 → Calls Try.prog 5 #[.slice A n c, .int .i64 pe] w fun e w' => e = .returned (.tuple #[.int .i64 x, .int .i64 y]) ∧ Below w.heap.size w w') :=
    fun A n c w h1 h2 => hv ▸ c_sMedianTrial A n c l0 pe w h1 h2
  have C2 : Hid (∀ (A : Option Addr) (n c : Nat) (w : World), Sl trc w w.heap.size 3 A n l0 → n ≤ 1048576 → Calls Try.prog 7 #[.slice A n c, .int .i64 pe] w fun e w' => e = .returned (.tuple #[.int .i64 x, .int .i64 y]) ∧ Below w.heap.size w w') :=
    fun A n c w h1 h2 => hv ▸ c_iMedianTrial A n c l0 pe w h1 h2
  clear hv
  by_cases hn0 : n0 ≤ 1048576
  · have hsz : (if (1048576 : Int) - n0 < 0 then (-1 : Int) else 1048576 - n0) = 1048576 - n0 := if_neg (by omega)
    have H1 := Lib.hid (fun W => c_szTrialS A0 n0 c0 1048576 _ (by omega) (by omega) (by omega) hsz W)
    clear hsz
    have HL0 := Lib.hid ha.1
    go_enter Try.func3, Try.ntmps3
    go_wp2_with fail
    refine (H1.out _).mono ?_
    rintro r_ w' ⟨rfl, rfl⟩
    go_wp2_with fail
    refine (c_toTrialS _ _ _ _ _ ha hn0).mono ?_
    rintro r_ w1 ⟨rfl, o1, b1⟩
    have e1 := b1
    go_wp2_with fail
    refine (C1.out _ _ _ _ (HL0.out ▸ o1.sl) hn0).mono ?_
    rintro r_ w2 ⟨rfl, b2⟩
    have e2 := e1.trans (b2.mono e1.size)
    go_wp2_with fail
    refine (c_toTrialS _ _ _ _ _ (ha.later e2) hn0).mono ?_
    rintro r_ w3 ⟨rfl, o3, b3⟩
    have e3 := e2.trans (b3.mono e2.size)
    go_wp2_with fail
    refine (C2.out _ _ _ _ (HL0.out ▸ o3.sl) hn0).mono ?_
    rintro r_ w4 ⟨rfl, b4⟩
    have e4 := e3.trans (b4.mono e3.size)
    have o3a := o3.later b4
    go_wp2_with fail
    refine (c_toTrialS _ _ _ _ _ (ha.later e4) hn0).mono ?_
    rintro r_ w5 ⟨rfl, o5, b5⟩
    have e5 := e4.trans (b5.mono e4.size)
    have o3b := o3a.later b5
    go_wp2_with fail
    refine (c_eqTrialS _ _ _ _ _ _ _ (HL0.out ▸ o3b.sl) (HL0.out ▸ o5.sl) (by omega)).mono ?_
    rintro r_ w6 ⟨rfl, b6⟩
    have e6 := e5.trans (b6.mono e5.size)
    go_wp2_with fail
    go_returns
    exact ⟨rfl, e6⟩
  · have hsz : (if (1048576 : Int) - n0 < 0 then (-1 : Int) else 1048576 - n0) = -1 := if_pos (by omega)
    have H1 := Lib.hid (fun W => c_szTrialS A0 n0 c0 1048576 _ (by omega) (by omega) (by omega) hsz W)
    clear hsz
    go_enter Try.func3, Try.ntmps3
    go_wp2_with fail
    refine (H1.out _).mono ?_
    rintro r_ w' ⟨rfl, rfl⟩
    go_wp2_with fail
    go_returns
    exact ⟨rfl, Below.refl _ _⟩
end Go.Proofs.Ytjigkogopmebeaa.fnExactMedianTrial
