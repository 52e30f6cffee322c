/- The walk of the law FnExactValidDrills: it returns true, and what was there stays as it was. -/
import Derived.Test.YtnjmjopbeojfoaaDr2
namespace Go.Proofs.Ytnjmjopbeojfoaa.fnExactValidDrills
open Go.RowKit Go.BigFrame
attribute [local go_sem] sub_cell sub_frozen drewN_setCell

set_option maxHeartbeats 4000000 in
theorem walk (A0 : Option Addr) (n0 c0 : Nat) (l0 : List (TDrill)) (w : World) (w0 : InDrill w A0 n0 l0) :
    Calls Try.prog 5 #[.slice A0 n0 c0] w fun e w' => e = .returned (.bool true) ∧ Below w.heap.size w w' := by
  obtain ⟨ha0, ok0, hm0⟩ := w0
  have HL0 := Lib.hid ha0.1
  have OK0 := Lib.hid ok0
  have HA0 := Lib.hid ha0
  clear ok0 ha0
  have hb0 : n0 ≤ 9223372036854775807 := hm0
  have hw0 : (0 : Int) ≤ ((n0 + sumW drillW l0 : Nat) : Int) := by omega
  by_cases hq0 : 0 ≤ (1048576 : Int) - ((n0 + sumW drillW l0 : Nat) : Int)
  rotate_left
  · have H0 := Lib.hid (fun W h => c_szDrillS A0 n0 c0 l0 ((1048576 : Int)) (-1) W h (fun x hx => by obtain ⟨h0, h1, h2⟩ := OK0.out x hx; exact ⟨h0, h1⟩) hm0 (by omega) (by omega) (szV_neg (n := n0 + sumW drillW l0) (left := (1048576 : Int)) (by omega)))
    go_enter Try.func5, Try.ntmps5
    go_wp2_with fail
    refine (H0.out _ HA0.out).mono ?_
    rintro r_ wz1 ⟨rfl, bz1⟩
    have z1 := bz1
    go_wp2_with fail
    go_returns
    exact ⟨rfl, z1⟩
  have H0 := Lib.hid (fun W h => c_szDrillS A0 n0 c0 l0 ((1048576 : Int)) ((1048576 : Int) - ((n0 + sumW drillW l0 : Nat) : Int)) W h (fun x hx => by obtain ⟨h0, h1, h2⟩ := OK0.out x hx; exact ⟨h0, h1⟩) hm0 (by omega) (by omega) (szV_pos (n := n0 + sumW drillW l0) (left := (1048576 : Int)) hq0))
  have hn0 : n0 ≤ 1048576 := by omega
  obtain ⟨v, hv_v⟩ : ∃ z : Bool, drsB l0 = z := ⟨_, rfl⟩
  have C1 : Hid (∀ (B0 : Option Addr) (W : World), Sl drillC W W.heap.size 3 B0 n0 l0 → Calls Try.prog 21 #[.slice B0 n0 n0] W (fun e w' => e = .returned (.bool v) ∧ Below W.heap.size W w')) := fun B0 W h0 => c_sValidDrills _ _ _ _ _ hv_v W h0 (fun x hx => ⟨(OK0.out x hx).1, (OK0.out x hx).2.1⟩) hn0 (Nat.le_refl _)
  have C2 : Hid (∀ (B0 : Option Addr) (W : World), Sl drillC W W.heap.size 3 B0 n0 l0 → Calls Try.prog 23 #[.slice B0 n0 n0] W (fun e w' => e = .returned (.bool v) ∧ Below W.heap.size W w')) := fun B0 W h0 => c_iValidDrills _ _ _ _ _ hv_v W h0 (fun x hx => ⟨(OK0.out x hx).1, (OK0.out x hx).2.1⟩) hn0
  clear hv_v
  go_enter Try.func5, Try.ntmps5
  go_wp2_with fail
  refine (H0.out _ HA0.out).mono ?_
  rintro r_ wz1 ⟨rfl, bz1⟩
  have z1 := bz1
  go_wp2_with fail
  refine (c_toDrillS _ _ _ _ _ (HA0.out.later z1) hn0).mono ?_
  rintro r_ w1 ⟨rfl, t1, b1⟩
  have e1 := z1.trans (b1.mono z1.size)
  go_wp2_with fail
  refine (C1.out _ _ (HL0.out ▸ t1.sl)).mono ?_
  rintro r_ w2 ⟨rfl, b2⟩
  have e2 := e1.trans (b2.mono e1.size)
  have t1_2 := t1.later b2
  go_wp2_with fail
  refine (c_toDrillS _ _ _ _ _ (HA0.out.later e2) hn0).mono ?_
  rintro r_ w3 ⟨rfl, t3, b3⟩
  have e3 := e2.trans (b3.mono e2.size)
  go_wp2_with fail
  refine (C2.out _ _ (HL0.out ▸ t3.sl)).mono ?_
  rintro r_ w4 ⟨rfl, b4⟩
  have e4 := e3.trans (b4.mono e3.size)
  have t3_4 := t3.later b4
  go_wp2_with fail
  refine (c_toDrillS _ _ _ _ _ (HA0.out.later e4) hn0).mono ?_
  rintro r_ w5 ⟨rfl, t5, b5⟩
  have e5 := e4.trans (b5.mono e4.size)
  have t3_5 := t3_4.later b5
  go_wp2_with fail
  refine (c_eqDrillS _ _ _ _ _ _ _ (HL0.out ▸ t3_5.sl) (HL0.out ▸ t5.sl) (by omega)).mono ?_
  rintro r_ w6 ⟨rfl, b6⟩
  have e6 := e5.trans (b6.mono e5.size)
  have t3_6 := t3_5.later b6
  have t5_6 := t5.later b6
  go_wp2_with fail
  go_returns
  exact ⟨rfl, e6⟩
end Go.Proofs.Ytnjmjopbeojfoaa.fnExactValidDrills
