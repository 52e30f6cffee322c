/- The walk of the law FnExactLettersLeft: it returns true, and what was there stays as it was. -/
import Derived.Test.YtnjmjopbeojfoaaDr5
import Derived.Test.YtnjmjopbeojfoaaTi
namespace Go.Proofs.Ytnjmjopbeojfoaa.fnExactLettersLeft
open Go.RowKit Go.BigFrame
attribute [local go_sem] sub_cell sub_frozen drewN_setCell

set_option maxHeartbeats 4000000 in
theorem walk (A0 : Option Addr) (n0 c0 : Nat) (l0 : List (TDrill)) (A1 : Option Addr) (n1 c1 : Nat) (l1 : List (Int)) (s2 : ByteArray) (w : World) (w0 : InDrill w A0 n0 l0) (w1 : InZ w A1 n1 l1) (w2 : s2.size ≤ maxLen) :
    Calls Try.prog 8 #[.slice A0 n0 c0, .slice A1 n1 c1, .string s2] w fun e w' => e = .returned (.bool true) ∧ Below w.heap.size w w' := by
  obtain ⟨ha0, ok0, hm0⟩ := w0
  have HL0 := Lib.hid ha0.1
  have OK0 := Lib.hid ok0
  have HA0 := Lib.hid ha0
  clear ok0 ha0
  obtain ⟨ha1, ok1, hm1⟩ := w1
  have HL1 := Lib.hid ha1.1
  have OK1 := Lib.hid ok1
  have HA1 := Lib.hid ha1
  clear ok1 ha1
  have hb0 : n0 ≤ 9223372036854775807 := hm0
  have hb1 : n1 ≤ 9223372036854775807 := hm1
  have hb2 : s2.size ≤ 9223372036854775807 := w2
  by_cases hq0 : n1 ≤ 1048576
  rotate_left
  · have hq0' : (1048576 : Int) < n1 := by omega
    go_enter Try.func8, Try.ntmps8
    go_wp2_with fail
    go_returns
    exact ⟨rfl, Below.refl _ _⟩
  by_cases hq1 : s2.size ≤ 1048576
  rotate_left
  · have hq1' : (1048576 : Int) < s2.size := by omega
    go_enter Try.func8, Try.ntmps8
    go_wp2_with fail
    go_returns
    exact ⟨rfl, Below.refl _ _⟩
  have hw0 : (0 : Int) ≤ ((n0 + sumW drillW l0 : Nat) : Int) := by omega
  by_cases hq2 : 0 ≤ (1048576 : Int) - ((n0 + sumW drillW l0 : Nat) : Int)
  rotate_left
  · have H0 := Lib.hid (fun W h => c_szDrillS A0 n0 c0 l0 ((1048576 : Int)) (-1) W h (fun x hx => by obtain ⟨h0, h1, h2⟩ := OK0.out x hx; exact ⟨h0, h1⟩) hm0 (by omega) (by omega) (szV_neg (n := n0 + sumW drillW l0) (left := (1048576 : Int)) (by omega)))
    go_enter Try.func8, Try.ntmps8
    go_wp2_with fail
    refine (H0.out _ HA0.out).mono ?_
    rintro r_ wz1 ⟨rfl, bz1⟩
    have z1 := bz1
    go_wp2_with fail
    go_returns
    exact ⟨rfl, z1⟩
  have H0 := Lib.hid (fun W h => c_szDrillS A0 n0 c0 l0 ((1048576 : Int)) ((1048576 : Int) - ((n0 + sumW drillW l0 : Nat) : Int)) W h (fun x hx => by obtain ⟨h0, h1, h2⟩ := OK0.out x hx; exact ⟨h0, h1⟩) hm0 (by omega) (by omega) (szV_pos (n := n0 + sumW drillW l0) (left := (1048576 : Int)) hq2))
  have hn0 : n0 ≤ 1048576 := by omega
  have hn1 : n1 ≤ 1048576 := by omega
  obtain ⟨v, hv_v⟩ : ∃ z : ByteArray, lleA l0 l1 (bl s2) = z := ⟨_, rfl⟩
  obtain ⟨c, hv_c⟩ : ∃ z : Int, lleC l0 l1 (bl s2) = z := ⟨_, rfl⟩
  have C1 : Hid (∀ (B0 : Option Addr) (B1 : Option Addr) (W : World), Sl drillC W W.heap.size 3 B0 n0 l0 → Sl ic W W.heap.size 1 B1 n1 l1 → Calls Try.prog 31 #[.slice B0 n0 n0, .slice B1 n1 n1, .string s2] W (fun e w' => e = .returned (.tuple #[.string v, .int .i64 c]) ∧ Below W.heap.size W w')) := fun B0 B1 W h0 h1 => hv_v ▸ hv_c ▸ c_sLettersLeft _ _ _ _ _ _ _ _ _ W h0 h1 (fun x hx => ⟨(OK0.out x hx).1, (OK0.out x hx).2.1⟩) hn1 hn0 w2 (Nat.le_refl _)
  have C2 : Hid (∀ (B0 : Option Addr) (B1 : Option Addr) (W : World), Sl drillC W W.heap.size 3 B0 n0 l0 → Sl ic W W.heap.size 1 B1 n1 l1 → Calls Try.prog 32 #[.slice B0 n0 n0, .slice B1 n1 n1, .string s2] W (fun e w' => e = .returned (.tuple #[.string v, .int .i64 c]) ∧ Below W.heap.size W w')) := fun B0 B1 W h0 h1 => hv_v ▸ hv_c ▸ c_iLettersLeft _ _ _ _ _ _ _ _ _ W h0 h1 (fun x hx => ⟨(OK0.out x hx).1, (OK0.out x hx).2.1⟩) hn1 hn0 w2
  clear hv_v hv_c
  go_enter Try.func8, Try.ntmps8
  go_wp2_with fail
  refine (H0.out _ HA0.out).mono ?_
  rintro r_ wz1 ⟨rfl, bz1⟩
  have z1 := bz1
  go_wp2_with fail
  refine (c_toDrillS _ _ _ _ _ (HA0.out.later z1) hn0).mono ?_
  rintro r_ w1 ⟨rfl, t1, b1⟩
  have e1 := z1.trans (b1.mono z1.size)
  go_wp2_with fail
  refine (c_toInt64S _ _ _ _ _ (HA1.out.later e1) hn1).mono ?_
  rintro r_ w2 ⟨rfl, t2, b2⟩
  have e2 := e1.trans (b2.mono e1.size)
  have t1_2 := t1.later b2
  go_wp2_with fail
  refine (C1.out _ _ _ (HL0.out ▸ t1_2.sl) (HL1.out ▸ t2.sl)).mono ?_
  rintro r_ w3 ⟨rfl, b3⟩
  have e3 := e2.trans (b3.mono e2.size)
  have t1_3 := t1_2.later b3
  have t2_3 := t2.later b3
  go_wp2_with fail
  refine (c_toDrillS _ _ _ _ _ (HA0.out.later e3) hn0).mono ?_
  rintro r_ w4 ⟨rfl, t4, b4⟩
  have e4 := e3.trans (b4.mono e3.size)
  go_wp2_with fail
  refine (c_toInt64S _ _ _ _ _ (HA1.out.later e4) hn1).mono ?_
  rintro r_ w5 ⟨rfl, t5, b5⟩
  have e5 := e4.trans (b5.mono e4.size)
  have t4_5 := t4.later b5
  go_wp2_with fail
  refine (C2.out _ _ _ (HL0.out ▸ t4_5.sl) (HL1.out ▸ t5.sl)).mono ?_
  rintro r_ w6 ⟨rfl, b6⟩
  have e6 := e5.trans (b6.mono e5.size)
  have t4_6 := t4_5.later b6
  have t5_6 := t5.later b6
  go_wp2_with fail
  refine (c_toDrillS _ _ _ _ _ (HA0.out.later e6) hn0).mono ?_
  rintro r_ w7 ⟨rfl, t7, b7⟩
  have e7 := e6.trans (b7.mono e6.size)
  have t4_7 := t4_6.later b7
  have t5_7 := t5_6.later b7
  go_wp2_with fail
  refine (c_eqDrillS _ _ _ _ _ _ _ (HL0.out ▸ t4_7.sl) (HL0.out ▸ t7.sl) (by omega)).mono ?_
  rintro r_ w8 ⟨rfl, b8⟩
  have e8 := e7.trans (b8.mono e7.size)
  have t4_8 := t4_7.later b8
  have t5_8 := t5_7.later b8
  have t7_8 := t7.later b8
  go_wp2_with fail
  refine (c_toInt64S _ _ _ _ _ (HA1.out.later e8) hn1).mono ?_
  rintro r_ w9 ⟨rfl, t9, b9⟩
  have e9 := e8.trans (b9.mono e8.size)
  have t4_9 := t4_8.later b9
  have t5_9 := t5_8.later b9
  go_wp2_with fail
  refine (c_eqInt64S _ _ _ _ _ _ _ (HL1.out ▸ t5_9.sl) (HL1.out ▸ t9.sl) (by omega)).mono ?_
  rintro r_ w10 ⟨rfl, b10⟩
  have e10 := e9.trans (b10.mono e9.size)
  have t4_10 := t4_9.later b10
  have t5_10 := t5_9.later b10
  have t9_10 := t9.later b10
  go_wp2_with fail
  go_returns
  exact ⟨rfl, e10⟩
end Go.Proofs.Ytnjmjopbeojfoaa.fnExactLettersLeft
