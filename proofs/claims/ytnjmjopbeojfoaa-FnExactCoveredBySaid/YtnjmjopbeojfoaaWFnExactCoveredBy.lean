/- The walk of the law FnExactCoveredBy: it returns true, and what was there stays as it was. -/
import Derived.Test.YtnjmjopbeojfoaaDr5
import Derived.Test.YtnjmjopbeojfoaaTi
namespace Go.Proofs.Ytnjmjopbeojfoaa.fnExactCoveredBy
open Go.RowKit Go.BigFrame
attribute [local go_sem] sub_cell sub_frozen drewN_setCell

set_option maxHeartbeats 4000000 in
theorem walk (A0 : Option Addr) (n0 c0 : Nat) (l0 : List (TDrill)) (A1 : Option Addr) (n1 c1 : Nat) (l1 : List (Int)) (s2 : ByteArray) (A3 : Option Addr) (n3 c3 : Nat) (l3 : List (Int)) (w : World) (w0 : InDrill w A0 n0 l0) (w1 : InZ w A1 n1 l1) (w2 : s2.size ≤ maxLen) (w3 : InZ w A3 n3 l3) :
    Calls Try.prog 9 #[.slice A0 n0 c0, .slice A1 n1 c1, .string s2, .slice A3 n3 c3] w fun e w' => e = .returned (.bool true) ∧ Below w.heap.size w w' := by
  obtain ⟨ha0, ok0, hm0⟩ := w0
  have HL0 := Lib.hid ha0.1
  have OK0 := Lib.hid ok0
  have HA0 := Lib.hid ha0
  clear ok0 ha0
  obtain ⟨ha1, ok1, hm1⟩ := w1
  have HL1 := Lib.hid ha1.1
  have OK1 := Lib.hid ok1
  have HA1 := Lib.hid ha1
  clear ok1 ha1
  obtain ⟨ha3, ok3, hm3⟩ := w3
  have HL3 := Lib.hid ha3.1
  have OK3 := Lib.hid ok3
  have HA3 := Lib.hid ha3
  clear ok3 ha3
  have hb0 : n0 ≤ 9223372036854775807 := hm0
  have hb1 : n1 ≤ 9223372036854775807 := hm1
  have hb2 : s2.size ≤ 9223372036854775807 := w2
  have hb3 : n3 ≤ 9223372036854775807 := hm3
  by_cases hq0 : n1 ≤ 1048576
  rotate_left
  · have hq0' : (1048576 : Int) < n1 := by omega
    go_enter Try.func9, Try.ntmps9
    go_wp2_with fail
    go_returns
    exact ⟨rfl, Below.refl _ _⟩
  by_cases hq1 : s2.size ≤ 1048576
  rotate_left
  · have hq1' : (1048576 : Int) < s2.size := by omega
    go_enter Try.func9, Try.ntmps9
    go_wp2_with fail
    go_returns
    exact ⟨rfl, Below.refl _ _⟩
  by_cases hq2 : n3 ≤ 1048576
  rotate_left
  · have hq2' : (1048576 : Int) < n3 := by omega
    go_enter Try.func9, Try.ntmps9
    go_wp2_with fail
    go_returns
    exact ⟨rfl, Below.refl _ _⟩
  have hw0 : (0 : Int) ≤ ((n0 + sumW drillW l0 : Nat) : Int) := by omega
  by_cases hq3 : 0 ≤ (1048576 : Int) - ((n0 + sumW drillW l0 : Nat) : Int)
  rotate_left
  · have H0 := Lib.hid (fun W h => c_szDrillS A0 n0 c0 l0 ((1048576 : Int)) (-1) W h (fun x hx => by obtain ⟨h0, h1, h2⟩ := OK0.out x hx; exact ⟨h0, h1⟩) hm0 (by omega) (by omega) (szV_neg (n := n0 + sumW drillW l0) (left := (1048576 : Int)) (by omega)))
    go_enter Try.func9, Try.ntmps9
    go_wp2_with fail
    refine (H0.out _ HA0.out).mono ?_
    rintro r_ wz1 ⟨rfl, bz1⟩
    have z1 := bz1
    go_wp2_with fail
    go_returns
    exact ⟨rfl, z1⟩
  have H0 := Lib.hid (fun W h => c_szDrillS A0 n0 c0 l0 ((1048576 : Int)) ((1048576 : Int) - ((n0 + sumW drillW l0 : Nat) : Int)) W h (fun x hx => by obtain ⟨h0, h1, h2⟩ := OK0.out x hx; exact ⟨h0, h1⟩) hm0 (by omega) (by omega) (szV_pos (n := n0 + sumW drillW l0) (left := (1048576 : Int)) hq3))
  have hn0 : n0 ≤ 1048576 := by omega
  have hn1 : n1 ≤ 1048576 := by omega
  have hn3 : n3 ≤ 1048576 := by omega
  obtain ⟨v, hv_v⟩ : ∃ z : Int, covA l0 l1 (bl s2) l3 = z := ⟨_, rfl⟩
  obtain ⟨c, hv_c⟩ : ∃ z : Int, covC l0 l1 (bl s2) l3 = z := ⟨_, rfl⟩
  have C1 : Hid (∀ (B0 : Option Addr) (B1 : Option Addr) (B3 : Option Addr) (W : World), Sl drillC W W.heap.size 3 B0 n0 l0 → Sl ic W W.heap.size 1 B1 n1 l1 → Sl ic W W.heap.size 1 B3 n3 l3 → Calls Try.prog 33 #[.slice B0 n0 n0, .slice B1 n1 n1, .string s2, .slice B3 n3 n3] W (fun e w' => e = .returned (.tuple #[.int .i64 v, .int .i64 c]) ∧ Below W.heap.size W w')) := fun B0 B1 B3 W h0 h1 h3 => hv_v ▸ hv_c ▸ c_sCoveredBy _ _ _ _ _ _ _ _ _ _ _ _ _ W h0 h1 h3 (fun x hx => ⟨(OK0.out x hx).1, (OK0.out x hx).2.1⟩) hn1 hn0 hn3 w2 (Nat.le_refl _)
  have C2 : Hid (∀ (B0 : Option Addr) (B1 : Option Addr) (B3 : Option Addr) (W : World), Sl drillC W W.heap.size 3 B0 n0 l0 → Sl ic W W.heap.size 1 B1 n1 l1 → Sl ic W W.heap.size 1 B3 n3 l3 → Calls Try.prog 34 #[.slice B0 n0 n0, .slice B1 n1 n1, .string s2, .slice B3 n3 n3] W (fun e w' => e = .returned (.tuple #[.int .i64 v, .int .i64 c]) ∧ Below W.heap.size W w')) := fun B0 B1 B3 W h0 h1 h3 => hv_v ▸ hv_c ▸ c_iCoveredBy _ _ _ _ _ _ _ _ _ _ _ _ _ W h0 h1 h3 (fun x hx => ⟨(OK0.out x hx).1, (OK0.out x hx).2.1⟩) hn1 hn0 hn3 w2
  clear hv_v hv_c
  go_enter Try.func9, Try.ntmps9
  go_wp2_with fail
  refine (H0.out _ HA0.out).mono ?_
  rintro r_ wz1 ⟨rfl, bz1⟩
  have z1 := bz1
  go_wp2_with fail
  refine (c_toDrillS _ _ _ _ _ (HA0.out.later z1) hn0).mono ?_
  rintro r_ w1 ⟨rfl, t1, b1⟩
  have e1 := z1.trans (b1.mono z1.size)
  go_wp2_with fail
  refine (c_toInt64S _ _ _ _ _ (HA1.out.later e1) hn1).mono ?_
  rintro r_ w2 ⟨rfl, t2, b2⟩
  have e2 := e1.trans (b2.mono e1.size)
  have t1_2 := t1.later b2
  go_wp2_with fail
  refine (c_toInt64S _ _ _ _ _ (HA3.out.later e2) hn3).mono ?_
  rintro r_ w3 ⟨rfl, t3, b3⟩
  have e3 := e2.trans (b3.mono e2.size)
  have t1_3 := t1_2.later b3
  have t2_3 := t2.later b3
  go_wp2_with fail
  refine (C1.out _ _ _ _ (HL0.out ▸ t1_3.sl) (HL1.out ▸ t2_3.sl) (HL3.out ▸ t3.sl)).mono ?_
  rintro r_ w4 ⟨rfl, b4⟩
  have e4 := e3.trans (b4.mono e3.size)
  have t1_4 := t1_3.later b4
  have t2_4 := t2_3.later b4
  have t3_4 := t3.later b4
  go_wp2_with fail
  refine (c_toDrillS _ _ _ _ _ (HA0.out.later e4) hn0).mono ?_
  rintro r_ w5 ⟨rfl, t5, b5⟩
  have e5 := e4.trans (b5.mono e4.size)
  go_wp2_with fail
  refine (c_toInt64S _ _ _ _ _ (HA1.out.later e5) hn1).mono ?_
  rintro r_ w6 ⟨rfl, t6, b6⟩
  have e6 := e5.trans (b6.mono e5.size)
  have t5_6 := t5.later b6
  go_wp2_with fail
  refine (c_toInt64S _ _ _ _ _ (HA3.out.later e6) hn3).mono ?_
  rintro r_ w7 ⟨rfl, t7, b7⟩
  have e7 := e6.trans (b7.mono e6.size)
  have t5_7 := t5_6.later b7
  have t6_7 := t6.later b7
  go_wp2_with fail
  refine (C2.out _ _ _ _ (HL0.out ▸ t5_7.sl) (HL1.out ▸ t6_7.sl) (HL3.out ▸ t7.sl)).mono ?_
  rintro r_ w8 ⟨rfl, b8⟩
  have e8 := e7.trans (b8.mono e7.size)
  have t5_8 := t5_7.later b8
  have t6_8 := t6_7.later b8
  have t7_8 := t7.later b8
  go_wp2_with fail
  refine (c_toDrillS _ _ _ _ _ (HA0.out.later e8) hn0).mono ?_
  rintro r_ w9 ⟨rfl, t9, b9⟩
  have e9 := e8.trans (b9.mono e8.size)
  have t5_9 := t5_8.later b9
  have t6_9 := t6_8.later b9
  have t7_9 := t7_8.later b9
  go_wp2_with fail
  refine (c_eqDrillS _ _ _ _ _ _ _ (HL0.out ▸ t5_9.sl) (HL0.out ▸ t9.sl) (by omega)).mono ?_
  rintro r_ w10 ⟨rfl, b10⟩
  have e10 := e9.trans (b10.mono e9.size)
  have t5_10 := t5_9.later b10
  have t6_10 := t6_9.later b10
  have t7_10 := t7_9.later b10
  have t9_10 := t9.later b10
  go_wp2_with fail
  refine (c_toInt64S _ _ _ _ _ (HA1.out.later e10) hn1).mono ?_
  rintro r_ w11 ⟨rfl, t11, b11⟩
  have e11 := e10.trans (b11.mono e10.size)
  have t5_11 := t5_10.later b11
  have t6_11 := t6_10.later b11
  have t7_11 := t7_10.later b11
  go_wp2_with fail
  refine (c_eqInt64S _ _ _ _ _ _ _ (HL1.out ▸ t6_11.sl) (HL1.out ▸ t11.sl) (by omega)).mono ?_
  rintro r_ w12 ⟨rfl, b12⟩
  have e12 := e11.trans (b12.mono e11.size)
  have t5_12 := t5_11.later b12
  have t6_12 := t6_11.later b12
  have t7_12 := t7_11.later b12
  have t11_12 := t11.later b12
  go_wp2_with fail
  refine (c_toInt64S _ _ _ _ _ (HA3.out.later e12) hn3).mono ?_
  rintro r_ w13 ⟨rfl, t13, b13⟩
  have e13 := e12.trans (b13.mono e12.size)
  have t5_13 := t5_12.later b13
  have t6_13 := t6_12.later b13
  have t7_13 := t7_12.later b13
  go_wp2_with fail
  refine (c_eqInt64S _ _ _ _ _ _ _ (HL3.out ▸ t7_13.sl) (HL3.out ▸ t13.sl) (by omega)).mono ?_
  rintro r_ w14 ⟨rfl, b14⟩
  have e14 := e13.trans (b14.mono e13.size)
  have t5_14 := t5_13.later b14
  have t6_14 := t6_13.later b14
  have t7_14 := t7_13.later b14
  have t13_14 := t13.later b14
  go_wp2_with fail
  go_returns
  exact ⟨rfl, e14⟩
end Go.Proofs.Ytnjmjopbeojfoaa.fnExactCoveredBy
