/- The walk of the law FnExactCanType: it returns true, and what was there stays as it was. -/
import Derived.Test.YtajcdaclbammaaaKn2
namespace Go.Proofs.Ytajcdaclbammaaa.fnExactCanType
open Go.RowKit Go.BigFrame
attribute [local go_sem] sub_cell sub_frozen drewN_setCell

set_option maxHeartbeats 4000000 in
theorem walk (A0 : Option Addr) (n0 c0 : Nat) (l0 : List TLesson) (A1 : Option Addr) (n1 c1 : Nat) (l1 : List Int) (s2 : ByteArray) (w : World) (w0 : InLesson w A0 n0 l0) (w1 : InZ w A1 n1 l1) (w2 : s2.size ≤ maxLen) :
    Calls Try.prog 4 #[.slice A0 n0 c0, .slice A1 n1 c1, .string s2] w fun e w' => e = .returned (.bool true) ∧ Below w.heap.size w w' := by
  obtain ⟨ha0, ok0, hm0⟩ := w0
  have HL0 := Lib.hid ha0.len
  have OK0 := Lib.hid ok0
  have HA0 := Lib.hid ha0
  clear ok0 ha0
  have hb0 : n0 ≤ 9223372036854775807 := hm0
  obtain ⟨ha1, ok1, hm1⟩ := w1
  have HL1 := Lib.hid ha1.1
  have HA1 := Lib.hid ha1
  clear ok1 ha1
  have hb1 : n1 ≤ 9223372036854775807 := hm1
  have hb2 : s2.size ≤ 9223372036854775807 := w2
  by_cases hn1 : n1 ≤ 1048576
  rotate_left
  · have hq1 : (1048576 : Int) < n1 := by omega
    go_enter Try.func4, Try.ntmps4
    go_wp2_with fail
    go_returns
    exact ⟨rfl, Below.refl _ _⟩
  by_cases hn2 : s2.size ≤ 1048576
  rotate_left
  · have hq2 : (1048576 : Int) < s2.size := by omega
    go_enter Try.func4, Try.ntmps4
    go_wp2_with fail
    go_returns
    exact ⟨rfl, Below.refl _ _⟩
  have hw0 : (0 : Int) ≤ ((n0 + sumW lessonW l0 : Nat) : Int) := by omega
  by_cases hq0 : 0 ≤ (1048576 : Int) - ((n0 + sumW lessonW l0 : Nat) : Int)
  rotate_left
  · have H0 := Lib.hid (fun W h => c_szLessonS A0 n0 c0 l0 (1048576 : Int) (-1) W h OK0.out hm0 (by omega) (by omega) (szV_neg (n := n0 + sumW lessonW l0) (left := (1048576 : Int)) (by omega)))
    go_enter Try.func4, Try.ntmps4
    go_wp2_with fail
    refine (H0.out _ HA0.out).mono ?_
    rintro r_ wz1 ⟨rfl, bz1⟩
    go_wp2_with fail
    go_returns
    exact ⟨rfl, bz1⟩
  have H0 := Lib.hid (fun W h => c_szLessonS A0 n0 c0 l0 (1048576 : Int) ((1048576 : Int) - ((n0 + sumW lessonW l0 : Nat) : Int)) W h OK0.out hm0 (by omega) (by omega) (szV_pos (n := n0 + sumW lessonW l0) (left := (1048576 : Int)) hq0))
  have hn0 : n0 ≤ 1048576 := by omega
  have LSB := Lib.hid (lsB_of OK0.out (show sumW lessonW l0 ≤ 1048576 by omega))
  have LSN : Hid (∀ x ∈ l0, x.2.2.1.length ≤ 1048576) := fun x hx => (LSB.out x hx).2.2
  have LSM : Hid (∀ x ∈ l0, x.2.2.1.length ≤ 4611686018427387904) := fun x hx => by have := LSN.out x hx; omega
  obtain ⟨v, hv_v⟩ : ∃ z : Bool, canV l0 l1 s2 = z := ⟨_, rfl⟩
  obtain ⟨u, hv_u⟩ : ∃ z : Int, canC l0 l1 s2 = z := ⟨_, rfl⟩
  have C1 : Hid (∀ (B0 : Option Addr) (B1 : Option Addr) (W : World), Ls W B0 n0 l0 → Zs W B1 n1 l1 → Calls Try.prog 14 #[.slice B0 n0 n0, .slice B1 n1 n1, .string s2] W (fun e w' => e = .returned (.tuple #[.bool v, .int .i64 u]) ∧ Below W.heap.size W w')) := fun B0 B1 W h0 h1 => hv_v ▸ hv_u ▸ c_sCanType _ _ _ _ _ _ _ _ _ W h0 h1 LSB.out hn0 hn1 hn2
  have C2 : Hid (∀ (B0 : Option Addr) (B1 : Option Addr) (W : World), Ls W B0 n0 l0 → Zs W B1 n1 l1 → Calls Try.prog 16 #[.slice B0 n0 n0, .slice B1 n1 n1, .string s2] W (fun e w' => e = .returned (.tuple #[.bool v, .int .i64 u]) ∧ Below W.heap.size W w')) := fun B0 B1 W h0 h1 => hv_v ▸ hv_u ▸ c_iCanType _ _ _ _ _ _ _ _ _ W h0 h1 LSB.out hn0 hn1 hn2
  clear hv_v hv_u
  go_enter Try.func4, Try.ntmps4
  go_wp2_with fail
  refine (H0.out _ HA0.out).mono ?_
  rintro r_ w0 ⟨rfl, e0⟩
  go_wp2_with fail
  refine (c_toLessonS _ _ _ l0 _ (HA0.out.later e0) hn0 LSN.out).mono ?_
  rintro r_ w1 ⟨rfl, ⟨gs1, t1⟩, b1⟩
  have e1 := e0.trans (b1.mono e0.size)
  have L1_1 := t1
  go_wp2_with fail
  refine (c_toInt64S _ _ _ l1 _ (HA1.out.later e1) hn1).mono ?_
  rintro r_ w2 ⟨rfl, t2, b2⟩
  have e2 := e1.trans (b2.mono e1.size)
  have L1_2 := L1_1.later b2
  have Z2_2 := OwnSl.own t2 HL1.out (Nat.le_refl _) hm1
  go_wp2_with fail
  refine (C1.out _ _ _ (L1_2.ls HL0.out) (zs_ownN Z2_2)).mono ?_
  rintro r_ w3 ⟨rfl, b3⟩
  have e3 := e2.trans (b3.mono e2.size)
  have L1_3 := L1_2.later b3
  have Z2_3 := own_below Z2_2 b3
  go_wp2_with fail
  refine (c_toLessonS _ _ _ l0 _ (HA0.out.later e3) hn0 LSN.out).mono ?_
  rintro r_ w4 ⟨rfl, ⟨gs4, t4⟩, b4⟩
  have e4 := e3.trans (b4.mono e3.size)
  have L4_4 := t4
  go_wp2_with fail
  refine (c_toInt64S _ _ _ l1 _ (HA1.out.later e4) hn1).mono ?_
  rintro r_ w5 ⟨rfl, t5, b5⟩
  have e5 := e4.trans (b5.mono e4.size)
  have L4_5 := L4_4.later b5
  have Z5_5 := OwnSl.own t5 HL1.out (Nat.le_refl _) hm1
  go_wp2_with fail
  refine (C2.out _ _ _ (L4_5.ls HL0.out) (zs_ownN Z5_5)).mono ?_
  rintro r_ w6 ⟨rfl, b6⟩
  have e6 := e5.trans (b6.mono e5.size)
  have L4_6 := L4_5.later b6
  have Z5_6 := own_below Z5_5 b6
  go_wp2_with fail
  refine (c_toLessonS _ _ _ l0 _ (HA0.out.later e6) hn0 LSN.out).mono ?_
  rintro r_ w7 ⟨rfl, ⟨gs7, t7⟩, b7⟩
  have e7 := e6.trans (b7.mono e6.size)
  have L4_7 := L4_6.later b7
  have Z5_7 := own_below Z5_6 b7
  have L7_7 := t7
  go_wp2_with fail
  refine (c_eqLessonS _ _ _ _ _ _ _ (L4_7.ls HL0.out) (L7_7.ls HL0.out) LSM.out (by omega)).mono ?_
  rintro r_ w8 ⟨rfl, b8⟩
  have e8 := e7.trans (b8.mono e7.size)
  have L4_8 := L4_7.later b8
  have Z5_8 := own_below Z5_7 b8
  have L7_8 := L7_7.later b8
  go_wp2_with fail
  refine (c_toInt64S _ _ _ l1 _ (HA1.out.later e8) hn1).mono ?_
  rintro r_ w9 ⟨rfl, t9, b9⟩
  have e9 := e8.trans (b9.mono e8.size)
  have L4_9 := L4_8.later b9
  have Z5_9 := own_below Z5_8 b9
  have Z9_9 := OwnSl.own t9 HL1.out (Nat.le_refl _) hm1
  go_wp2_with fail
  refine (c_eqInt64S _ _ _ _ _ _ _ (zs_ownN Z5_9) (zs_ownN Z9_9) (by omega)).mono ?_
  rintro r_ w10 ⟨rfl, b10⟩
  have e10 := e9.trans (b10.mono e9.size)
  have L4_10 := L4_9.later b10
  have Z5_10 := own_below Z5_9 b10
  have Z9_10 := own_below Z9_9 b10
  go_wp2_with fail
  go_returns
  exact ⟨rfl, e10⟩
end Go.Proofs.Ytajcdaclbammaaa.fnExactCanType
