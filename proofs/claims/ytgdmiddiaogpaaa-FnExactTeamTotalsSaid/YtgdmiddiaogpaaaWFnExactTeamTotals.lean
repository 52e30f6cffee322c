/- The walk of the law FnExactTeamTotals: it returns true, and what was there stays as it was. -/
import Derived.Test.YtgdmiddiaogpaaaTa
import Derived.Test.YtgdmiddiaogpaaaMkResult
import Derived.Test.YtgdmiddiaogpaaaTi
namespace Go.Proofs.Ytgdmiddiaogpaaa.fnExactTeamTotals
open Go.RowKit Go.BigFrame
attribute [local go_sem] sub_cell sub_frozen drewN_setCell

set_option maxHeartbeats 4000000 in
theorem walk (A0 : Option Addr) (n0 c0 : Nat) (l0 : List (TResult)) (A1 : Option Addr) (n1 c1 : Nat) (l1 : List (Int)) (A2 : Option Addr) (n2 c2 : Nat) (l2 : List (Int)) (w : World) (w0 : InResult w A0 n0 l0) (w1 : InZ w A1 n1 l1) (w2 : InZ w A2 n2 l2) :
    Calls Try.prog 13 #[.slice A0 n0 c0, .slice A1 n1 c1, .slice A2 n2 c2] w fun e w' => e = .returned (.bool true) ∧ Below w.heap.size w w' := by
  obtain ⟨ha0, ok0, hm0⟩ := w0
  have HL0 := Lib.hid ha0.1
  have OK0 := Lib.hid ok0
  have HA0 := Lib.hid ha0
  clear ok0 ha0
  obtain ⟨ha1, ok1, hm1⟩ := w1
  have HL1 := Lib.hid ha1.1
  have OK1 := Lib.hid ok1
  have HA1 := Lib.hid ha1
  clear ok1 ha1
  obtain ⟨ha2, ok2, hm2⟩ := w2
  have HL2 := Lib.hid ha2.1
  have OK2 := Lib.hid ok2
  have HA2 := Lib.hid ha2
  clear ok2 ha2
  have hb0 : n0 ≤ 9223372036854775807 := hm0
  have hb1 : n1 ≤ 9223372036854775807 := hm1
  have hb2 : n2 ≤ 9223372036854775807 := hm2
  by_cases hq0 : n1 ≤ 1048576
  rotate_left
  · have hq0' : (1048576 : Int) < n1 := by omega
    go_enter Try.func13, Try.ntmps13
    go_wp2_with fail
    go_returns
    exact ⟨rfl, Below.refl _ _⟩
  by_cases hq1 : n2 ≤ 1048576
  rotate_left
  · have hq1' : (1048576 : Int) < n2 := by omega
    go_enter Try.func13, Try.ntmps13
    go_wp2_with fail
    go_returns
    exact ⟨rfl, Below.refl _ _⟩
  have hw0 : (0 : Int) ≤ ((n0 + sumW resultW l0 : Nat) : Int) := by omega
  by_cases hq2 : 0 ≤ (1048576 : Int) - ((n0 + sumW resultW l0 : Nat) : Int)
  rotate_left
  · have H0 := Lib.hid (fun W h => c_szResultS A0 n0 c0 l0 ((1048576 : Int)) (-1) W h (fun x hx => by obtain ⟨h0, h1, h2⟩ := OK0.out x hx; exact h0) hm0 (by omega) (by omega) (szV_neg (n := n0 + sumW resultW l0) (left := (1048576 : Int)) (by omega)))
    go_enter Try.func13, Try.ntmps13
    go_wp2_with fail
    refine (H0.out _ HA0.out).mono ?_
    rintro r_ wz1 ⟨rfl, bz1⟩
    have z1 := bz1
    go_wp2_with fail
    go_returns
    exact ⟨rfl, z1⟩
  have H0 := Lib.hid (fun W h => c_szResultS A0 n0 c0 l0 ((1048576 : Int)) ((1048576 : Int) - ((n0 + sumW resultW l0 : Nat) : Int)) W h (fun x hx => by obtain ⟨h0, h1, h2⟩ := OK0.out x hx; exact h0) hm0 (by omega) (by omega) (szV_pos (n := n0 + sumW resultW l0) (left := (1048576 : Int)) hq2))
  have hn0 : n0 ≤ 1048576 := by omega
  have hn1 : n1 ≤ 1048576 := by omega
  have hn2 : n2 ≤ 1048576 := by omega
  obtain ⟨zs, hv_zs⟩ : ∃ z : List TFraction, teamsZ l0 l1 l2 = z := ⟨_, rfl⟩
  obtain ⟨v, hv_v⟩ : ∃ z : Int, teamsC l0 l1 l2 = z := ⟨_, rfl⟩
  have hz0 : zs.length ≤ 40 := Nat.le_trans (hv_zs ▸ teamsZ_len l0 l1 l2) (by omega)
  have C1 : Hid (∀ (B0 : Option Addr) (B1 : Option Addr) (B2 : Option Addr) (W : World), Sl resultC W W.heap.size 3 B0 n0 l0 → Sl ic W W.heap.size 1 B1 n1 l1 → Sl ic W W.heap.size 1 B2 n2 l2 → Calls Try.prog 53 #[.slice B0 n0 n0, .slice B1 n1 n1, .slice B2 n2 n2] W (FracPost zs v W)) := fun B0 B1 B2 W h0 h1 h2 => hv_zs ▸ hv_v ▸ c_sTeamTotals _ _ _ _ _ _ _ _ _ _ _ _ W h0 h1 h2 (fun x hx => (OK0.out x hx).1) hn0 hn1 hn2
  have C2 : Hid (∀ (B0 : Option Addr) (B1 : Option Addr) (B2 : Option Addr) (W : World), Sl resultC W W.heap.size 3 B0 n0 l0 → Sl ic W W.heap.size 1 B1 n1 l1 → Sl ic W W.heap.size 1 B2 n2 l2 → Calls Try.prog 54 #[.slice B0 n0 n0, .slice B1 n1 n1, .slice B2 n2 n2] W (FracPost zs v W)) := fun B0 B1 B2 W h0 h1 h2 => hv_zs ▸ hv_v ▸ c_iTeamTotals _ _ _ _ _ _ _ _ _ _ _ _ W h0 h1 h2 (fun x hx => (OK0.out x hx).1) hn0 hn1 hn2
  clear hv_zs hv_v
  have hq1 : ¬ ((1 : Int) + (n0 : Int) * 3 + (n1 : Int) + (n2 : Int) < 0) := by omega
  have hq2 : ¬ ((1 : Int) + (zs.length : Int) * 2 < 0) := by omega
  go_enter Try.func13, Try.ntmps13
  go_wp2_with fail
  refine (H0.out _ HA0.out).mono ?_
  rintro r_ wz1 ⟨rfl, bz1⟩
  have z1 := bz1
  go_wp2_with fail
  refine (c_toResultS _ _ _ _ _ (HA0.out.later z1) hn0).mono ?_
  rintro r_ w1 ⟨rfl, t1, b1⟩
  have e1 := z1.trans (b1.mono z1.size)
  have x1 := result_slOwn t1 HL0.out (Nat.le_refl _) hm0
  go_wp2_with fail
  refine (c_toInt64S _ _ _ _ _ (HA1.out.later e1) hn1).mono ?_
  rintro r_ w2 ⟨rfl, t2, b2⟩
  have e2 := e1.trans (b2.mono e1.size)
  have x1_2 := own_below x1 b2
  have x2 := OwnSl.own t2 HL1.out (Nat.le_refl _) hm1
  go_wp2_with fail
  refine (c_toInt64S _ _ _ _ _ (HA2.out.later e2) hn2).mono ?_
  rintro r_ w3 ⟨rfl, t3, b3⟩
  have e3 := e2.trans (b3.mono e2.size)
  have x1_3 := own_below x1_2 b3
  have x2_3 := own_below x2 b3
  have x3 := OwnSl.own t3 HL2.out (Nat.le_refl _) hm2
  go_wp2_with fail
  refine (C1.out _ _ _ _ (result_own HL0.out x1_3) (zs_ownN x2_3) (zs_ownN x3)).mono ?_
  rintro r_ w4 ⟨Aw, cw, rfl, o4, b4⟩
  have e4 := e3.trans (b4.mono e3.size)
  have x1_4 := own_below x1_3 b4
  have x2_4 := own_below x2_3 b4
  have x3_4 := own_below x3 b4
  go_wp2_with fail
  refine (c_toResultS _ _ _ _ _ (HA0.out.later e4) hn0).mono ?_
  rintro r_ w5 ⟨rfl, t5, b5⟩
  have e5 := e4.trans (b5.mono e4.size)
  have o4_5 := own_below o4 b5
  have x5 := result_slOwn t5 HL0.out (Nat.le_refl _) hm0
  go_wp2_with fail
  refine (c_toInt64S _ _ _ _ _ (HA1.out.later e5) hn1).mono ?_
  rintro r_ w6 ⟨rfl, t6, b6⟩
  have e6 := e5.trans (b6.mono e5.size)
  have o4_6 := own_below o4_5 b6
  have x5_6 := own_below x5 b6
  have x6 := OwnSl.own t6 HL1.out (Nat.le_refl _) hm1
  go_wp2_with fail
  refine (c_toInt64S _ _ _ _ _ (HA2.out.later e6) hn2).mono ?_
  rintro r_ w7 ⟨rfl, t7, b7⟩
  have e7 := e6.trans (b7.mono e6.size)
  have o4_7 := own_below o4_6 b7
  have x5_7 := own_below x5_6 b7
  have x6_7 := own_below x6 b7
  have x7 := OwnSl.own t7 HL2.out (Nat.le_refl _) hm2
  go_wp2_with fail
  refine (C2.out _ _ _ _ (result_own HL0.out x5_7) (zs_ownN x6_7) (zs_ownN x7)).mono ?_
  rintro r_ w8 ⟨Ag, cg, rfl, o8, b8⟩
  have e8 := e7.trans (b8.mono e7.size)
  have o4_8 := own_below o4_7 b8
  have x5_8 := own_below x5_7 b8
  have x6_8 := own_below x6_7 b8
  have x7_8 := own_below x7 b8
  go_wp2_with fail
  refine (c_eqFractionS _ _ _ _ _ _ _ (fraction_own rfl o8) (fraction_own rfl o4_8) (by omega)).mono ?_
  rintro r_ w9 ⟨rfl, b9⟩
  have e9 := e8.trans (b9.mono e8.size)
  have o4_9 := own_below o4_8 b9
  have x5_9 := own_below x5_8 b9
  have x6_9 := own_below x6_8 b9
  have x7_9 := own_below x7_8 b9
  have o8_9 := own_below o8 b9
  go_wp2_with fail
  refine (c_toResultS _ _ _ _ _ (HA0.out.later e9) hn0).mono ?_
  rintro r_ w10 ⟨rfl, t10, b10⟩
  have e10 := e9.trans (b10.mono e9.size)
  have o4_10 := own_below o4_9 b10
  have x5_10 := own_below x5_9 b10
  have x6_10 := own_below x6_9 b10
  have x7_10 := own_below x7_9 b10
  have o8_10 := own_below o8_9 b10
  have x10 := result_slOwn t10 HL0.out (Nat.le_refl _) hm0
  go_wp2_with fail
  refine (c_eqResultS _ _ _ _ _ _ _ (result_own HL0.out x5_10) (result_own HL0.out x10) (by omega)).mono ?_
  rintro r_ w11 ⟨rfl, b11⟩
  have e11 := e10.trans (b11.mono e10.size)
  have o4_11 := own_below o4_10 b11
  have x5_11 := own_below x5_10 b11
  have x6_11 := own_below x6_10 b11
  have x7_11 := own_below x7_10 b11
  have o8_11 := own_below o8_10 b11
  have x10_11 := own_below x10 b11
  go_wp2_with fail
  refine (c_toInt64S _ _ _ _ _ (HA1.out.later e11) hn1).mono ?_
  rintro r_ w12 ⟨rfl, t12, b12⟩
  have e12 := e11.trans (b12.mono e11.size)
  have o4_12 := own_below o4_11 b12
  have x5_12 := own_below x5_11 b12
  have x6_12 := own_below x6_11 b12
  have x7_12 := own_below x7_11 b12
  have o8_12 := own_below o8_11 b12
  have x12 := OwnSl.own t12 HL1.out (Nat.le_refl _) hm1
  go_wp2_with fail
  refine (c_eqInt64S _ _ _ _ _ _ _ (zs_ownN x6_12) (zs_ownN x12) (by omega)).mono ?_
  rintro r_ w13 ⟨rfl, b13⟩
  have e13 := e12.trans (b13.mono e12.size)
  have o4_13 := own_below o4_12 b13
  have x5_13 := own_below x5_12 b13
  have x6_13 := own_below x6_12 b13
  have x7_13 := own_below x7_12 b13
  have o8_13 := own_below o8_12 b13
  have x12_13 := own_below x12 b13
  go_wp2_with fail
  refine (c_toInt64S _ _ _ _ _ (HA2.out.later e13) hn2).mono ?_
  rintro r_ w14 ⟨rfl, t14, b14⟩
  have e14 := e13.trans (b14.mono e13.size)
  have o4_14 := own_below o4_13 b14
  have x5_14 := own_below x5_13 b14
  have x6_14 := own_below x6_13 b14
  have x7_14 := own_below x7_13 b14
  have o8_14 := own_below o8_13 b14
  have x14 := OwnSl.own t14 HL2.out (Nat.le_refl _) hm2
  go_wp2_with fail
  refine (c_eqInt64S _ _ _ _ _ _ _ (zs_ownN x7_14) (zs_ownN x14) (by omega)).mono ?_
  rintro r_ w15 ⟨rfl, b15⟩
  have e15 := e14.trans (b15.mono e14.size)
  have o4_15 := own_below o4_14 b15
  have x5_15 := own_below x5_14 b15
  have x6_15 := own_below x6_14 b15
  have x7_15 := own_below x7_14 b15
  have o8_15 := own_below o8_14 b15
  have x14_15 := own_below x14 b15
  go_wp2_with fail
  refine (c_markResultS _ _ _ _ _ (1) _ HL0.out x5_15 (by omega) (by omega) (by omega)).mono ?_
  rintro r_ w16 ⟨rfl, y16, m16⟩
  have e16 := below_mark e15 m16 x5_15 (e4.size) e15.size
  have o4_16 := World.ownsRow.kept o4_15 m16 (own_sep o4 x5 (Nat.le_refl _))
  have x6_16 := World.ownsRow.kept x6_15 m16 (own_sep' x5 x6 (Nat.le_refl _))
  have x7_16 := World.ownsRow.kept x7_15 m16 (own_sep' x5 x7 b6.size)
  have o8_16 := World.ownsRow.kept o8_15 m16 (own_sep' x5 o8 (Nat.le_trans b6.size b7.size))
  go_wp2_with fail
  refine (c_markInt64S _ _ _ _ _ _ _ HL1.out x6_16 (by omega) (by omega) (by omega)).mono ?_
  rintro r_ w17 ⟨rfl, y17, m17⟩
  have e17 := below_mark e16 m17 x6_16 (e5.size) e16.size
  have o4_17 := World.ownsRow.kept o4_16 m17 (own_sep o4 x6 b5.size)
  have x7_17 := World.ownsRow.kept x7_16 m17 (own_sep' x6 x7 (Nat.le_refl _))
  have o8_17 := World.ownsRow.kept o8_16 m17 (own_sep' x6 o8 b7.size)
  go_wp2_with fail
  refine (c_markInt64S _ _ _ _ _ _ _ HL2.out x7_17 (by omega) (by omega) (by omega)).mono ?_
  rintro r_ w18 ⟨rfl, y18, m18⟩
  have e18 := below_mark e17 m18 x7_17 (e6.size) e17.size
  have o4_18 := World.ownsRow.kept o4_17 m18 (own_sep o4 x7 (Nat.le_trans b5.size b6.size))
  have o8_18 := World.ownsRow.kept o8_17 m18 (own_sep' x7 o8 (Nat.le_refl _))
  go_wp2_with fail
  refine (c_eqFractionS _ _ _ _ _ _ _ (fraction_own rfl o8_18) (fraction_own rfl o4_18) (by omega)).mono ?_
  rintro r_ w19 ⟨rfl, b19⟩
  have e19 := e18.trans (b19.mono e18.size)
  have o4_19 := own_below o4_18 b19
  have o8_19 := own_below o8_18 b19
  go_wp2_with fail
  refine (c_markFractionS _ _ _ _ _ 1 _ rfl o8_19 (by omega) (by omega) (by omega)).mono ?_
  rintro r_ w20 ⟨rfl, y20, m20⟩
  have e20 := below_mark e19 m20 o8_19 (e7.size) e19.size
  have o4_20 := World.ownsRow.kept o4_19 m20 (own_sep o4 o8 (Nat.le_trans b5.size (Nat.le_trans b6.size b7.size)))
  go_wp2_with fail
  refine (c_heldFractionS _ _ _ 1 _ (fraction_own (fractionMs_len 1 _) y20) (by omega) (by omega) (by omega)).mono ?_
  rintro r_ w21 ⟨rfl, b21⟩
  have e21 := e20.trans (b21.mono e20.size)
  have o4_21 := own_below o4_20 b21
  have o8_21 := own_below y20 b21
  go_wp2_with fail
  refine (c_toResultS _ _ _ _ _ (HA0.out.later e21) hn0).mono ?_
  rintro r_ w22 ⟨rfl, t22, b22⟩
  have e22 := e21.trans (b22.mono e21.size)
  have o4_22 := own_below o4_21 b22
  have o8_22 := own_below o8_21 b22
  have x22 := result_slOwn t22 HL0.out (Nat.le_refl _) hm0
  go_wp2_with fail
  refine (c_toInt64S _ _ _ _ _ (HA1.out.later e22) hn1).mono ?_
  rintro r_ w23 ⟨rfl, t23, b23⟩
  have e23 := e22.trans (b23.mono e22.size)
  have o4_23 := own_below o4_22 b23
  have o8_23 := own_below o8_22 b23
  have x22_23 := own_below x22 b23
  have x23 := OwnSl.own t23 HL1.out (Nat.le_refl _) hm1
  go_wp2_with fail
  refine (c_toInt64S _ _ _ _ _ (HA2.out.later e23) hn2).mono ?_
  rintro r_ w24 ⟨rfl, t24, b24⟩
  have e24 := e23.trans (b24.mono e23.size)
  have o4_24 := own_below o4_23 b24
  have o8_24 := own_below o8_23 b24
  have x22_24 := own_below x22_23 b24
  have x23_24 := own_below x23 b24
  have x24 := OwnSl.own t24 HL2.out (Nat.le_refl _) hm2
  go_wp2_with fail
  refine (C2.out _ _ _ _ (result_own HL0.out x22_24) (zs_ownN x23_24) (zs_ownN x24)).mono ?_
  rintro r_ w25 ⟨Ah, ch, rfl, o25, b25⟩
  have e25 := e24.trans (b25.mono e24.size)
  have o4_25 := own_below o4_24 b25
  have o8_25 := own_below o8_24 b25
  have x22_25 := own_below x22_24 b25
  have x23_25 := own_below x23_24 b25
  have x24_25 := own_below x24 b25
  go_wp2_with fail
  refine (c_eqFractionS _ _ _ _ _ _ _ (fraction_own rfl o25) (fraction_own rfl o4_25) (by omega)).mono ?_
  rintro r_ w26 ⟨rfl, b26⟩
  have e26 := e25.trans (b26.mono e25.size)
  have o4_26 := own_below o4_25 b26
  have o8_26 := own_below o8_25 b26
  have o25_26 := own_below o25 b26
  go_wp2_with fail
  refine (c_heldFractionS _ _ _ 1 _ (fraction_own (fractionMs_len 1 _) o8_26) (by omega) (by omega) (by omega)).mono ?_
  rintro r_ w27 ⟨rfl, b27⟩
  have e27 := e26.trans (b27.mono e26.size)
  have o8_27 := own_below o8_26 b27
  go_wp2_with fail
  go_returns
  exact ⟨rfl, e27⟩
end Go.Proofs.Ytgdmiddiaogpaaa.fnExactTeamTotals
