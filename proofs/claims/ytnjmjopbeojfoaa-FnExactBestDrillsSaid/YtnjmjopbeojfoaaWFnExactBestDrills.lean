/- The walk of the law FnExactBestDrills: it returns true, and what was there stays as it was. -/
import Derived.Test.YtnjmjopbeojfoaaDr11
import Derived.Test.YtnjmjopbeojfoaaMkDrill
import Derived.Test.YtnjmjopbeojfoaaTi
namespace Go.Proofs.Ytnjmjopbeojfoaa.fnExactBestDrills
open Go.RowKit Go.BigFrame
attribute [local go_sem] sub_cell sub_frozen drewN_setCell

set_option maxHeartbeats 4000000 in
theorem walk (A0 : Option Addr) (n0 c0 : Nat) (l0 : List (TDrill)) (s1 : ByteArray) (A2 : Option Addr) (n2 c2 : Nat) (l2 : List (Int)) (a3 : Int) (w : World) (w0 : InDrill w A0 n0 l0) (w1 : s1.size ≤ maxLen) (w2 : InZ w A2 n2 l2) (w3 : (Lit.int .i64 a3).wf = true) :
    Calls Try.prog 11 #[.slice A0 n0 c0, .string s1, .slice A2 n2 c2, .int .i64 a3] w fun e w' => e = .returned (.bool true) ∧ Below w.heap.size w w' := by
  obtain ⟨ha0, ok0, hm0⟩ := w0
  have HL0 := Lib.hid ha0.1
  have OK0 := Lib.hid ok0
  have HA0 := Lib.hid ha0
  clear ok0 ha0
  obtain ⟨ha2, ok2, hm2⟩ := w2
  have HL2 := Lib.hid ha2.1
  have OK2 := Lib.hid ok2
  have HA2 := Lib.hid ha2
  clear ok2 ha2
  have hb0 : n0 ≤ 9223372036854775807 := hm0
  have hb1 : s1.size ≤ 9223372036854775807 := w1
  have hb2 : n2 ≤ 9223372036854775807 := hm2
  by_cases hq0 : s1.size ≤ 1048576
  rotate_left
  · have hq0' : (1048576 : Int) < s1.size := by omega
    go_enter Try.func11, Try.ntmps11
    go_wp2_with fail
    go_returns
    exact ⟨rfl, Below.refl _ _⟩
  by_cases hq1 : n2 ≤ 1048576
  rotate_left
  · have hq1' : (1048576 : Int) < n2 := by omega
    go_enter Try.func11, Try.ntmps11
    go_wp2_with fail
    go_returns
    exact ⟨rfl, Below.refl _ _⟩
  have hw0 : (0 : Int) ≤ ((n0 + sumW drillW l0 : Nat) : Int) := by omega
  by_cases hq2 : 0 ≤ (1048576 : Int) - ((n0 + sumW drillW l0 : Nat) : Int)
  rotate_left
  · have H0 := Lib.hid (fun W h => c_szDrillS A0 n0 c0 l0 ((1048576 : Int)) (-1) W h (fun x hx => by obtain ⟨h0, h1, h2⟩ := OK0.out x hx; exact ⟨h0, h1⟩) hm0 (by omega) (by omega) (szV_neg (n := n0 + sumW drillW l0) (left := (1048576 : Int)) (by omega)))
    go_enter Try.func11, Try.ntmps11
    go_wp2_with fail
    refine (H0.out _ HA0.out).mono ?_
    rintro r_ wz1 ⟨rfl, bz1⟩
    have z1 := bz1
    go_wp2_with fail
    go_returns
    exact ⟨rfl, z1⟩
  have H0 := Lib.hid (fun W h => c_szDrillS A0 n0 c0 l0 ((1048576 : Int)) ((1048576 : Int) - ((n0 + sumW drillW l0 : Nat) : Int)) W h (fun x hx => by obtain ⟨h0, h1, h2⟩ := OK0.out x hx; exact ⟨h0, h1⟩) hm0 (by omega) (by omega) (szV_pos (n := n0 + sumW drillW l0) (left := (1048576 : Int)) hq2))
  have hn0 : n0 ≤ 1048576 := by omega
  have hn2 : n2 ≤ 1048576 := by omega
  obtain ⟨zs, hv_zs⟩ : ∃ z : List Int, bdZ l0 (bl s1) l2 a3 = z := ⟨_, rfl⟩
  obtain ⟨v, hv_v⟩ : ∃ z : Int, bdV l0 (bl s1) l2 a3 = z := ⟨_, rfl⟩
  obtain ⟨cd, hv_cd⟩ : ∃ z : Int, bdC l0 (bl s1) l2 a3 = z := ⟨_, rfl⟩
  have hz0 : zs.length ≤ 40 := hv_zs ▸ bdZ_len l0 (bl s1) l2 a3
  have C1 : Hid (∀ (B0 : Option Addr) (B2 : Option Addr) (W : World), Sl drillC W W.heap.size 3 B0 n0 l0 → Sl ic W W.heap.size 1 B2 n2 l2 → Calls Try.prog 39 #[.slice B0 n0 n0, .string s1, .slice B2 n2 n2, .int .i64 a3] W (BestPost zs v cd W)) := fun B0 B2 W h0 h2 => hv_zs ▸ hv_v ▸ hv_cd ▸ c_sBestDrills _ _ _ _ _ _ _ _ _ _ W h0 h2 (fun x hx => by obtain ⟨h0, h1, h2⟩ := OK0.out x hx; exact ⟨h0, h1⟩) hn0 hn2 w1 (Nat.le_refl _)
  have C2 : Hid (∀ (B0 : Option Addr) (B2 : Option Addr) (W : World), Sl drillC W W.heap.size 3 B0 n0 l0 → Sl ic W W.heap.size 1 B2 n2 l2 → Calls Try.prog 40 #[.slice B0 n0 n0, .string s1, .slice B2 n2 n2, .int .i64 a3] W (BestPost zs v cd W)) := fun B0 B2 W h0 h2 => hv_zs ▸ hv_v ▸ hv_cd ▸ c_iBestDrills _ _ _ _ _ _ _ _ _ _ W h0 h2 (fun x hx => by obtain ⟨h0, h1, h2⟩ := OK0.out x hx; exact ⟨h0, h1⟩) hn0 hn2 w1
  clear hv_zs hv_v hv_cd
  have hq1 : ¬ ((1 : Int) + (n0 : Int) * 3 + (n2 : Int) < 0) := by omega
  have hq2 : ¬ ((1 : Int) + (zs.length : Int) < 0) := by omega
  go_enter Try.func11, Try.ntmps11
  go_wp2_with fail
  refine (H0.out _ HA0.out).mono ?_
  rintro r_ wz1 ⟨rfl, bz1⟩
  have z1 := bz1
  go_wp2_with fail
  refine (c_toDrillS _ _ _ _ _ (HA0.out.later z1) hn0).mono ?_
  rintro r_ w1 ⟨rfl, t1, b1⟩
  have e1 := z1.trans (b1.mono z1.size)
  have x1 := drill_slOwn t1 HL0.out (Nat.le_refl _) hm0
  go_wp2_with fail
  refine (c_toInt64S _ _ _ _ _ (HA2.out.later e1) hn2).mono ?_
  rintro r_ w2 ⟨rfl, t2, b2⟩
  have e2 := e1.trans (b2.mono e1.size)
  have x1_2 := own_below x1 b2
  have x2 := OwnSl.own t2 HL2.out (Nat.le_refl _) hm2
  go_wp2_with fail
  refine (C1.out _ _ _ (drill_own HL0.out x1_2) (zs_ownN x2)).mono ?_
  rintro r_ w3 ⟨Aw, cw, rfl, o3, b3⟩
  have e3 := e2.trans (b3.mono e2.size)
  have x1_3 := own_below x1_2 b3
  have x2_3 := own_below x2 b3
  go_wp2_with fail
  refine (c_toDrillS _ _ _ _ _ (HA0.out.later e3) hn0).mono ?_
  rintro r_ w4 ⟨rfl, t4, b4⟩
  have e4 := e3.trans (b4.mono e3.size)
  have o3_4 := own_below o3 b4
  have x4 := drill_slOwn t4 HL0.out (Nat.le_refl _) hm0
  go_wp2_with fail
  refine (c_toInt64S _ _ _ _ _ (HA2.out.later e4) hn2).mono ?_
  rintro r_ w5 ⟨rfl, t5, b5⟩
  have e5 := e4.trans (b5.mono e4.size)
  have o3_5 := own_below o3_4 b5
  have x4_5 := own_below x4 b5
  have x5 := OwnSl.own t5 HL2.out (Nat.le_refl _) hm2
  go_wp2_with fail
  refine (C2.out _ _ _ (drill_own HL0.out x4_5) (zs_ownN x5)).mono ?_
  rintro r_ w6 ⟨Ag, cg, rfl, o6, b6⟩
  have e6 := e5.trans (b6.mono e5.size)
  have o3_6 := own_below o3_5 b6
  have x4_6 := own_below x4_5 b6
  have x5_6 := own_below x5 b6
  go_wp2_with fail
  refine (c_eqInt64S _ _ _ _ _ _ _ (zs_ownN o6) (zs_ownN o3_6) (by omega)).mono ?_
  rintro r_ w7 ⟨rfl, b7⟩
  have e7 := e6.trans (b7.mono e6.size)
  have o3_7 := own_below o3_6 b7
  have x4_7 := own_below x4_6 b7
  have x5_7 := own_below x5_6 b7
  have o6_7 := own_below o6 b7
  go_wp2_with fail
  refine (c_toDrillS _ _ _ _ _ (HA0.out.later e7) hn0).mono ?_
  rintro r_ w8 ⟨rfl, t8, b8⟩
  have e8 := e7.trans (b8.mono e7.size)
  have o3_8 := own_below o3_7 b8
  have x4_8 := own_below x4_7 b8
  have x5_8 := own_below x5_7 b8
  have o6_8 := own_below o6_7 b8
  have x8 := drill_slOwn t8 HL0.out (Nat.le_refl _) hm0
  go_wp2_with fail
  refine (c_eqDrillS _ _ _ _ _ _ _ (drill_own HL0.out x4_8) (drill_own HL0.out x8) (by omega)).mono ?_
  rintro r_ w9 ⟨rfl, b9⟩
  have e9 := e8.trans (b9.mono e8.size)
  have o3_9 := own_below o3_8 b9
  have x4_9 := own_below x4_8 b9
  have x5_9 := own_below x5_8 b9
  have o6_9 := own_below o6_8 b9
  have x8_9 := own_below x8 b9
  go_wp2_with fail
  refine (c_toInt64S _ _ _ _ _ (HA2.out.later e9) hn2).mono ?_
  rintro r_ w10 ⟨rfl, t10, b10⟩
  have e10 := e9.trans (b10.mono e9.size)
  have o3_10 := own_below o3_9 b10
  have x4_10 := own_below x4_9 b10
  have x5_10 := own_below x5_9 b10
  have o6_10 := own_below o6_9 b10
  have x10 := OwnSl.own t10 HL2.out (Nat.le_refl _) hm2
  go_wp2_with fail
  refine (c_eqInt64S _ _ _ _ _ _ _ (zs_ownN x5_10) (zs_ownN x10) (by omega)).mono ?_
  rintro r_ w11 ⟨rfl, b11⟩
  have e11 := e10.trans (b11.mono e10.size)
  have o3_11 := own_below o3_10 b11
  have x4_11 := own_below x4_10 b11
  have x5_11 := own_below x5_10 b11
  have o6_11 := own_below o6_10 b11
  have x10_11 := own_below x10 b11
  go_wp2_with fail
  refine (c_markDrillS _ _ _ _ _ (1) _ HL0.out x4_11 (by omega) (by omega) (by omega)).mono ?_
  rintro r_ w12 ⟨rfl, y12, m12⟩
  have e12 := below_mark e11 m12 x4_11 (e3.size) e11.size
  have o3_12 := World.ownsRow.kept o3_11 m12 (own_sep o3 x4 (Nat.le_refl _))
  have x5_12 := World.ownsRow.kept x5_11 m12 (own_sep' x4 x5 (Nat.le_refl _))
  have o6_12 := World.ownsRow.kept o6_11 m12 (own_sep' x4 o6 b5.size)
  go_wp2_with fail
  refine (c_markInt64S _ _ _ _ _ _ _ HL2.out x5_12 (by omega) (by omega) (by omega)).mono ?_
  rintro r_ w13 ⟨rfl, y13, m13⟩
  have e13 := below_mark e12 m13 x5_12 (e4.size) e12.size
  have o3_13 := World.ownsRow.kept o3_12 m13 (own_sep o3 x5 b4.size)
  have o6_13 := World.ownsRow.kept o6_12 m13 (own_sep' x5 o6 (Nat.le_refl _))
  go_wp2_with fail
  refine (c_eqInt64S _ _ _ _ _ _ _ (zs_ownN o6_13) (zs_ownN o3_13) (by omega)).mono ?_
  rintro r_ w14 ⟨rfl, b14⟩
  have e14 := e13.trans (b14.mono e13.size)
  have o3_14 := own_below o3_13 b14
  have o6_14 := own_below o6_13 b14
  go_wp2_with fail
  refine (c_markInt64S _ _ _ _ _ _ _ rfl o6_14 (by omega) (by omega) (by omega)).mono ?_
  rintro r_ w15 ⟨rfl, y15, m15⟩
  have e15 := below_mark e14 m15 o6_14 (e5.size) e14.size
  have o3_15 := World.ownsRow.kept o3_14 m15 (own_sep o3 o6 (Nat.le_trans b4.size b5.size))
  go_wp2_with fail
  refine (c_heldInt64S _ _ _ _ _ (z_held y15) (by omega) (by omega) (by omega)).mono ?_
  rintro r_ w16 ⟨rfl, b16⟩
  have e16 := e15.trans (b16.mono e15.size)
  have o3_16 := own_below o3_15 b16
  have o6_16 := own_below y15 b16
  go_wp2_with fail
  refine (c_toDrillS _ _ _ _ _ (HA0.out.later e16) hn0).mono ?_
  rintro r_ w17 ⟨rfl, t17, b17⟩
  have e17 := e16.trans (b17.mono e16.size)
  have o3_17 := own_below o3_16 b17
  have o6_17 := own_below o6_16 b17
  have x17 := drill_slOwn t17 HL0.out (Nat.le_refl _) hm0
  go_wp2_with fail
  refine (c_toInt64S _ _ _ _ _ (HA2.out.later e17) hn2).mono ?_
  rintro r_ w18 ⟨rfl, t18, b18⟩
  have e18 := e17.trans (b18.mono e17.size)
  have o3_18 := own_below o3_17 b18
  have o6_18 := own_below o6_17 b18
  have x17_18 := own_below x17 b18
  have x18 := OwnSl.own t18 HL2.out (Nat.le_refl _) hm2
  go_wp2_with fail
  refine (C2.out _ _ _ (drill_own HL0.out x17_18) (zs_ownN x18)).mono ?_
  rintro r_ w19 ⟨Ah, ch, rfl, o19, b19⟩
  have e19 := e18.trans (b19.mono e18.size)
  have o3_19 := own_below o3_18 b19
  have o6_19 := own_below o6_18 b19
  have x17_19 := own_below x17_18 b19
  have x18_19 := own_below x18 b19
  go_wp2_with fail
  refine (c_eqInt64S _ _ _ _ _ _ _ (zs_ownN o19) (zs_ownN o3_19) (by omega)).mono ?_
  rintro r_ w20 ⟨rfl, b20⟩
  have e20 := e19.trans (b20.mono e19.size)
  have o3_20 := own_below o3_19 b20
  have o6_20 := own_below o6_19 b20
  have o19_20 := own_below o19 b20
  go_wp2_with fail
  refine (c_heldInt64S _ _ _ _ _ (z_held o6_20) (by omega) (by omega) (by omega)).mono ?_
  rintro r_ w21 ⟨rfl, b21⟩
  have e21 := e20.trans (b21.mono e20.size)
  have o6_21 := own_below o6_20 b21
  go_wp2_with fail
  go_returns
  exact ⟨rfl, e21⟩
end Go.Proofs.Ytnjmjopbeojfoaa.fnExactBestDrills
