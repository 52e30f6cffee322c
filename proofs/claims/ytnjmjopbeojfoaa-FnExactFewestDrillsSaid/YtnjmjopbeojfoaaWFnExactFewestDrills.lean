/- The walk of the law FnExactFewestDrills: it returns true, and what was there stays as it was. -/
import Derived.Test.YtnjmjopbeojfoaaCh2
import Derived.Test.YtnjmjopbeojfoaaMkDrill
import Derived.Test.YtnjmjopbeojfoaaTi
namespace Go.Proofs.Ytnjmjopbeojfoaa.fnExactFewestDrills
open Go.RowKit Go.BigFrame
attribute [local go_sem] sub_cell sub_frozen drewN_setCell

set_option maxHeartbeats 4000000 in
theorem walk (A0 : Option Addr) (n0 c0 : Nat) (l0 : List (TDrill)) (s1 : ByteArray) (w : World) (w0 : InDrill w A0 n0 l0) (w1 : s1.size ≤ maxLen) :
    Calls Try.prog 10 #[.slice A0 n0 c0, .string s1] w fun e w' => e = .returned (.bool true) ∧ Below w.heap.size w w' := by
  obtain ⟨ha0, ok0, hm0⟩ := w0
  have HL0 := Lib.hid ha0.1
  have OK0 := Lib.hid ok0
  have HA0 := Lib.hid ha0
  clear ok0 ha0
  have hb0 : n0 ≤ 9223372036854775807 := hm0
  have hb1 : s1.size ≤ 9223372036854775807 := w1
  by_cases hq0 : s1.size ≤ 1048576
  rotate_left
  · have hq0' : (1048576 : Int) < s1.size := by omega
    go_enter Try.func10, Try.ntmps10
    go_wp2_with fail
    go_returns
    exact ⟨rfl, Below.refl _ _⟩
  have hw0 : (0 : Int) ≤ ((n0 + sumW drillW l0 : Nat) : Int) := by omega
  by_cases hq1 : 0 ≤ (1048576 : Int) - ((n0 + sumW drillW l0 : Nat) : Int)
  rotate_left
  · have H0 := Lib.hid (fun W h => c_szDrillS A0 n0 c0 l0 ((1048576 : Int)) (-1) W h (fun x hx => by obtain ⟨h0, h1, h2⟩ := OK0.out x hx; exact ⟨h0, h1⟩) hm0 (by omega) (by omega) (szV_neg (n := n0 + sumW drillW l0) (left := (1048576 : Int)) (by omega)))
    go_enter Try.func10, Try.ntmps10
    go_wp2_with fail
    refine (H0.out _ HA0.out).mono ?_
    rintro r_ wz1 ⟨rfl, bz1⟩
    have z1 := bz1
    go_wp2_with fail
    go_returns
    exact ⟨rfl, z1⟩
  have H0 := Lib.hid (fun W h => c_szDrillS A0 n0 c0 l0 ((1048576 : Int)) ((1048576 : Int) - ((n0 + sumW drillW l0 : Nat) : Int)) W h (fun x hx => by obtain ⟨h0, h1, h2⟩ := OK0.out x hx; exact ⟨h0, h1⟩) hm0 (by omega) (by omega) (szV_pos (n := n0 + sumW drillW l0) (left := (1048576 : Int)) hq1))
  have hn0 : n0 ≤ 1048576 := by omega
  obtain ⟨zs, hv_zs⟩ : ∃ z : List Int, fewA l0 (bl s1) = z := ⟨_, rfl⟩
  obtain ⟨v, hv_v⟩ : ∃ z : Int, fewC l0 (bl s1) = z := ⟨_, rfl⟩
  have hz0 : zs.length ≤ 40 := hv_zs ▸ fewA_len l0 (bl s1)
  have C1 : Hid (∀ (B0 : Option Addr) (W : World), Sl drillC W W.heap.size 3 B0 n0 l0 → Calls Try.prog 35 #[.slice B0 n0 n0, .string s1] W (IntsPost zs v W)) := fun B0 W h0 => hv_zs ▸ hv_v ▸ c_sFewestDrills _ _ _ _ _ W h0 (fun x hx => by obtain ⟨h0, h1, h2⟩ := OK0.out x hx; exact ⟨h0, h1⟩) hn0 w1 (Nat.le_refl _)
  have C2 : Hid (∀ (B0 : Option Addr) (W : World), Sl drillC W W.heap.size 3 B0 n0 l0 → Calls Try.prog 36 #[.slice B0 n0 n0, .string s1] W (IntsPost zs v W)) := fun B0 W h0 => hv_zs ▸ hv_v ▸ c_iFewestDrills _ _ _ _ _ W h0 (fun x hx => by obtain ⟨h0, h1, h2⟩ := OK0.out x hx; exact ⟨h0, h1⟩) hn0 w1
  clear hv_zs hv_v
  have hq1 : ¬ ((1 : Int) + (n0 : Int) * 3 < 0) := by omega
  have hq2 : ¬ ((1 : Int) + (zs.length : Int) < 0) := by omega
  go_enter Try.func10, Try.ntmps10
  go_wp2_with fail
  refine (H0.out _ HA0.out).mono ?_
  rintro r_ wz1 ⟨rfl, bz1⟩
  have z1 := bz1
  go_wp2_with fail
  refine (c_toDrillS _ _ _ _ _ (HA0.out.later z1) hn0).mono ?_
  rintro r_ w1 ⟨rfl, t1, b1⟩
  have e1 := z1.trans (b1.mono z1.size)
  have x1 := drill_slOwn t1 HL0.out (Nat.le_refl _) hm0
  go_wp2_with fail
  refine (C1.out _ _ (drill_own HL0.out x1)).mono ?_
  rintro r_ w2 ⟨Aw, cw, rfl, o2, b2⟩
  have e2 := e1.trans (b2.mono e1.size)
  have x1_2 := own_below x1 b2
  go_wp2_with fail
  refine (c_toDrillS _ _ _ _ _ (HA0.out.later e2) hn0).mono ?_
  rintro r_ w3 ⟨rfl, t3, b3⟩
  have e3 := e2.trans (b3.mono e2.size)
  have o2_3 := own_below o2 b3
  have x3 := drill_slOwn t3 HL0.out (Nat.le_refl _) hm0
  go_wp2_with fail
  refine (C2.out _ _ (drill_own HL0.out x3)).mono ?_
  rintro r_ w4 ⟨Ag, cg, rfl, o4, b4⟩
  have e4 := e3.trans (b4.mono e3.size)
  have o2_4 := own_below o2_3 b4
  have x3_4 := own_below x3 b4
  go_wp2_with fail
  refine (c_eqInt64S _ _ _ _ _ _ _ (zs_ownN o4) (zs_ownN o2_4) (by omega)).mono ?_
  rintro r_ w5 ⟨rfl, b5⟩
  have e5 := e4.trans (b5.mono e4.size)
  have o2_5 := own_below o2_4 b5
  have x3_5 := own_below x3_4 b5
  have o4_5 := own_below o4 b5
  go_wp2_with fail
  refine (c_toDrillS _ _ _ _ _ (HA0.out.later e5) hn0).mono ?_
  rintro r_ w6 ⟨rfl, t6, b6⟩
  have e6 := e5.trans (b6.mono e5.size)
  have o2_6 := own_below o2_5 b6
  have x3_6 := own_below x3_5 b6
  have o4_6 := own_below o4_5 b6
  have x6 := drill_slOwn t6 HL0.out (Nat.le_refl _) hm0
  go_wp2_with fail
  refine (c_eqDrillS _ _ _ _ _ _ _ (drill_own HL0.out x3_6) (drill_own HL0.out x6) (by omega)).mono ?_
  rintro r_ w7 ⟨rfl, b7⟩
  have e7 := e6.trans (b7.mono e6.size)
  have o2_7 := own_below o2_6 b7
  have x3_7 := own_below x3_6 b7
  have o4_7 := own_below o4_6 b7
  have x6_7 := own_below x6 b7
  go_wp2_with fail
  refine (c_markDrillS _ _ _ _ _ (1) _ HL0.out x3_7 (by omega) (by omega) (by omega)).mono ?_
  rintro r_ w8 ⟨rfl, y8, m8⟩
  have e8 := below_mark e7 m8 x3_7 (e2.size) e7.size
  have o2_8 := World.ownsRow.kept o2_7 m8 (own_sep o2 x3 (Nat.le_refl _))
  have o4_8 := World.ownsRow.kept o4_7 m8 (own_sep' x3 o4 (Nat.le_refl _))
  go_wp2_with fail
  refine (c_eqInt64S _ _ _ _ _ _ _ (zs_ownN o4_8) (zs_ownN o2_8) (by omega)).mono ?_
  rintro r_ w9 ⟨rfl, b9⟩
  have e9 := e8.trans (b9.mono e8.size)
  have o2_9 := own_below o2_8 b9
  have o4_9 := own_below o4_8 b9
  go_wp2_with fail
  refine (c_markInt64S _ _ _ _ _ _ _ rfl o4_9 (by omega) (by omega) (by omega)).mono ?_
  rintro r_ w10 ⟨rfl, y10, m10⟩
  have e10 := below_mark e9 m10 o4_9 (e3.size) e9.size
  have o2_10 := World.ownsRow.kept o2_9 m10 (own_sep o2 o4 b3.size)
  go_wp2_with fail
  refine (c_heldInt64S _ _ _ _ _ (z_held y10) (by omega) (by omega) (by omega)).mono ?_
  rintro r_ w11 ⟨rfl, b11⟩
  have e11 := e10.trans (b11.mono e10.size)
  have o2_11 := own_below o2_10 b11
  have o4_11 := own_below y10 b11
  go_wp2_with fail
  refine (c_toDrillS _ _ _ _ _ (HA0.out.later e11) hn0).mono ?_
  rintro r_ w12 ⟨rfl, t12, b12⟩
  have e12 := e11.trans (b12.mono e11.size)
  have o2_12 := own_below o2_11 b12
  have o4_12 := own_below o4_11 b12
  have x12 := drill_slOwn t12 HL0.out (Nat.le_refl _) hm0
  go_wp2_with fail
  refine (C2.out _ _ (drill_own HL0.out x12)).mono ?_
  rintro r_ w13 ⟨Ah, ch, rfl, o13, b13⟩
  have e13 := e12.trans (b13.mono e12.size)
  have o2_13 := own_below o2_12 b13
  have o4_13 := own_below o4_12 b13
  have x12_13 := own_below x12 b13
  go_wp2_with fail
  refine (c_eqInt64S _ _ _ _ _ _ _ (zs_ownN o13) (zs_ownN o2_13) (by omega)).mono ?_
  rintro r_ w14 ⟨rfl, b14⟩
  have e14 := e13.trans (b14.mono e13.size)
  have o2_14 := own_below o2_13 b14
  have o4_14 := own_below o4_13 b14
  have o13_14 := own_below o13 b14
  go_wp2_with fail
  refine (c_heldInt64S _ _ _ _ _ (z_held o4_14) (by omega) (by omega) (by omega)).mono ?_
  rintro r_ w15 ⟨rfl, b15⟩
  have e15 := e14.trans (b15.mono e14.size)
  have o4_15 := own_below o4_14 b15
  go_wp2_with fail
  go_returns
  exact ⟨rfl, e15⟩
end Go.Proofs.Ytnjmjopbeojfoaa.fnExactFewestDrills
