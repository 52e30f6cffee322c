/- The walk of the law FnExactNextLessons: it returns true, and what was there stays as it was. -/
import Derived.Test.YtajcdaclbammaaaNx
import Derived.Test.YtajcdaclbammaaaMl
namespace Go.Proofs.Ytajcdaclbammaaa.fnExactNextLessons
open Go.RowKit Go.BigFrame
attribute [local go_sem] sub_cell sub_frozen drewN_setCell

set_option maxHeartbeats 4000000 in
theorem walk (A0 : Option Addr) (n0 c0 : Nat) (l0 : List TLesson) (A1 : Option Addr) (n1 c1 : Nat) (l1 : List Int) (w : World) (w0 : InLesson w A0 n0 l0) (w1 : InZ w A1 n1 l1) :
    Calls Try.prog 6 #[.slice A0 n0 c0, .slice A1 n1 c1] w fun e w' => e = .returned (.bool true) ∧ Below w.heap.size w w' := by
  obtain ⟨ha0, ok0, hm0⟩ := w0
  have HL0 := Lib.hid ha0.len
  have OK0 := Lib.hid ok0
  have HA0 := Lib.hid ha0
  clear ok0 ha0
  have hb0 : n0 ≤ 9223372036854775807 := hm0
  obtain ⟨ha1, ok1, hm1⟩ := w1
  have HL1 := Lib.hid ha1.1
  have HA1 := Lib.hid ha1
  clear ok1 ha1
  have hb1 : n1 ≤ 9223372036854775807 := hm1
  by_cases hn1 : n1 ≤ 1048576
  rotate_left
  · have hq1 : (1048576 : Int) < n1 := by omega
    go_enter Try.func6, Try.ntmps6
    go_wp2_with fail
    go_returns
    exact ⟨rfl, Below.refl _ _⟩
  have hw0 : (0 : Int) ≤ ((n0 + sumW lessonW l0 : Nat) : Int) := by omega
  by_cases hq0 : 0 ≤ (1048576 : Int) - ((n0 + sumW lessonW l0 : Nat) : Int)
  rotate_left
  · have H0 := Lib.hid (fun W h => c_szLessonS A0 n0 c0 l0 (1048576 : Int) (-1) W h OK0.out hm0 (by omega) (by omega) (szV_neg (n := n0 + sumW lessonW l0) (left := (1048576 : Int)) (by omega)))
    go_enter Try.func6, Try.ntmps6
    go_wp2_with fail
    refine (H0.out _ HA0.out).mono ?_
    rintro r_ wz1 ⟨rfl, bz1⟩
    go_wp2_with fail
    go_returns
    exact ⟨rfl, bz1⟩
  have H0 := Lib.hid (fun W h => c_szLessonS A0 n0 c0 l0 (1048576 : Int) ((1048576 : Int) - ((n0 + sumW lessonW l0 : Nat) : Int)) W h OK0.out hm0 (by omega) (by omega) (szV_pos (n := n0 + sumW lessonW l0) (left := (1048576 : Int)) hq0))
  have hn0 : n0 ≤ 1048576 := by omega
  have LSB := Lib.hid (lsB_of OK0.out (show sumW lessonW l0 ≤ 1048576 by omega))
  have LSN : Hid (∀ x ∈ l0, x.2.2.1.length ≤ 1048576) := fun x hx => (LSB.out x hx).2.2
  have LSM : Hid (∀ x ∈ l0, x.2.2.1.length ≤ 4611686018427387904) := fun x hx => by have := LSN.out x hx; omega
  have hzlen := nxtZ_len l0 l1
  have hz0 : (nxtZ l0 l1).length ≤ 1048576 := hzlen
  clear hzlen
  obtain ⟨zs, hv_zs⟩ : ∃ z : List Int, nxtZ l0 l1 = z := ⟨_, rfl⟩
  obtain ⟨u, hv_u⟩ : ∃ z : Int, takB l0 l1 = z := ⟨_, rfl⟩
  rw [hv_zs] at hz0
  have C1 : Hid (∀ (B0 : Option Addr) (B1 : Option Addr) (W : World), Ls W B0 n0 l0 → Zs W B1 n1 l1 → Calls Try.prog 20 #[.slice B0 n0 n0, .slice B1 n1 n1] W (IntsPost zs u W)) := fun B0 B1 W h0 h1 => hv_zs ▸ hv_u ▸ c_sNextLessons _ _ _ _ _ _ _ _ W h0 h1 LSB.out hn0 hn1
  have C2 : Hid (∀ (B0 : Option Addr) (B1 : Option Addr) (W : World), Ls W B0 n0 l0 → Zs W B1 n1 l1 → Calls Try.prog 21 #[.slice B0 n0 n0, .slice B1 n1 n1] W (IntsPost zs u W)) := fun B0 B1 W h0 h1 => hv_zs ▸ hv_u ▸ c_iNextLessons _ _ _ _ _ _ _ _ W h0 h1 LSB.out hn0 hn1
  clear hv_zs hv_u
  have hq2 : ¬ ((1 : Int) + (zs.length : Int) < 0) := by omega
  have HSN : Hid (sumW needW l0 ≤ 1048576) := Nat.le_trans (needW_le l0) (by omega)
  go_enter Try.func6, Try.ntmps6
  go_wp2_with fail
  refine (H0.out _ HA0.out).mono ?_
  rintro r_ w0 ⟨rfl, e0⟩
  go_wp2_with fail
  refine (c_toLessonS _ _ _ l0 _ (HA0.out.later e0) hn0 LSN.out).mono ?_
  rintro r_ w1 ⟨rfl, ⟨gs1, t1⟩, b1⟩
  have e1 := e0.trans (b1.mono e0.size)
  have L1_1 := t1
  go_wp2_with fail
  refine (c_toInt64S _ _ _ l1 _ (HA1.out.later e1) hn1).mono ?_
  rintro r_ w2 ⟨rfl, t2, b2⟩
  have e2 := e1.trans (b2.mono e1.size)
  have L1_2 := L1_1.later b2
  have Z2_2 := OwnSl.own t2 HL1.out (Nat.le_refl _) hm1
  go_wp2_with fail
  refine (C1.out _ _ _ (L1_2.ls HL0.out) (zs_ownN Z2_2)).mono ?_
  rintro r_ w3 ⟨Aw, cw, rfl, o3, b3⟩
  have e3 := e2.trans (b3.mono e2.size)
  have L1_3 := L1_2.later b3
  have Z2_3 := own_below Z2_2 b3
  have W_3 := o3
  go_wp2_with fail
  refine (c_toLessonS _ _ _ l0 _ (HA0.out.later e3) hn0 LSN.out).mono ?_
  rintro r_ w4 ⟨rfl, ⟨gs4, t4⟩, b4⟩
  have e4 := e3.trans (b4.mono e3.size)
  have W_4 := own_below W_3 b4
  have L4_4 := t4
  go_wp2_with fail
  refine (c_toInt64S _ _ _ l1 _ (HA1.out.later e4) hn1).mono ?_
  rintro r_ w5 ⟨rfl, t5, b5⟩
  have e5 := e4.trans (b5.mono e4.size)
  have W_5 := own_below W_4 b5
  have L4_5 := L4_4.later b5
  have Z5_5 := OwnSl.own t5 HL1.out (Nat.le_refl _) hm1
  go_wp2_with fail
  refine (C2.out _ _ _ (L4_5.ls HL0.out) (zs_ownN Z5_5)).mono ?_
  rintro r_ w6 ⟨Ag, cg, rfl, o6, b6⟩
  have e6 := e5.trans (b6.mono e5.size)
  have W_6 := own_below W_5 b6
  have L4_6 := L4_5.later b6
  have Z5_6 := own_below Z5_5 b6
  have G_6 := o6
  go_wp2_with fail
  refine (c_eqInt64S _ _ _ _ _ _ _ (zs_ownN G_6) (zs_ownN W_6) (by omega)).mono ?_
  rintro r_ w7 ⟨rfl, b7⟩
  have e7 := e6.trans (b7.mono e6.size)
  have W_7 := own_below W_6 b7
  have L4_7 := L4_6.later b7
  have Z5_7 := own_below Z5_6 b7
  have G_7 := own_below G_6 b7
  go_wp2_with fail
  refine (c_toLessonS _ _ _ l0 _ (HA0.out.later e7) hn0 LSN.out).mono ?_
  rintro r_ w8 ⟨rfl, ⟨gs8, t8⟩, b8⟩
  have e8 := e7.trans (b8.mono e7.size)
  have W_8 := own_below W_7 b8
  have L4_8 := L4_7.later b8
  have Z5_8 := own_below Z5_7 b8
  have G_8 := own_below G_7 b8
  have L8_8 := t8
  go_wp2_with fail
  refine (c_eqLessonS _ _ _ _ _ _ _ (L4_8.ls HL0.out) (L8_8.ls HL0.out) LSM.out (by omega)).mono ?_
  rintro r_ w9 ⟨rfl, b9⟩
  have e9 := e8.trans (b9.mono e8.size)
  have W_9 := own_below W_8 b9
  have L4_9 := L4_8.later b9
  have Z5_9 := own_below Z5_8 b9
  have G_9 := own_below G_8 b9
  have L8_9 := L8_8.later b9
  go_wp2_with fail
  refine (c_toInt64S _ _ _ l1 _ (HA1.out.later e9) hn1).mono ?_
  rintro r_ w10 ⟨rfl, t10, b10⟩
  have e10 := e9.trans (b10.mono e9.size)
  have W_10 := own_below W_9 b10
  have L4_10 := L4_9.later b10
  have Z5_10 := own_below Z5_9 b10
  have G_10 := own_below G_9 b10
  have Z10_10 := OwnSl.own t10 HL1.out (Nat.le_refl _) hm1
  go_wp2_with fail
  refine (c_eqInt64S _ _ _ _ _ _ _ (zs_ownN Z5_10) (zs_ownN Z10_10) (by omega)).mono ?_
  rintro r_ w11 ⟨rfl, b11⟩
  have e11 := e10.trans (b11.mono e10.size)
  have W_11 := own_below W_10 b11
  have L4_11 := L4_10.later b11
  have Z5_11 := own_below Z5_10 b11
  have G_11 := own_below G_10 b11
  have Z10_11 := own_below Z10_10 b11
  have hgs := L4_4.gs_lt
  go_wp2_with fail
  refine (c_markLessonS _ _ l0 gs4 1 _ (MkL.of L4_11 HL0.out) HL0.out (L4_4.len.trans HL0.out) hn0 HSN.out (by omega) (by omega)).mono ?_
  rintro r_ w12 ⟨kv, rfl, hkv0, hkv1, T12⟩
  have e12 := e11.trans (T12.below (B := w.heap.size) e3.size (fun g hg => by have h1 := (hgs g hg).1; have h2 := e3.size; omega) e11.size)
  have sW : w3.heap.size ≤ w3.heap.size := by exact Nat.le_refl _
  have W_12 := T12.own W_11 (fun g hg => ⟨by have h1 := (o3.lt g hg).2; omega, fun hm => by have h1 := (o3.lt g hg).2; have h2 := (hgs g hm).1; omega⟩)
  have sZ5 : w4.heap.size ≤ w4.heap.size := by exact Nat.le_refl _
  have Z5_12 := T12.own Z5_11 (fun g hg => ⟨by have h1 := (Z5_5.lt g hg).1; have h2 := L4_4.lt; omega, fun hm => by have h1 := (Z5_5.lt g hg).1; have h2 := (hgs g hm).2; omega⟩)
  have sG : w4.heap.size ≤ w5.heap.size := by have h5 := b5.size ; omega
  have G_12 := T12.own G_11 (fun g hg => ⟨by have h1 := (o6.lt g hg).1; have h2 := L4_4.lt; omega, fun hm => by have h1 := (o6.lt g hg).1; have h2 := (hgs g hm).2; omega⟩)
  go_wp2_with fail
  refine (c_markInt64S _ _ _ _ _ (kv : Int) _ HL1.out Z5_12 (by omega) (by omega) (by omega)).mono ?_
  rintro r_ w13 ⟨rfl, y13, m13⟩
  have e13 := below_mark e12 m13 Z5_12 (e4.size) e12.size
  have W_13 := World.ownsRow.kept W_12 m13 (own_sep o3 Z5_5 (by have h4 := b4.size ; omega))
  have G_13 := World.ownsRow.kept G_12 m13 (own_sep' Z5_5 o6 (by omega))
  have hq1 : ¬ (((kv : Int) + (n1 : Int)) < 0) := by omega
  go_wp2_with fail
  refine (c_eqInt64S _ _ _ _ _ _ _ (zs_ownN G_13) (zs_ownN W_13) (by omega)).mono ?_
  rintro r_ w14 ⟨rfl, b14⟩
  have e14 := e13.trans (b14.mono e13.size)
  have W_14 := own_below W_13 b14
  have G_14 := own_below G_13 b14
  go_wp2_with fail
  refine (c_markInt64S _ _ _ _ _ _ _ rfl G_14 (by omega) (by omega) (by omega)).mono ?_
  rintro r_ w15 ⟨rfl, y15, m15⟩
  have e15 := below_mark e14 m15 G_14 (e5.size) e14.size
  have W_15 := World.ownsRow.kept W_14 m15 (own_sep o3 o6 (by have h4 := b4.size ; have h5 := b5.size ; omega))
  have G_15 := y15
  go_wp2_with fail
  refine (c_heldInt64S _ _ _ _ _ (z_held G_15) (by omega) (by omega) (by omega)).mono ?_
  rintro r_ w16 ⟨rfl, b16⟩
  have e16 := e15.trans (b16.mono e15.size)
  have W_16 := own_below W_15 b16
  have G_16 := own_below G_15 b16
  go_wp2_with fail
  refine (c_toLessonS _ _ _ l0 _ (HA0.out.later e16) hn0 LSN.out).mono ?_
  rintro r_ w17 ⟨rfl, ⟨gs17, t17⟩, b17⟩
  have e17 := e16.trans (b17.mono e16.size)
  have W_17 := own_below W_16 b17
  have G_17 := own_below G_16 b17
  have L17_17 := t17
  go_wp2_with fail
  refine (c_toInt64S _ _ _ l1 _ (HA1.out.later e17) hn1).mono ?_
  rintro r_ w18 ⟨rfl, t18, b18⟩
  have e18 := e17.trans (b18.mono e17.size)
  have W_18 := own_below W_17 b18
  have G_18 := own_below G_17 b18
  have L17_18 := L17_17.later b18
  have Z18_18 := OwnSl.own t18 HL1.out (Nat.le_refl _) hm1
  go_wp2_with fail
  refine (C2.out _ _ _ (L17_18.ls HL0.out) (zs_ownN Z18_18)).mono ?_
  rintro r_ w19 ⟨Ah, ch, rfl, o19, b19⟩
  have e19 := e18.trans (b19.mono e18.size)
  have W_19 := own_below W_18 b19
  have G_19 := own_below G_18 b19
  have L17_19 := L17_18.later b19
  have Z18_19 := own_below Z18_18 b19
  have H_19 := o19
  go_wp2_with fail
  refine (c_eqInt64S _ _ _ _ _ _ _ (zs_ownN H_19) (zs_ownN W_19) (by omega)).mono ?_
  rintro r_ w20 ⟨rfl, b20⟩
  have e20 := e19.trans (b20.mono e19.size)
  have W_20 := own_below W_19 b20
  have G_20 := own_below G_19 b20
  have H_20 := own_below H_19 b20
  go_wp2_with fail
  refine (c_heldInt64S _ _ _ _ _ (z_held G_20) (by omega) (by omega) (by omega)).mono ?_
  rintro r_ w21 ⟨rfl, b21⟩
  have e21 := e20.trans (b21.mono e20.size)
  have G_21 := own_below G_20 b21
  go_wp2_with fail
  go_returns
  exact ⟨rfl, e21⟩
end Go.Proofs.Ytajcdaclbammaaa.fnExactNextLessons
