/- The walk of the law FnExactLessonsForText: it returns true, and what was there stays as it was. -/
import Derived.Test.YtajcdaclbammaaaFt3
import Derived.Test.YtajcdaclbammaaaMl
namespace Go.Proofs.Ytajcdaclbammaaa.fnExactLessonsForText
open Go.RowKit Go.BigFrame
attribute [local go_sem] sub_cell sub_frozen drewN_setCell

set_option maxHeartbeats 4000000 in
theorem walk (A0 : Option Addr) (n0 c0 : Nat) (l0 : List TLesson) (s1 : ByteArray) (w : World) (w0 : InLesson w A0 n0 l0) (w1 : s1.size ≤ maxLen) :
    Calls Try.prog 8 #[.slice A0 n0 c0, .string s1] w fun e w' => e = .returned (.bool true) ∧ Below w.heap.size w w' := by
  obtain ⟨ha0, ok0, hm0⟩ := w0
  have HL0 := Lib.hid ha0.len
  have OK0 := Lib.hid ok0
  have HA0 := Lib.hid ha0
  clear ok0 ha0
  have hb0 : n0 ≤ 9223372036854775807 := hm0
  have hb1 : s1.size ≤ 9223372036854775807 := w1
  by_cases hn1 : s1.size ≤ 1048576
  rotate_left
  · have hq1 : (1048576 : Int) < s1.size := by omega
    go_enter Try.func8, Try.ntmps8
    go_wp2_with fail
    go_returns
    exact ⟨rfl, Below.refl _ _⟩
  have hw0 : (0 : Int) ≤ ((n0 + sumW lessonW l0 : Nat) : Int) := by omega
  by_cases hq0 : 0 ≤ (1048576 : Int) - ((n0 + sumW lessonW l0 : Nat) : Int)
  rotate_left
  · have H0 := Lib.hid (fun W h => c_szLessonS A0 n0 c0 l0 (1048576 : Int) (-1) W h OK0.out hm0 (by omega) (by omega) (szV_neg (n := n0 + sumW lessonW l0) (left := (1048576 : Int)) (by omega)))
    go_enter Try.func8, Try.ntmps8
    go_wp2_with fail
    refine (H0.out _ HA0.out).mono ?_
    rintro r_ wz1 ⟨rfl, bz1⟩
    go_wp2_with fail
    go_returns
    exact ⟨rfl, bz1⟩
  have H0 := Lib.hid (fun W h => c_szLessonS A0 n0 c0 l0 (1048576 : Int) ((1048576 : Int) - ((n0 + sumW lessonW l0 : Nat) : Int)) W h OK0.out hm0 (by omega) (by omega) (szV_pos (n := n0 + sumW lessonW l0) (left := (1048576 : Int)) hq0))
  have hn0 : n0 ≤ 1048576 := by omega
  have LSB := Lib.hid (lsB_of OK0.out (show sumW lessonW l0 ≤ 1048576 by omega))
  have LSN : Hid (∀ x ∈ l0, x.2.2.1.length ≤ 1048576) := fun x hx => (LSB.out x hx).2.2
  have LSM : Hid (∀ x ∈ l0, x.2.2.1.length ≤ 4611686018427387904) := fun x hx => by have := LSN.out x hx; omega
  have hzlen := ftZ_len l0 s1
  have hz0 : (ftZ l0 s1).length ≤ 1048576 := hzlen
  clear hzlen
  obtain ⟨zs, hv_zs⟩ : ∃ z : List Int, ftZ l0 s1 = z := ⟨_, rfl⟩
  obtain ⟨u, hv_u⟩ : ∃ z : Int, ftC l0 s1 = z := ⟨_, rfl⟩
  rw [hv_zs] at hz0
  have C1 : Hid (∀ (B0 : Option Addr) (W : World), Ls W B0 n0 l0 → Calls Try.prog 27 #[.slice B0 n0 n0, .string s1] W (IntsPost zs u W)) := fun B0 W h0 => hv_zs ▸ hv_u ▸ c_sLessonsForText _ _ _ _ _ W h0 LSB.out hn0 hn1
  have C2 : Hid (∀ (B0 : Option Addr) (W : World), Ls W B0 n0 l0 → Calls Try.prog 28 #[.slice B0 n0 n0, .string s1] W (IntsPost zs u W)) := fun B0 W h0 => hv_zs ▸ hv_u ▸ c_iLessonsForText _ _ _ _ _ W h0 LSB.out hn0 hn1
  clear hv_zs hv_u
  have hq2 : ¬ ((1 : Int) + (zs.length : Int) < 0) := by omega
  have HSN : Hid (sumW needW l0 ≤ 1048576) := Nat.le_trans (needW_le l0) (by omega)
  go_enter Try.func8, Try.ntmps8
  go_wp2_with fail
  refine (H0.out _ HA0.out).mono ?_
  rintro r_ w0 ⟨rfl, e0⟩
  go_wp2_with fail
  refine (c_toLessonS _ _ _ l0 _ (HA0.out.later e0) hn0 LSN.out).mono ?_
  rintro r_ w1 ⟨rfl, ⟨gs1, t1⟩, b1⟩
  have e1 := e0.trans (b1.mono e0.size)
  have L1_1 := t1
  go_wp2_with fail
  refine (C1.out _ _ (L1_1.ls HL0.out)).mono ?_
  rintro r_ w2 ⟨Aw, cw, rfl, o2, b2⟩
  have e2 := e1.trans (b2.mono e1.size)
  have L1_2 := L1_1.later b2
  have W_2 := o2
  go_wp2_with fail
  refine (c_toLessonS _ _ _ l0 _ (HA0.out.later e2) hn0 LSN.out).mono ?_
  rintro r_ w3 ⟨rfl, ⟨gs3, t3⟩, b3⟩
  have e3 := e2.trans (b3.mono e2.size)
  have W_3 := own_below W_2 b3
  have L3_3 := t3
  go_wp2_with fail
  refine (C2.out _ _ (L3_3.ls HL0.out)).mono ?_
  rintro r_ w4 ⟨Ag, cg, rfl, o4, b4⟩
  have e4 := e3.trans (b4.mono e3.size)
  have W_4 := own_below W_3 b4
  have L3_4 := L3_3.later b4
  have G_4 := o4
  go_wp2_with fail
  refine (c_eqInt64S _ _ _ _ _ _ _ (zs_ownN G_4) (zs_ownN W_4) (by omega)).mono ?_
  rintro r_ w5 ⟨rfl, b5⟩
  have e5 := e4.trans (b5.mono e4.size)
  have W_5 := own_below W_4 b5
  have L3_5 := L3_4.later b5
  have G_5 := own_below G_4 b5
  go_wp2_with fail
  refine (c_toLessonS _ _ _ l0 _ (HA0.out.later e5) hn0 LSN.out).mono ?_
  rintro r_ w6 ⟨rfl, ⟨gs6, t6⟩, b6⟩
  have e6 := e5.trans (b6.mono e5.size)
  have W_6 := own_below W_5 b6
  have L3_6 := L3_5.later b6
  have G_6 := own_below G_5 b6
  have L6_6 := t6
  go_wp2_with fail
  refine (c_eqLessonS _ _ _ _ _ _ _ (L3_6.ls HL0.out) (L6_6.ls HL0.out) LSM.out (by omega)).mono ?_
  rintro r_ w7 ⟨rfl, b7⟩
  have e7 := e6.trans (b7.mono e6.size)
  have W_7 := own_below W_6 b7
  have L3_7 := L3_6.later b7
  have G_7 := own_below G_6 b7
  have L6_7 := L6_6.later b7
  have hgs := L3_3.gs_lt
  go_wp2_with fail
  refine (c_markLessonS _ _ l0 gs3 1 _ (MkL.of L3_7 HL0.out) HL0.out (L3_3.len.trans HL0.out) hn0 HSN.out (by omega) (by omega)).mono ?_
  rintro r_ w8 ⟨kv, rfl, hkv0, hkv1, T8⟩
  have e8 := e7.trans (T8.below (B := w.heap.size) e2.size (fun g hg => by have h1 := (hgs g hg).1; have h2 := e2.size; omega) e7.size)
  have sW : w2.heap.size ≤ w2.heap.size := by exact Nat.le_refl _
  have W_8 := T8.own W_7 (fun g hg => ⟨by have h1 := (o2.lt g hg).2; omega, fun hm => by have h1 := (o2.lt g hg).2; have h2 := (hgs g hm).1; omega⟩)
  have sG : w3.heap.size ≤ w3.heap.size := by exact Nat.le_refl _
  have G_8 := T8.own G_7 (fun g hg => ⟨by have h1 := (o4.lt g hg).1; have h2 := L3_3.lt; omega, fun hm => by have h1 := (o4.lt g hg).1; have h2 := (hgs g hm).2; omega⟩)
  have hq1 : ¬ ((kv : Int) < 0) := by omega
  go_wp2_with fail
  refine (c_eqInt64S _ _ _ _ _ _ _ (zs_ownN G_8) (zs_ownN W_8) (by omega)).mono ?_
  rintro r_ w9 ⟨rfl, b9⟩
  have e9 := e8.trans (b9.mono e8.size)
  have W_9 := own_below W_8 b9
  have G_9 := own_below G_8 b9
  go_wp2_with fail
  refine (c_markInt64S _ _ _ _ _ _ _ rfl G_9 (by omega) (by omega) (by omega)).mono ?_
  rintro r_ w10 ⟨rfl, y10, m10⟩
  have e10 := below_mark e9 m10 G_9 (e3.size) e9.size
  have W_10 := World.ownsRow.kept W_9 m10 (own_sep o2 o4 (by have h3 := b3.size ; omega))
  have G_10 := y10
  go_wp2_with fail
  refine (c_heldInt64S _ _ _ _ _ (z_held G_10) (by omega) (by omega) (by omega)).mono ?_
  rintro r_ w11 ⟨rfl, b11⟩
  have e11 := e10.trans (b11.mono e10.size)
  have W_11 := own_below W_10 b11
  have G_11 := own_below G_10 b11
  go_wp2_with fail
  refine (c_toLessonS _ _ _ l0 _ (HA0.out.later e11) hn0 LSN.out).mono ?_
  rintro r_ w12 ⟨rfl, ⟨gs12, t12⟩, b12⟩
  have e12 := e11.trans (b12.mono e11.size)
  have W_12 := own_below W_11 b12
  have G_12 := own_below G_11 b12
  have L12_12 := t12
  go_wp2_with fail
  refine (C2.out _ _ (L12_12.ls HL0.out)).mono ?_
  rintro r_ w13 ⟨Ah, ch, rfl, o13, b13⟩
  have e13 := e12.trans (b13.mono e12.size)
  have W_13 := own_below W_12 b13
  have G_13 := own_below G_12 b13
  have L12_13 := L12_12.later b13
  have H_13 := o13
  go_wp2_with fail
  refine (c_eqInt64S _ _ _ _ _ _ _ (zs_ownN H_13) (zs_ownN W_13) (by omega)).mono ?_
  rintro r_ w14 ⟨rfl, b14⟩
  have e14 := e13.trans (b14.mono e13.size)
  have W_14 := own_below W_13 b14
  have G_14 := own_below G_13 b14
  have H_14 := own_below H_13 b14
  go_wp2_with fail
  refine (c_heldInt64S _ _ _ _ _ (z_held G_14) (by omega) (by omega) (by omega)).mono ?_
  rintro r_ w15 ⟨rfl, b15⟩
  have e15 := e14.trans (b15.mono e14.size)
  have G_15 := own_below G_14 b15
  go_wp2_with fail
  go_returns
  exact ⟨rfl, e15⟩
end Go.Proofs.Ytajcdaclbammaaa.fnExactLessonsForText
