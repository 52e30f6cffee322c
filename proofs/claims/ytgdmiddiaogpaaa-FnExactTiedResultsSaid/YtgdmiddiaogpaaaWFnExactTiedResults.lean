/- The walk of the law FnExactTiedResults: it returns true, and what was there stays as it was. -/
import Derived.Test.YtgdmiddiaogpaaaTd
import Derived.Test.YtgdmiddiaogpaaaMkResult
import Derived.Test.YtgdmiddiaogpaaaTi
namespace Go.Proofs.Ytgdmiddiaogpaaa.fnExactTiedResults
open Go.RowKit Go.BigFrame
attribute [local go_sem] sub_cell sub_frozen drewN_setCell

set_option maxHeartbeats 4000000 in
theorem walk (A0 : Option Addr) (n0 c0 : Nat) (l0 : List (TResult)) (w : World) (w0 : InResult w A0 n0 l0) :
    Calls Try.prog 9 #[.slice A0 n0 c0] w fun e w' => e = .returned (.bool true) ∧ Below w.heap.size w w' := by
  obtain ⟨ha0, ok0, hm0⟩ := w0
  have HL0 := Lib.hid ha0.1
  have OK0 := Lib.hid ok0
  have HA0 := Lib.hid ha0
  clear ok0 ha0
  have hb0 : n0 ≤ 9223372036854775807 := hm0
  have hw0 : (0 : Int) ≤ ((n0 + sumW resultW l0 : Nat) : Int) := by omega
  by_cases hq0 : 0 ≤ (1048576 : Int) - ((n0 + sumW resultW l0 : Nat) : Int)
  rotate_left
  · have H0 := Lib.hid (fun W h => c_szResultS A0 n0 c0 l0 ((1048576 : Int)) (-1) W h (fun x hx => by obtain ⟨h0, h1, h2⟩ := OK0.out x hx; exact h0) hm0 (by omega) (by omega) (szV_neg (n := n0 + sumW resultW l0) (left := (1048576 : Int)) (by omega)))
    go_enter Try.func9, Try.ntmps9
    go_wp2_with fail
    refine (H0.out _ HA0.out).mono ?_
    rintro r_ wz1 ⟨rfl, bz1⟩
    have z1 := bz1
    go_wp2_with fail
    go_returns
    exact ⟨rfl, z1⟩
  have H0 := Lib.hid (fun W h => c_szResultS A0 n0 c0 l0 ((1048576 : Int)) ((1048576 : Int) - ((n0 + sumW resultW l0 : Nat) : Int)) W h (fun x hx => by obtain ⟨h0, h1, h2⟩ := OK0.out x hx; exact h0) hm0 (by omega) (by omega) (szV_pos (n := n0 + sumW resultW l0) (left := (1048576 : Int)) hq0))
  have hn0 : n0 ≤ 1048576 := by omega
  obtain ⟨zs, hv_zs⟩ : ∃ z : List (List Int), tiedZ l0 = z := ⟨_, rfl⟩
  obtain ⟨v, hv_v⟩ : ∃ z : Int, rankC l0 = z := ⟨_, rfl⟩
  have hzb := hv_zs ▸ tiedZ_bd l0
  have hz0 := hzb.1
  have hz1 := hzb.2.1
  have HZ2 := Lib.hid (fun x hx => Nat.le_trans (hzb.2.2 x hx) (show 40 ≤ 1048576 by omega))
  clear hzb
  have C1 : Hid (∀ (B0 : Option Addr) (W : World), Sl resultC W W.heap.size 3 B0 n0 l0 → Calls Try.prog 38 #[.slice B0 n0 n0] W (NestPost zs v W)) := fun B0 W h0 => hv_zs ▸ hv_v ▸ c_sTiedResults _ _ _ _ W h0 (fun x hx => (OK0.out x hx).1) hn0
  have C2 : Hid (∀ (B0 : Option Addr) (W : World), Sl resultC W W.heap.size 3 B0 n0 l0 → Calls Try.prog 39 #[.slice B0 n0 n0] W (NestPost zs v W)) := fun B0 W h0 => hv_zs ▸ hv_v ▸ c_iTiedResults _ _ _ _ W h0 (fun x hx => (OK0.out x hx).1) hn0
  clear hv_zs hv_v
  have hq1 : ¬ ((1 : Int) + (n0 : Int) * 3 < 0) := by omega
  have hq2 : ¬ ((1 : Int) + (psum zs zs.length : Int) < 0) := by omega
  go_enter Try.func9, Try.ntmps9
  go_wp2_with fail
  refine (H0.out _ HA0.out).mono ?_
  rintro r_ wz1 ⟨rfl, bz1⟩
  have z1 := bz1
  go_wp2_with fail
  refine (c_toResultS _ _ _ _ _ (HA0.out.later z1) hn0).mono ?_
  rintro r_ w1 ⟨rfl, t1, b1⟩
  have e1 := z1.trans (b1.mono z1.size)
  have x1 := result_slOwn t1 HL0.out (Nat.le_refl _) hm0
  go_wp2_with fail
  refine (C1.out _ _ (result_own HL0.out x1)).mono ?_
  rintro r_ w2 ⟨Aw, cw, vw, rfl, o2, b2⟩
  have e2 := e1.trans (b2.mono e1.size)
  go_wp2_with fail
  refine (c_toResultS _ _ _ _ _ (HA0.out.later e2) hn0).mono ?_
  rintro r_ w3 ⟨rfl, t3, b3⟩
  have e3 := e2.trans (b3.mono e2.size)
  have x3 := result_slOwn t3 HL0.out (Nat.le_refl _) hm0
  have o2_3 := o2.below b3
  go_wp2_with fail
  refine (C2.out _ _ (result_own HL0.out x3)).mono ?_
  rintro r_ w4 ⟨Ag, cg, vg, rfl, o4, b4⟩
  have e4 := e3.trans (b4.mono e3.size)
  have o2_4 := o2_3.below b4
  have x3_4 := own_below x3 b4
  go_wp2_with fail
  refine (c_eqInt64SS _ _ _ _ _ _ _ _ _ _ _ o4 o2_4 (by omega) HZ2.out).mono ?_
  rintro r_ w5 ⟨rfl, b5⟩
  have e5 := e4.trans (b5.mono e4.size)
  have o2_5 := o2_4.below b5
  have o4_5 := o4.below b5
  have x3_5 := own_below x3_4 b5
  go_wp2_with fail
  refine (c_toResultS _ _ _ _ _ (HA0.out.later e5) hn0).mono ?_
  rintro r_ w6 ⟨rfl, t6, b6⟩
  have e6 := e5.trans (b6.mono e5.size)
  have x6 := result_slOwn t6 HL0.out (Nat.le_refl _) hm0
  have o2_6 := o2_5.below b6
  have o4_6 := o4_5.below b6
  have x3_6 := own_below x3_5 b6
  go_wp2_with fail
  refine (c_eqResultS _ _ _ _ _ _ _ (result_own HL0.out x3_6) (result_own HL0.out x6) (by omega)).mono ?_
  rintro r_ w7 ⟨rfl, b7⟩
  have e7 := e6.trans (b7.mono e6.size)
  have o2_7 := o2_6.below b7
  have o4_7 := o4_6.below b7
  have x3_7 := own_below x3_6 b7
  go_wp2_with fail
  refine (c_markResultS _ _ _ _ _ (1) _ HL0.out x3_7 (by omega) (by omega) (by omega)).mono ?_
  rintro r_ w8 ⟨rfl, y8, m8⟩
  have e8 := below_mark e7 m8 x3_7 (e2.size) e7.size
  have hxg : ∀ g, Value.ownBlock (.slice (some ⟨w2.heap.size, 0, none⟩) n0 n0) = some g → w2.heap.size ≤ g ∧ g < w3.heap.size := fun g hg => x3.lt g hg
  have f7 : Below w2.heap.size w2 w7 := b3.trans ((b4.mono b3.size).trans ((b5.mono (Nat.le_trans b3.size b4.size)).trans ((b6.mono (Nat.le_trans b3.size (Nat.le_trans b4.size b5.size))).trans (b7.mono (Nat.le_trans b3.size (Nat.le_trans b4.size (Nat.le_trans b5.size b6.size)))))))
  have f8 : Below w2.heap.size w2 w8 := below_mark f7 m8 x3_7 (Nat.le_refl _) f7.size
  have o2_8 := o2.below f8
  have o4_8 := o4_7.kept m8 fun g hg => (hxg g hg).2
  go_wp2_with fail
  refine (c_eqInt64SS _ _ _ _ _ _ _ _ _ _ _ o4_8 o2_8 (by omega) HZ2.out).mono ?_
  rintro r_ w9 ⟨rfl, b9⟩
  have e9 := e8.trans (b9.mono e8.size)
  have o4_9 := o4_8.below b9
  have f9 := f8.trans (b9.mono f8.size)
  have hsz9 : w3.heap.size ≤ w9.heap.size := Nat.le_trans b4.size (Nat.le_trans b5.size (Nat.le_trans b6.size (Nat.le_trans b7.size (Nat.le_trans m8.size b9.size))))
  go_wp2_with fail
  refine (c_markInt64SS _ _ _ _ _ _ _ o4_9 (by omega) (by omega) hsz9).mono ?_
  rintro r_ w10 ⟨rfl, y10, m10⟩
  have e10 := e9.trans (m10.mono e3.size)
  have f10 := f9.trans (m10.mono b3.size)
  go_wp2_with fail
  refine (c_heldInt64SS _ _ _ _ _ _ _ rfl y10 (by omega) (by omega)).mono ?_
  rintro r_ w11 ⟨rfl, b11⟩
  have e11 := e10.trans (b11.mono e10.size)
  have y11 := y10.below b11
  have f11 := f10.trans (b11.mono f10.size)
  go_wp2_with fail
  refine (c_toResultS _ _ _ _ _ (HA0.out.later e11) hn0).mono ?_
  rintro r_ w12 ⟨rfl, t12, b12⟩
  have e12 := e11.trans (b12.mono e11.size)
  have x12 := result_slOwn t12 HL0.out (Nat.le_refl _) hm0
  have y12 := y11.below b12
  have f12 := f11.trans (b12.mono f11.size)
  go_wp2_with fail
  refine (C2.out _ _ (result_own HL0.out x12)).mono ?_
  rintro r_ w13 ⟨Ah, ch, vh, rfl, o13, b13⟩
  have e13 := e12.trans (b13.mono e12.size)
  have y13 := y12.below b13
  have f13 := f12.trans (b13.mono f12.size)
  go_wp2_with fail
  refine (c_eqInt64SS _ _ _ _ _ _ _ _ _ _ _ o13 (o2.below f13) (by omega) HZ2.out).mono ?_
  rintro r_ w14 ⟨rfl, b14⟩
  have e14 := e13.trans (b14.mono e13.size)
  have y14 := y13.below b14
  go_wp2_with fail
  refine (c_heldInt64SS _ _ _ _ _ _ _ rfl y14 (by omega) (by omega)).mono ?_
  rintro r_ w15 ⟨rfl, b15⟩
  have e15 := e14.trans (b15.mono e14.size)
  go_wp2_with fail
  go_returns
  exact ⟨rfl, e15⟩
end Go.Proofs.Ytgdmiddiaogpaaa.fnExactTiedResults
