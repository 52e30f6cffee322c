/- The walk of the law FnExactBestOfRounds: it returns true, and what was there stays as it was. -/
import Derived.Test.YtkpnkilpaokkcaaBr3
namespace Go.Proofs.Ytkpnkilpaokkcaa.fnExactBestOfRounds
open Go.RowKit Go.BigFrame
attribute [local go_sem] sub_cell sub_frozen drewN_setCell

theorem rs_len {l0 : List (List TResult)} (h : sumW rsW l0 ≤ 1048576) : ∀ x ∈ l0, x.length ≤ 1048576 := fun x hx => by
  have h1 := sumW_mem (f := rsW) hx
  have h2 : x.length ≤ rsW x := Nat.le_add_right _ _
  omega
set_option maxRecDepth 20000 in
set_option maxHeartbeats 8000000 in
theorem walk (A0 : Option Addr) (n0 c0 : Nat) (l0 : List (List TResult)) (w : World) (w0 : InRss w A0 n0 l0) :
    Calls Try.prog 3 #[.slice A0 n0 c0] w fun e w' => e = .returned (.bool true) ∧ Below w.heap.size w w' := by
  obtain ⟨ha0, ok0, hm0⟩ := w0
  have HL0 := Lib.hid ha0.len
  have OK0 := Lib.hid ok0
  have HA0 := Lib.hid ha0
  clear ok0 ha0
  have hb0 : n0 ≤ 9223372036854775807 := hm0
  have hw0 : (0 : Int) ≤ ((n0 + sumW rsW l0 : Nat) : Int) := by omega
  by_cases hq0 : 0 ≤ (1048576 : Int) - ((n0 + sumW rsW l0 : Nat) : Int)
  rotate_left
  · have H0 := Lib.hid (fun W h => c_szResultSS A0 n0 c0 l0 (1048576 : Int) (-1) W h OK0.out hm0 (by omega) (by omega) (szV_neg (n := n0 + sumW rsW l0) (left := (1048576 : Int)) (by omega)))
    go_enter Try.func3, Try.ntmps3
    go_wp2_with fail
    refine (H0.out _ HA0.out).mono ?_
    rintro r_ wz1 ⟨rfl, bz1⟩
    go_wp2_with fail
    go_returns
    exact ⟨rfl, bz1⟩
  have H0 := Lib.hid (fun W h => c_szResultSS A0 n0 c0 l0 (1048576 : Int) ((1048576 : Int) - ((n0 + sumW rsW l0 : Nat) : Int)) W h OK0.out hm0 (by omega) (by omega) (szV_pos (n := n0 + sumW rsW l0) (left := (1048576 : Int)) hq0))
  have hn0 : n0 ≤ 1048576 := by omega
  have LSN := Lib.hid (rs_len (show sumW rsW l0 ≤ 1048576 by omega))
  have LSM : Hid (∀ x ∈ l0, x.length ≤ 4611686018427387904) := fun x hx => by have := LSN.out x hx; omega
  have HSN : Hid (sumW lenW l0 ≤ 1048576) := Nat.le_trans (lenW_le l0) (by omega)
  have hzlen := brL_len l0
  obtain ⟨zs, hv_zs⟩ : ∃ z : List TResult, brL l0 = z := ⟨_, rfl⟩
  obtain ⟨u, hv_u⟩ : ∃ z : Int, brC l0 = z := ⟨_, rfl⟩
  rw [hv_zs] at hzlen
  have hz0 : zs.length ≤ 400 := hzlen
  clear hzlen
  have C1 : Hid (∀ (B0 : Option Addr) (W : World), Rss W B0 n0 l0 → Calls Try.prog 5 #[.slice B0 n0 n0] W (ResPost zs u W)) := fun B0 W h0 => hv_zs ▸ hv_u ▸ c_sBestOfRounds _ _ _ _ W h0 OK0.out LSN.out hn0
  have C2 : Hid (∀ (B0 : Option Addr) (W : World), Rss W B0 n0 l0 → Calls Try.prog 7 #[.slice B0 n0 n0] W (ResPost zs u W)) := fun B0 W h0 => hv_zs ▸ hv_u ▸ c_iBestOfRounds _ _ _ _ W h0 OK0.out LSN.out hn0
  clear hv_zs hv_u
  have hq2 : ¬ ((1 : Int) + (zs.length : Int) * 3 < 0) := by omega
  go_enter Try.func3, Try.ntmps3
  go_wp2_with fail
  refine (H0.out _ HA0.out).mono ?_
  rintro r_ w0 ⟨rfl, e0⟩
  go_wp2_with fail
  refine (c_toResultSS _ _ _ l0 _ (HA0.out.later e0) hn0 LSN.out).mono ?_
  rintro r_ w1 ⟨rfl, ⟨gs1, t1, s1⟩, b1⟩
  have e1 := e0.trans (b1.mono e0.size)
  go_wp2_with fail
  refine (C1.out _ _ (t1.rss s1 HL0.out)).mono ?_
  rintro r_ w2 ⟨Aw, cw, rfl, o2, b2⟩
  have e2 := e1.trans (b2.mono e1.size)
  have W_2 := o2
  go_wp2_with fail
  refine (c_toResultSS _ _ _ l0 _ (HA0.out.later e2) hn0 LSN.out).mono ?_
  rintro r_ w3 ⟨rfl, ⟨gs3, t3, s3⟩, b3⟩
  have e3 := e2.trans (b3.mono e2.size)
  have W_3 := own_below W_2 b3
  go_wp2_with fail
  refine (C2.out _ _ (t3.rss s3 HL0.out)).mono ?_
  rintro r_ w4 ⟨Ag, cg, rfl, o4, b4⟩
  have e4 := e3.trans (b4.mono e3.size)
  have W_4 := own_below W_3 b4
  have T_4 := t3.later b4
  have S_4 := s3.later b4
  have G_4 := o4
  go_wp2_with fail
  refine (c_eqResultS _ _ _ _ _ _ _ (result_own rfl G_4) (result_own rfl W_4) (by omega)).mono ?_
  rintro r_ w5 ⟨rfl, b5⟩
  have e5 := e4.trans (b5.mono e4.size)
  have W_5 := own_below W_4 b5
  have T_5 := T_4.later b5
  have S_5 := S_4.later b5
  have G_5 := own_below G_4 b5
  go_wp2_with fail
  refine (c_toResultSS _ _ _ l0 _ (HA0.out.later e5) hn0 LSN.out).mono ?_
  rintro r_ w6 ⟨rfl, ⟨gs6, t6, s6⟩, b6⟩
  have e6 := e5.trans (b6.mono e5.size)
  have W_6 := own_below W_5 b6
  have T_6 := T_5.later b6
  have S_6 := S_5.later b6
  have G_6 := own_below G_5 b6
  go_wp2_with fail
  refine (c_eqResultSS _ _ _ _ _ _ _ (T_6.rss S_6 HL0.out) (t6.rss s6 HL0.out) LSM.out (by omega)).mono ?_
  rintro r_ w7 ⟨rfl, b7⟩
  have e7 := e6.trans (b7.mono e6.size)
  have W_7 := own_below W_6 b7
  have T_7 := T_6.later b7
  have G_7 := own_below G_6 b7
  have hgs := t3.gs_lt
  go_wp2_with fail
  refine (c_markResultSS _ _ l0 gs3 _ T_7 HL0.out hn0 HSN.out).mono ?_
  rintro r_ w8 ⟨kv, rfl, hkv0, hkv1, T8⟩
  have e8 := e7.trans (T8.below (B := w.heap.size) (fun g hg => by have h1 := (hgs g hg).1; have h2 := e2.size; omega) e7.size)
  have W_8 := T8.own W_7 (fun g hg hm => by have h1 := (o2.lt g hg).2; have h2 := (hgs g hm).1; omega)
  have G_8 := T8.own G_7 (fun g hg hm => by have h1 := (o4.lt g hg).1; have h2 := (hgs g hm).2; omega)
  have hq1 : ¬ ((kv : Int) < 0) := by omega
  go_wp2_with fail
  refine (c_eqResultS _ _ _ _ _ _ _ (result_own rfl G_8) (result_own rfl W_8) (by omega)).mono ?_
  rintro r_ w9 ⟨rfl, b9⟩
  have e9 := e8.trans (b9.mono e8.size)
  have W_9 := own_below W_8 b9
  have G_9 := own_below G_8 b9
  go_wp2_with fail
  refine (c_markResultS _ _ _ _ _ 1 _ rfl G_9 (by omega) (by omega) (by omega)).mono ?_
  rintro r_ w10 ⟨rfl, y10, m10⟩
  have e10 := below_mark e9 m10 G_9 (e3.size) e9.size
  have W_10 := World.ownsRow.kept W_9 m10 (own_sep o2 o4 (by have h3 := b3.size ; omega))
  have G_10 := y10
  go_wp2_with fail
  refine (c_heldResultS _ _ _ 1 _ (result_own (resultMs_len 1 _) G_10) (by omega) (by omega) (by omega)).mono ?_
  rintro r_ w11 ⟨rfl, b11⟩
  have e11 := e10.trans (b11.mono e10.size)
  have W_11 := own_below W_10 b11
  have G_11 := own_below G_10 b11
  go_wp2_with fail
  refine (c_toResultSS _ _ _ l0 _ (HA0.out.later e11) hn0 LSN.out).mono ?_
  rintro r_ w12 ⟨rfl, ⟨gs12, t12, s12⟩, b12⟩
  have e12 := e11.trans (b12.mono e11.size)
  have W_12 := own_below W_11 b12
  have G_12 := own_below G_11 b12
  go_wp2_with fail
  refine (C2.out _ _ (t12.rss s12 HL0.out)).mono ?_
  rintro r_ w13 ⟨Ah, ch, rfl, o13, b13⟩
  have e13 := e12.trans (b13.mono e12.size)
  have W_13 := own_below W_12 b13
  have G_13 := own_below G_12 b13
  have H_13 := o13
  go_wp2_with fail
  refine (c_eqResultS _ _ _ _ _ _ _ (result_own rfl H_13) (result_own rfl W_13) (by omega)).mono ?_
  rintro r_ w14 ⟨rfl, b14⟩
  have e14 := e13.trans (b14.mono e13.size)
  have G_14 := own_below G_13 b14
  go_wp2_with fail
  refine (c_heldResultS _ _ _ 1 _ (result_own (resultMs_len 1 _) G_14) (by omega) (by omega) (by omega)).mono ?_
  rintro r_ w15 ⟨rfl, b15⟩
  have e15 := e14.trans (b15.mono e14.size)
  go_wp2_with fail
  go_returns
  exact ⟨rfl, e15⟩
end Go.Proofs.Ytkpnkilpaokkcaa.fnExactBestOfRounds
