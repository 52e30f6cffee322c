/- The walk of the law FnExactRankText: it returns true, and what was there stays as it was. -/
import Derived.Test.YtbaomhneboojpaaDoorRtx3
import Derived.Test.YtbaomhneboojpaaDoorRowResult
namespace Go.Proofs.YtbaomhneboojpaaDoor.fnExactRankText
open Go.RowKit Go.BigFrame
attribute [local go_sem] sub_cell sub_frozen drewN_setCell

set_option maxHeartbeats 4000000 in
theorem walk (A0 : Option Addr) (n0 c0 : Nat) (l0 : List (TResult)) (w : World) (w0 : InResult w A0 n0 l0) (ht : Tab w) :
    Calls Tryd.prog 3 #[.slice A0 n0 c0] w fun e w' => e = .returned (.bool true) ∧ Below w.heap.size w w' := by
  obtain ⟨ha0, ok0, hm0⟩ := w0
  have HL0 := Lib.hid ha0.1
  have OK0 := Lib.hid ok0
  have HA0 := Lib.hid ha0
  have HT := Lib.hid ht
  clear ok0 ha0 ht
  have hb0 : n0 ≤ 9223372036854775807 := hm0
  have hw0 : (0 : Int) ≤ ((n0 + sumW resultW l0 : Nat) : Int) := by omega
  by_cases hq0 : 0 ≤ (1048576 : Int) - ((n0 + sumW resultW l0 : Nat) : Int)
  rotate_left
  · have H0 := Lib.hid (fun W h => c_szResultS A0 n0 c0 l0 ((1048576 : Int)) (-1) W h (fun x hx => by obtain ⟨h0, h1, h2⟩ := OK0.out x hx; exact h0) hm0 (by omega) (by omega) (szV_neg (n := n0 + sumW resultW l0) (left := (1048576 : Int)) (by omega)))
    go_enter Tryd.func3, Tryd.ntmps3
    go_wp2_with fail
    refine (H0.out _ HA0.out).mono ?_
    rintro r_ wz1 ⟨rfl, bz1⟩
    have z1 := bz1
    go_wp2_with fail
    go_returns
    exact ⟨rfl, z1⟩
  have H0 := Lib.hid (fun W h => c_szResultS A0 n0 c0 l0 ((1048576 : Int)) ((1048576 : Int) - ((n0 + sumW resultW l0 : Nat) : Int)) W h (fun x hx => by obtain ⟨h0, h1, h2⟩ := OK0.out x hx; exact h0) hm0 (by omega) (by omega) (szV_pos (n := n0 + sumW resultW l0) (left := (1048576 : Int)) hq0))
  have hn0 : n0 ≤ 1048576 := by omega
  obtain ⟨v, hv_v⟩ : ∃ z : ByteArray, rxV l0 = z := ⟨_, rfl⟩
  have hts := txt_eq (show v = v from rfl)
  have C1 : Hid (∀ (B0 : Option Addr) (W : World), Sl resultC W W.heap.size 3 B0 n0 l0 → Calls Tryd.prog 5 #[.slice B0 n0 n0] W (fun e w' => e = .returned (.string v) ∧ Below W.heap.size W w')) := fun B0 W h0 => hv_v ▸ c_sRankText _ _ _ _ W h0 (fun x hx => (OK0.out x hx).1) hn0
  have C2 : Hid (∀ (B0 : Option Addr) (W : World), Sl resultC W W.heap.size 3 B0 n0 l0 → Tab W → Calls Tryd.prog 7 #[.slice B0 n0 n0] W (fun e w' => e = .returned (.string v) ∧ Below W.heap.size W w')) := fun B0 W h0 h1 => hv_v ▸ c_iRankText _ _ _ _ W h0 (fun x hx => (OK0.out x hx).1) hn0 h1
  clear hv_v
  go_enter Tryd.func3, Tryd.ntmps3
  go_wp2_with fail
  refine (H0.out _ HA0.out).mono ?_
  rintro r_ wz1 ⟨rfl, bz1⟩
  have z1 := bz1
  go_wp2_with fail
  refine (c_toResultS _ _ _ _ _ (HA0.out.later z1) hn0).mono ?_
  rintro r_ w1 ⟨rfl, t1, b1⟩
  have e1 := z1.trans (b1.mono z1.size)
  have x1 := result_slOwn t1 HL0.out (Nat.le_refl _) hm0
  go_wp2_with fail
  refine (C1.out _ _ (result_own HL0.out x1)).mono ?_
  rintro r_ w2 ⟨rfl, b2⟩
  have e2 := e1.trans (b2.mono e1.size)
  go_wp2_with fail
  refine (c_toResultS _ _ _ _ _ (HA0.out.later e2) hn0).mono ?_
  rintro r_ w3 ⟨rfl, t3, b3⟩
  have e3 := e2.trans (b3.mono e2.size)
  have x3 := result_slOwn t3 HL0.out (Nat.le_refl _) hm0
  go_wp2_with fail
  refine (C2.out _ _ (result_own HL0.out x3) (HT.out.later e3)).mono ?_
  rintro r_ w4 ⟨rfl, b4⟩
  have e4 := e3.trans (b4.mono e3.size)
  have x3_4 := own_below x3 b4
  go_wp2_with fail
  refine (c_toResultS _ _ _ _ _ (HA0.out.later e4) hn0).mono ?_
  rintro r_ w6 ⟨rfl, t6, b6⟩
  have e6 := e4.trans (b6.mono e4.size)
  have x3_6 := own_below x3_4 b6
  have x6 := result_slOwn t6 HL0.out (Nat.le_refl _) hm0
  go_wp2_with fail
  refine (c_eqResultS _ _ _ _ _ _ _ (result_own HL0.out x3_6) (result_own HL0.out x6) (by omega)).mono ?_
  rintro r_ w7 ⟨rfl, b7⟩
  have e7 := e6.trans (b7.mono e6.size)
  go_wp2_with fail
  go_returns
  exact ⟨rfl, e7⟩
end Go.Proofs.YtbaomhneboojpaaDoor.fnExactRankText
