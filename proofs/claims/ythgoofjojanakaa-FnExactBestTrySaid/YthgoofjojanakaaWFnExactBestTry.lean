/- The walk of the law FnExactBestTry: it returns true, and what was there stays as it was. -/
import Derived.Test.YthgoofjojanakaaEr22
namespace Go.Proofs.Ythgoofjojanakaa.fnExactBestTry
open Go.RowKit Go.BigFrame
attribute [local go_sem] sub_cell sub_frozen drewN_setCell

set_option maxHeartbeats 4000000 in
theorem walk (s0 : ByteArray) (A1 : Option Addr) (n1 c1 : Nat) (l1 : List (ByteArray)) (w : World) (w0 : s0.size ≤ maxLen) (w1 : InTx w A1 n1 l1) :
    Calls Try.prog 8 #[.string s0, .slice A1 n1 c1] w fun e w' => e = .returned (.bool true) ∧ Below w.heap.size w w' := by
  obtain ⟨ha1, ok1, hm1⟩ := w1
  have HL1 := Lib.hid ha1.1
  have OK1 := Lib.hid ok1
  have HA1 := Lib.hid ha1
  clear ok1 ha1
  have hb0 : s0.size ≤ 9223372036854775807 := w0
  have hb1 : n1 ≤ 9223372036854775807 := hm1
  by_cases hq0 : s0.size ≤ 1048576
  rotate_left
  · have hq0' : (1048576 : Int) < s0.size := by omega
    go_enter Try.func8, Try.ntmps8
    go_wp2_with fail
    go_returns
    exact ⟨rfl, Below.refl _ _⟩
  have hw1 : (0 : Int) ≤ ((n1 + sumW ByteArray.size l1 : Nat) : Int) := by omega
  by_cases hq1 : 0 ≤ (1048576 : Int) - ((n1 + sumW ByteArray.size l1 : Nat) : Int)
  rotate_left
  · have H1 := Lib.hid (fun W h => c_szStringS A1 n1 c1 l1 ((1048576 : Int)) (-1) W h OK1.out hm1 (by omega) (by omega) (szV_neg (n := n1 + sumW ByteArray.size l1) (left := (1048576 : Int)) (by omega)))
    go_enter Try.func8, Try.ntmps8
    go_wp2_with fail
    refine (H1.out _ HA1.out).mono ?_
    rintro r_ wz1 ⟨rfl, bz1⟩
    have z1 := bz1
    go_wp2_with fail
    go_returns
    exact ⟨rfl, z1⟩
  have H1 := Lib.hid (fun W h => c_szStringS A1 n1 c1 l1 ((1048576 : Int)) ((1048576 : Int) - ((n1 + sumW ByteArray.size l1 : Nat) : Int)) W h OK1.out hm1 (by omega) (by omega) (szV_pos (n := n1 + sumW ByteArray.size l1) (left := (1048576 : Int)) hq1))
  have hn1 : n1 ≤ 1048576 := by omega
  obtain ⟨v, hv_v⟩ : ∃ z : Int, btA (bl s0) l1 = z := ⟨_, rfl⟩
  obtain ⟨c, hv_c⟩ : ∃ z : Int, btC (bl s0) l1 = z := ⟨_, rfl⟩
  have C1 : Hid (∀ (B1 : Option Addr) (W : World), Sl txC W W.heap.size 1 B1 n1 l1 → Calls Try.prog 26 #[.string s0, .slice B1 n1 n1] W (fun e w' => e = .returned (.tuple #[.int .i64 v, .int .i64 c]) ∧ Below W.heap.size W w')) := fun B1 W h1 => hv_v ▸ hv_c ▸ c_sBestTry s0 _ _ _ _ W h1 w0 OK1.out hn1
  have C2 : Hid (∀ (B1 : Option Addr) (W : World), Sl txC W W.heap.size 1 B1 n1 l1 → Calls Try.prog 28 #[.string s0, .slice B1 n1 n1] W (fun e w' => e = .returned (.tuple #[.int .i64 v, .int .i64 c]) ∧ Below W.heap.size W w')) := fun B1 W h1 => hv_v ▸ hv_c ▸ c_iBestTry s0 _ _ _ _ W h1 w0 OK1.out hn1
  clear hv_v hv_c
  go_enter Try.func8, Try.ntmps8
  go_wp2_with fail
  refine (H1.out _ HA1.out).mono ?_
  rintro r_ wz1 ⟨rfl, bz1⟩
  have z1 := bz1
  go_wp2_with fail
  refine (c_toStringS _ _ _ _ _ (HA1.out.later z1) hn1).mono ?_
  rintro r_ w1 ⟨rfl, t1, b1⟩
  have e1 := z1.trans (b1.mono z1.size)
  go_wp2_with fail
  refine (C1.out _ _ (HL1.out ▸ t1.sl)).mono ?_
  rintro r_ w2 ⟨rfl, b2⟩
  have e2 := e1.trans (b2.mono e1.size)
  have t1_2 := t1.later b2
  go_wp2_with fail
  refine (c_toStringS _ _ _ _ _ (HA1.out.later e2) hn1).mono ?_
  rintro r_ w3 ⟨rfl, t3, b3⟩
  have e3 := e2.trans (b3.mono e2.size)
  go_wp2_with fail
  refine (C2.out _ _ (HL1.out ▸ t3.sl)).mono ?_
  rintro r_ w4 ⟨rfl, b4⟩
  have e4 := e3.trans (b4.mono e3.size)
  have t3_4 := t3.later b4
  go_wp2_with fail
  refine (c_toStringS _ _ _ _ _ (HA1.out.later e4) hn1).mono ?_
  rintro r_ w5 ⟨rfl, t5, b5⟩
  have e5 := e4.trans (b5.mono e4.size)
  have t3_5 := t3_4.later b5
  go_wp2_with fail
  refine (c_eqStringS _ _ _ _ _ _ _ (HL1.out ▸ t3_5.sl) (HL1.out ▸ t5.sl) (by omega)).mono ?_
  rintro r_ w6 ⟨rfl, b6⟩
  have e6 := e5.trans (b6.mono e5.size)
  have t3_6 := t3_5.later b6
  have t5_6 := t5.later b6
  go_wp2_with fail
  go_returns
  exact ⟨rfl, e6⟩
end Go.Proofs.Ythgoofjojanakaa.fnExactBestTry
