/- The walk of the law FnExactMissedLetters: it returns true, and what was there stays as it was. -/
import Derived.Test.YthgoofjojanakaaMs3
import Derived.Test.YthgoofjojanakaaAp
import Derived.Test.YthgoofjojanakaaMk
namespace Go.Proofs.Ythgoofjojanakaa.fnExactMissedLetters
open Go.RowKit Go.BigFrame
attribute [local go_sem] sub_cell sub_frozen drewN_setCell

set_option maxHeartbeats 4000000 in
theorem walk (s0 : ByteArray) (s1 : ByteArray) (w : World) (w0 : s0.size ≤ maxLen) (w1 : s1.size ≤ maxLen) :
    Calls Try.prog 11 #[.string s0, .string s1] w fun e w' => e = .returned (.bool true) ∧ Below w.heap.size w w' := by
  have hb0 : s0.size ≤ 9223372036854775807 := w0
  have hb1 : s1.size ≤ 9223372036854775807 := w1
  by_cases hq0 : s0.size ≤ 1048576
  rotate_left
  · have hq0' : (1048576 : Int) < s0.size := by omega
    go_enter Try.func11, Try.ntmps11
    go_wp2_with fail
    go_returns
    exact ⟨rfl, Below.refl _ _⟩
  by_cases hq1 : s1.size ≤ 1048576
  rotate_left
  · have hq1' : (1048576 : Int) < s1.size := by omega
    go_enter Try.func11, Try.ntmps11
    go_wp2_with fail
    go_returns
    exact ⟨rfl, Below.refl _ _⟩
  obtain ⟨v, hv_v⟩ : ∃ z : List UInt8, mlL (bl s0) (bl s1) = z := ⟨_, rfl⟩
  obtain ⟨zs, hv_zs⟩ : ∃ z : List Int, mlZ (bl s0) (bl s1) = z := ⟨_, rfl⟩
  obtain ⟨cd, hv_cd⟩ : ∃ z : Int, twoC (bl s0) (bl s1) = z := ⟨_, rfl⟩
  have hz0 : zs.length ≤ 256 := hv_zs ▸ mlZ_len (bl s0) (bl s1)
  have C1 : Hid (∀  (W : World), Calls Try.prog 35 #[.string s0, .string s1] W (MlPost v zs cd W)) := fun W => hv_v ▸ hv_zs ▸ hv_cd ▸ c_sMissedLetters s0 s1 W w0 w1
  have C2 : Hid (∀  (W : World), Calls Try.prog 36 #[.string s0, .string s1] W (MlPost v zs cd W)) := fun W => hv_v ▸ hv_zs ▸ hv_cd ▸ c_iMissedLetters s0 s1 W w0 w1
  clear hv_v hv_zs hv_cd
  have hq1 : ¬ ((1 : Int) < 0) := by omega
  have hq2 : ¬ ((1 : Int) + (zs.length : Int) < 0) := by omega
  go_enter Try.func11, Try.ntmps11
  go_wp2_with fail
  refine (C1.out _).mono ?_
  rintro r_ w1 ⟨Aw, cw, rfl, o1, b1⟩
  have e1 := b1
  go_wp2_with fail
  refine (C2.out _).mono ?_
  rintro r_ w2 ⟨Ag, cg, rfl, o2, b2⟩
  have e2 := e1.trans (b2.mono e1.size)
  have o1_2 := own_below o1 b2
  go_wp2_with fail
  refine (c_eqInt64S _ _ _ _ _ _ _ (zs_ownN o2) (zs_ownN o1_2) (by omega)).mono ?_
  rintro r_ w3 ⟨rfl, b3⟩
  have e3 := e2.trans (b3.mono e2.size)
  have o1_3 := own_below o1_2 b3
  have o2_3 := own_below o2 b3
  go_wp2_with fail
  refine (c_markInt64S _ _ _ _ _ _ _ rfl o2_3 (by omega) (by omega) (by omega)).mono ?_
  rintro r_ w4 ⟨rfl, y4, m4⟩
  have e4 := below_mark e3 m4 o2_3 (e1.size) e3.size
  have o1_4 := World.ownsRow.kept o1_3 m4 (own_sep o1 o2 (Nat.le_refl _))
  go_wp2_with fail
  refine (c_heldInt64S _ _ _ _ _ (z_held y4) (by omega) (by omega) (by omega)).mono ?_
  rintro r_ w5 ⟨rfl, b5⟩
  have e5 := e4.trans (b5.mono e4.size)
  have o1_5 := own_below o1_4 b5
  have o2_5 := own_below y4 b5
  go_wp2_with fail
  refine (C2.out _).mono ?_
  rintro r_ w6 ⟨Ah, ch, rfl, o6, b6⟩
  have e6 := e5.trans (b6.mono e5.size)
  have o1_6 := own_below o1_5 b6
  have o2_6 := own_below o2_5 b6
  go_wp2_with fail
  refine (c_eqInt64S _ _ _ _ _ _ _ (zs_ownN o6) (zs_ownN o1_6) (by omega)).mono ?_
  rintro r_ w7 ⟨rfl, b7⟩
  have e7 := e6.trans (b7.mono e6.size)
  have o1_7 := own_below o1_6 b7
  have o2_7 := own_below o2_6 b7
  have o6_7 := own_below o6 b7
  go_wp2_with fail
  refine (c_heldInt64S _ _ _ _ _ (z_held o2_7) (by omega) (by omega) (by omega)).mono ?_
  rintro r_ w8 ⟨rfl, b8⟩
  have e8 := e7.trans (b8.mono e7.size)
  have o2_8 := own_below o2_7 b8
  go_wp2_with fail
  go_returns
  exact ⟨rfl, e8⟩
end Go.Proofs.Ythgoofjojanakaa.fnExactMissedLetters
