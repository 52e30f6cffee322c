/- The walk of the law FnExactAlignTexts: it returns true, and what was there stays as it was. -/
import Derived.Test.YthgoofjojanakaaEr16
namespace Go.Proofs.Ythgoofjojanakaa.fnExactAlignTexts
open Go.RowKit Go.BigFrame
attribute [local go_sem] sub_cell sub_frozen drewN_setCell

set_option maxHeartbeats 4000000 in
theorem walk (s0 : ByteArray) (s1 : ByteArray) (w : World) (w0 : s0.size ≤ maxLen) (w1 : s1.size ≤ maxLen) :
    Calls Try.prog 7 #[.string s0, .string s1] w fun e w' => e = .returned (.bool true) ∧ Below w.heap.size w w' := by
  have hb0 : s0.size ≤ 9223372036854775807 := w0
  have hb1 : s1.size ≤ 9223372036854775807 := w1
  by_cases hq0 : s0.size ≤ 1048576
  rotate_left
  · have hq0' : (1048576 : Int) < s0.size := by omega
    go_enter Try.func7, Try.ntmps7
    go_wp2_with fail
    go_returns
    exact ⟨rfl, Below.refl _ _⟩
  by_cases hq1 : s1.size ≤ 1048576
  rotate_left
  · have hq1' : (1048576 : Int) < s1.size := by omega
    go_enter Try.func7, Try.ntmps7
    go_wp2_with fail
    go_returns
    exact ⟨rfl, Below.refl _ _⟩
  obtain ⟨v, hv_v⟩ : ∃ z : ByteArray, altA (bl s0) (bl s1) = z := ⟨_, rfl⟩
  obtain ⟨c, hv_c⟩ : ∃ z : Int, twoC (bl s0) (bl s1) = z := ⟨_, rfl⟩
  have C1 : Hid (∀  (W : World), Calls Try.prog 23 #[.string s0, .string s1] W (fun e w' => e = .returned (.tuple #[.string v, .int .i64 c]) ∧ Below W.heap.size W w')) := fun W => hv_v ▸ hv_c ▸ c_sAlignTexts s0 s1 W w0 w1
  have C2 : Hid (∀  (W : World), Calls Try.prog 24 #[.string s0, .string s1] W (fun e w' => e = .returned (.tuple #[.string v, .int .i64 c]) ∧ Below W.heap.size W w')) := fun W => hv_v ▸ hv_c ▸ c_iAlignTexts s0 s1 W w0 w1
  clear hv_v hv_c
  go_enter Try.func7, Try.ntmps7
  go_wp2_with fail
  refine (C1.out _).mono ?_
  rintro r_ w1 ⟨rfl, b1⟩
  have e1 := b1
  go_wp2_with fail
  refine (C2.out _).mono ?_
  rintro r_ w2 ⟨rfl, b2⟩
  have e2 := e1.trans (b2.mono e1.size)
  go_wp2_with fail
  go_returns
  exact ⟨rfl, e2⟩
end Go.Proofs.Ythgoofjojanakaa.fnExactAlignTexts
