/- The walk of the law FnExactTypedFrom: it returns true, and what was there stays as it was. -/
import Derived.Test.YthgoofjojanakaaEr20
namespace Go.Proofs.Ythgoofjojanakaa.fnExactTypedFrom
open Go.RowKit Go.BigFrame
attribute [local go_sem] sub_cell sub_frozen drewN_setCell

set_option maxHeartbeats 4000000 in
theorem walk (s0 : ByteArray) (s1 : ByteArray) (s2 : ByteArray) (w : World) (w0 : s0.size ≤ maxLen) (w1 : s1.size ≤ maxLen) (w2 : s2.size ≤ maxLen) :
    Calls Try.prog 9 #[.string s0, .string s1, .string s2] w fun e w' => e = .returned (.bool true) ∧ Below w.heap.size w w' := by
  have hb0 : s0.size ≤ 9223372036854775807 := w0
  have hb1 : s1.size ≤ 9223372036854775807 := w1
  have hb2 : s2.size ≤ 9223372036854775807 := w2
  by_cases hq0 : s0.size ≤ 1048576
  rotate_left
  · have hq0' : (1048576 : Int) < s0.size := by omega
    go_enter Try.func9, Try.ntmps9
    go_wp2_with fail
    go_returns
    exact ⟨rfl, Below.refl _ _⟩
  by_cases hq1 : s1.size ≤ 1048576
  rotate_left
  · have hq1' : (1048576 : Int) < s1.size := by omega
    go_enter Try.func9, Try.ntmps9
    go_wp2_with fail
    go_returns
    exact ⟨rfl, Below.refl _ _⟩
  by_cases hq2 : s2.size ≤ 1048576
  rotate_left
  · have hq2' : (1048576 : Int) < s2.size := by omega
    go_enter Try.func9, Try.ntmps9
    go_wp2_with fail
    go_returns
    exact ⟨rfl, Below.refl _ _⟩
  obtain ⟨v, hv_v⟩ : ∃ z : ByteArray, tfA (bl s0) (bl s1) (bl s2) = z := ⟨_, rfl⟩
  obtain ⟨c, hv_c⟩ : ∃ z : Int, tfC (bl s0) (bl s1) (bl s2) = z := ⟨_, rfl⟩
  have C1 : Hid (∀  (W : World), Calls Try.prog 30 #[.string s0, .string s1, .string s2] W (fun e w' => e = .returned (.tuple #[.string v, .int .i64 c]) ∧ Below W.heap.size W w')) := fun W => hv_v ▸ hv_c ▸ c_sTypedFrom s0 s1 s2 W w0 w1 w2
  have C2 : Hid (∀  (W : World), Calls Try.prog 31 #[.string s0, .string s1, .string s2] W (fun e w' => e = .returned (.tuple #[.string v, .int .i64 c]) ∧ Below W.heap.size W w')) := fun W => (by have h9 := c_iTypedFrom (bl s0) (bl s2) s1 W (by rw [sb_bl]; exact w0) w1 (by rw [sb_bl]; exact w2); rw [sb_bl, sb_bl] at h9; exact hv_v ▸ hv_c ▸ h9)
  clear hv_v hv_c
  go_enter Try.func9, Try.ntmps9
  go_wp2_with fail
  refine (C1.out _).mono ?_
  rintro r_ w1 ⟨rfl, b1⟩
  have e1 := b1
  go_wp2_with fail
  refine (C2.out _).mono ?_
  rintro r_ w2 ⟨rfl, b2⟩
  have e2 := e1.trans (b2.mono e1.size)
  go_wp2_with fail
  go_returns
  exact ⟨rfl, e2⟩
end Go.Proofs.Ythgoofjojanakaa.fnExactTypedFrom
