/- The walk of the law FnExactAccuracyOf: it returns true, and what was there stays as it was. -/
import Derived.Test.YthgoofjojanakaaEr17
namespace Go.Proofs.Ythgoofjojanakaa.fnExactAccuracyOf
open Go.RowKit Go.BigFrame
attribute [local go_sem] sub_cell sub_frozen drewN_setCell

set_option maxHeartbeats 4000000 in
theorem walk (s0 : ByteArray) (s1 : ByteArray) (w : World) (w0 : s0.size ≤ maxLen) (w1 : s1.size ≤ maxLen) :
    Calls Try.prog 10 #[.string s0, .string s1] w fun e w' => e = .returned (.bool true) ∧ Below w.heap.size w w' := by
  have hb0 : s0.size ≤ 9223372036854775807 := w0
  have hb1 : s1.size ≤ 9223372036854775807 := w1
  by_cases hq0 : s0.size ≤ 1048576
  rotate_left
  · have hq0' : (1048576 : Int) < s0.size := by omega
    go_enter Try.func10, Try.ntmps10
    go_wp2_with fail
    go_returns
    exact ⟨rfl, Below.refl _ _⟩
  by_cases hq1 : s1.size ≤ 1048576
  rotate_left
  · have hq1' : (1048576 : Int) < s1.size := by omega
    go_enter Try.func10, Try.ntmps10
    go_wp2_with fail
    go_returns
    exact ⟨rfl, Below.refl _ _⟩
  obtain ⟨x, y, hv⟩ := accV_form (bl s0) (bl s1)
  obtain ⟨c, hv_c⟩ : ∃ z : Int, someC (bl s0) (bl s1) = z := ⟨_, rfl⟩
  have C1 : Hid (∀  (W : World), Calls Try.prog 32 #[.string s0, .string s1] W (fun e w' => e = .returned (.tuple #[.agg #[.int .i64 x, .int .i64 y], .int .i64 c]) ∧ Below W.heap.size W w')) := fun W => hv ▸ hv_c ▸ c_sAccuracyOf s0 s1 W w0 w1
  have C2 : Hid (∀  (W : World), Calls Try.prog 33 #[.string s0, .string s1] W (fun e w' => e = .returned (.tuple #[.agg #[.int .i64 x, .int .i64 y], .int .i64 c]) ∧ Below W.heap.size W w')) := fun W => hv ▸ hv_c ▸ c_iAccuracyOf s0 s1 W w0 w1
  clear hv hv_c
  go_enter Try.func10, Try.ntmps10
  go_wp2_with (first
    | (go_at_call 32; refine (C1.out _).mono ?_; rintro r_ w1 ⟨rfl, hb1⟩; have hB1 := later hb1 (w := w) (by (repeat' (first | (with_reducible exact Below.refl _ _) | (with_reducible assumption) | (with_reducible refine below_drewN ?_ _) | (with_reducible refine Below.drew ?_) | (with_reducible refine Below.alloc ?_ ?_ _) | (with_reducible refine Below.setCell ?_ ?_ _) | go_size))); have hz1 := hB1.size; have hy1 := hb1.size; obtain ⟨hc1, hf1⟩ := bcell hb1; (try simp only [World.size_alloc, World.heap_drewN] at hc1 hf1 hy1); clear hb1)
    | (go_at_call 33; refine (C2.out _).mono ?_; rintro r_ w2 ⟨rfl, hb2⟩; have hB2 := later hb2 (w := w) (by (repeat' (first | (with_reducible exact Below.refl _ _) | (with_reducible assumption) | (with_reducible refine below_drewN ?_ _) | (with_reducible refine Below.drew ?_) | (with_reducible refine Below.alloc ?_ ?_ _) | (with_reducible refine Below.setCell ?_ ?_ _) | go_size))); have hz2 := hB2.size; have hy2 := hb2.size; obtain ⟨hc2, hf2⟩ := bcell hb2; (try simp only [World.size_alloc, World.heap_drewN] at hc2 hf2 hy2); clear hb2; have hl12 : w1.heap.size < w2.heap.size := (by omega))
    | (go_at_call 34; refine (c_eqFraction _ _ _).mono ?_; rintro r_ w3 ⟨rfl, hb3⟩; have hB3 := later hb3 (w := w) (by (repeat' (first | (with_reducible exact Below.refl _ _) | (with_reducible assumption) | (with_reducible refine below_drewN ?_ _) | (with_reducible refine Below.drew ?_) | (with_reducible refine Below.alloc ?_ ?_ _) | (with_reducible refine Below.setCell ?_ ?_ _) | go_size))); have hz3 := hB3.size; have hy3 := hb3.size; obtain ⟨hc3, hf3⟩ := bcell hb3; (try simp only [World.size_alloc, World.heap_drewN] at hc3 hf3 hy3); clear hb3))
  go_returns
  exact ⟨rfl, by (repeat' (first | (with_reducible exact Below.refl _ _) | (with_reducible assumption) | (with_reducible refine below_drewN ?_ _) | (with_reducible refine Below.drew ?_) | (with_reducible refine Below.alloc ?_ ?_ _) | (with_reducible refine Below.setCell ?_ ?_ _) | go_size))⟩
end Go.Proofs.Ythgoofjojanakaa.fnExactAccuracyOf
