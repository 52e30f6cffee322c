/- The walk of the law FnExactReadTrial: it returns true, and what was there stays as it was. -/
import Derived.Test.YtldhhbnochlmlaaDoorTrf
namespace Go.Proofs.YtldhhbnochlmlaaDoor.fnExactReadTrial
open Go.RowKit Go.BigFrame
attribute [local go_sem] sub_cell sub_frozen drewN_setCell

theorem rtT_form (o : Option (Int × Int × Int)) : ∃ a b n k, rtT o = .tuple #[.agg #[.int .i64 a, .int .i64 b, .int .i64 n], .bool k] := by
  cases o with
  | none => exact ⟨_, _, _, _, rfl⟩
  | some x => obtain ⟨a, b, n⟩ := x; exact ⟨a, b, n, true, rfl⟩
set_option maxHeartbeats 4000000 in
theorem walk (s0 : ByteArray) (w : World) (w0 : s0.size ≤ maxLen) (ht : Tab w) :
    Calls Tryd.prog 4 #[.string s0] w fun e w' => e = .returned (.bool true) ∧ Below w.heap.size w w' := by
  have hb0 : s0.size ≤ 9223372036854775807 := w0
  by_cases hq0 : s0.size ≤ 1048576
  rotate_left
  · have hq0' : (1048576 : Int) < s0.size := by omega
    go_enter Tryd.func4, Tryd.ntmps4
    go_wp2_with fail
    go_returns
    exact ⟨rfl, Below.refl _ _⟩
  obtain ⟨a, b, n, k, hv⟩ := rtT_form (trV (bl s0))
  have HT := Lib.hid ht
  have C1 : Hid (∀ (W : World), Calls Tryd.prog 8 #[.string s0] W (fun e w' => e = .returned (.tuple #[.agg #[.int .i64 a, .int .i64 b, .int .i64 n], .bool k]) ∧ Below W.heap.size W w')) := fun W => hv ▸ c_sReadTrial s0 W hq0
  have C2 : Hid (∀ (W : World), Tab W → Calls Tryd.prog 9 #[.string s0] W (fun e w' => e = .returned (.tuple #[.agg #[.int .i64 a, .int .i64 b, .int .i64 n], .bool k]) ∧ Below W.heap.size W w')) := fun W h => hv ▸ c_iReadTrial s0 W hq0 h
  clear hv ht
  go_enter Tryd.func4, Tryd.ntmps4
  go_wp2_with (first
    | (go_at_call 8; refine (C1.out _).mono ?_; rintro r_ w1 ⟨rfl, hb1⟩; have hz1 := hb1.size)
    | (go_at_call 9; refine (C2.out _ (HT.out.later (by (repeat' (first | (with_reducible exact Below.refl _ _) | (with_reducible assumption) | (with_reducible refine below_drewN ?_ _) | (with_reducible refine Below.drew ?_) | (with_reducible refine Below.alloc ?_ ?_ _) | (with_reducible refine Below.setCell ?_ ?_ _) | go_size))))).mono ?_; rintro r_ w2 ⟨rfl, hb2⟩; have hB2 := later hb2 (w := w) (by (repeat' (first | (with_reducible exact Below.refl _ _) | (with_reducible assumption) | (with_reducible refine below_drewN ?_ _) | (with_reducible refine Below.drew ?_) | (with_reducible refine Below.alloc ?_ ?_ _) | (with_reducible refine Below.setCell ?_ ?_ _) | go_size))); have hz2 := hb2.size; have hl2 : w1.heap.size < w2.heap.size := (by simp at hz2; omega); have j0 : w2.cell? ⟨w1.heap.size, 0, none⟩ = some (.int .i64 a) := (hb2.cell (p := ⟨w1.heap.size, 0, none⟩) (by simp)).trans (by simp [go_sem]); have j1 : w2.cell? ⟨w1.heap.size, 1, none⟩ = some (.int .i64 b) := (hb2.cell (p := ⟨w1.heap.size, 1, none⟩) (by simp)).trans (by simp [go_sem]); have j2 : w2.cell? ⟨w1.heap.size, 2, none⟩ = some (.int .i64 n) := (hb2.cell (p := ⟨w1.heap.size, 2, none⟩) (by simp)).trans (by simp [go_sem]); clear hb2)
    | (go_at_call 10; refine (c_eqTrial _ _ _ _).mono ?_; rintro r_ w3 ⟨rfl, hb3⟩; have hB3 := later hb3 (w := w) (by (repeat' (first | (with_reducible exact Below.refl _ _) | (with_reducible assumption) | (with_reducible refine below_drewN ?_ _) | (with_reducible refine Below.drew ?_) | (with_reducible refine Below.alloc ?_ ?_ _) | (with_reducible refine Below.setCell ?_ ?_ _) | go_size))); clear hb3))
  go_returns
  exact ⟨rfl, by (repeat' (first | (with_reducible exact Below.refl _ _) | (with_reducible assumption) | (with_reducible refine below_drewN ?_ _) | (with_reducible refine Below.drew ?_) | (with_reducible refine Below.alloc ?_ ?_ _) | (with_reducible refine Below.setCell ?_ ?_ _) | go_size))⟩
end Go.Proofs.YtldhhbnochlmlaaDoor.fnExactReadTrial
