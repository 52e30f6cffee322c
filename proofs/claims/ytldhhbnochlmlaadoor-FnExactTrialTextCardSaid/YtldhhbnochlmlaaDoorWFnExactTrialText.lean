/- The walk of the law FnExactTrialText: it returns true, and what was there stays as it was. -/
import Derived.Test.YtldhhbnochlmlaaDoorTt
namespace Go.Proofs.YtldhhbnochlmlaaDoor.fnExactTrialText
open Go.RowKit Go.BigFrame
attribute [local go_sem] sub_cell sub_frozen drewN_setCell

set_option maxHeartbeats 4000000 in
theorem walk (a0_0 a0_1 a0_2 : Int) (w : World) (w0_0 : (Lit.int .i64 a0_0).wf = true) (w0_1 : (Lit.int .i64 a0_1).wf = true) (w0_2 : (Lit.int .i64 a0_2).wf = true) (ht : Tab w) :
    Calls Tryd.prog 3 #[.agg #[.int .i64 a0_0, .int .i64 a0_1, .int .i64 a0_2]] w fun e w' => e = .returned (.bool true) ∧ Below w.heap.size w w' := by
  obtain ⟨v, hv_v⟩ : ∃ z : ByteArray, ttV a0_0 a0_1 a0_2 = z := ⟨_, rfl⟩
  have HT := Lib.hid ht
  have C1 : Hid (∀ (W : World), Calls Tryd.prog 5 #[.agg #[.int .i64 a0_0, .int .i64 a0_1, .int .i64 a0_2]] W (fun e w' => e = .returned (.string v) ∧ Below W.heap.size W w')) := fun W => hv_v ▸ c_sTrialText _ _ _ W
  have C2 : Hid (∀ (W : World), Tab W → Calls Tryd.prog 7 #[.agg #[.int .i64 a0_0, .int .i64 a0_1, .int .i64 a0_2]] W (fun e w' => e = .returned (.string v) ∧ Below W.heap.size W w')) := fun W h => hv_v ▸ c_iTrialText _ _ _ W h
  clear hv_v ht w0_0 w0_1 w0_2
  go_enter Tryd.func3, Tryd.ntmps3
  go_wp2_with (first
    | (go_at_call 6; refine (c_toTrial _ _ _ _).mono ?_; rintro r_ w_ ⟨rfl, rfl⟩)
    | (go_at_call 5; refine (C1.out _).mono ?_; rintro r_ w2 ⟨rfl, hb2⟩; have hB2 := later hb2 (w := w) (by (repeat' (first | (with_reducible exact Below.refl _ _) | (with_reducible assumption) | (with_reducible refine below_drewN ?_ _) | (with_reducible refine Below.drew ?_) | (with_reducible refine Below.alloc ?_ ?_ _) | (with_reducible refine Below.setCell ?_ ?_ _) | go_size))); have hl2 : w.heap.size < w2.heap.size := (by have := hb2.size; simp at this; omega); have j0 : w2.cell? ⟨w.heap.size, 0, none⟩ = some (.int .i64 a0_0) := (hb2.cell (p := ⟨w.heap.size, 0, none⟩) (by simp; omega)).trans (by simp [go_sem]); have j1 : w2.cell? ⟨w.heap.size, 1, none⟩ = some (.int .i64 a0_1) := (hb2.cell (p := ⟨w.heap.size, 1, none⟩) (by simp; omega)).trans (by simp [go_sem]); have j2 : w2.cell? ⟨w.heap.size, 2, none⟩ = some (.int .i64 a0_2) := (hb2.cell (p := ⟨w.heap.size, 2, none⟩) (by simp; omega)).trans (by simp [go_sem]); clear hb2)
    | (go_at_call 7; refine (C2.out _ (HT.out.later (by (repeat' (first | (with_reducible exact Below.refl _ _) | (with_reducible assumption) | (with_reducible refine below_drewN ?_ _) | (with_reducible refine Below.drew ?_) | (with_reducible refine Below.alloc ?_ ?_ _) | (with_reducible refine Below.setCell ?_ ?_ _) | go_size))))).mono ?_; rintro r_ w3 ⟨rfl, hb3⟩; have hB3 := later hb3 (w := w) (by (repeat' (first | (with_reducible exact Below.refl _ _) | (with_reducible assumption) | (with_reducible refine below_drewN ?_ _) | (with_reducible refine Below.drew ?_) | (with_reducible refine Below.alloc ?_ ?_ _) | (with_reducible refine Below.setCell ?_ ?_ _) | go_size))); clear hb3))
  go_returns
  exact ⟨rfl, by (repeat' (first | (with_reducible exact Below.refl _ _) | (with_reducible assumption) | (with_reducible refine below_drewN ?_ _) | (with_reducible refine Below.drew ?_) | (with_reducible refine Below.alloc ?_ ?_ _) | (with_reducible refine Below.setCell ?_ ?_ _) | go_size))⟩
end Go.Proofs.YtldhhbnochlmlaaDoor.fnExactTrialText
