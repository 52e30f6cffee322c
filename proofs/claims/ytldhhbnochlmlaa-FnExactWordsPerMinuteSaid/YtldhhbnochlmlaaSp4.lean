/- Contracts: a test's net strokes, its speed, its share of errors, whether it passes. -/
import Derived.Test.YtldhhbnochlmlaaSp3
import Derived.Test.YtldhhbnochlmlaaTail
namespace Go.Proofs.Ytldhhbnochlmlaa
open Go.RowKit Go.BigFrame
attribute [local go_sem] sub_cell sub_frozen drewN_setCell

theorem codeT_ok {s e t pe : Int} (h : codeT s e t pe = 0) : (0 ≤ s ∧ s ≤ 100000) ∧ (0 ≤ e ∧ e ≤ 100000) ∧ (0 ≤ pe ∧ pe ≤ 50) ∧ (1 ≤ t ∧ t ≤ 7200) ∧ e ≤ s := by
  unfold codeT at h
  cases g1 : vtr s e t <;> cases g2 : betw pe 0 50 <;> simp [g1, g2] at h
  have := vtr_bounds g1
  have := betw_true g2
  omega
theorem codeT_cases (s e t pe : Int) : codeT s e t pe = 0 ∨ codeT s e t pe = 1 ∨ codeT s e t pe = 2 := by
  unfold codeT
  cases vtr s e t <;> cases betw pe 0 50 <;> simp

def netV (s e t pe : Int) : Value := if codeT s e t pe = 0 then .tuple #[.int .i64 (netI s e pe), .int .i64 0] else .tuple #[.int .i64 0, .int .i64 (codeT s e t pe)]

set_option maxHeartbeats 1000000 in
theorem c_sNetStrokes (s e t pe : Int) (w : World) :
    Calls Try.prog 20 #[.agg #[.int .i64 s, .int .i64 e, .int .i64 t], .int .i64 pe] w fun r w' => r = .returned (netV s e t pe) ∧ Below w.heap.size w w' := by
  rcases codeT_cases s e t pe with h | h | h
  · obtain ⟨b1, b2, b3, b4, b5⟩ := codeT_ok h
    go_enter Try.func20, Try.ntmps20
    go_wp2_with (first | (go_at_call 54; refine (c_l20Code s e t _ _ _ _ (by assumption) _ (by go_cell) (by go_cell) (by go_cell)).mono ?_; rintro r_ w' ⟨rfl, n, rfl⟩) | (go_at_call 55; refine (c_l20Net s e _ _ _ _ (by assumption) (by assumption) (by assumption) (by go_cell) (by go_cell)).mono ?_; rintro r_ w' ⟨rfl, n2, rfl⟩))
    go_returns
    exact ⟨by simp [netV, h], by (repeat' (first | (with_reducible exact Below.refl _ _) | (with_reducible assumption) | (with_reducible refine below_drewN ?_ _) | (with_reducible refine Below.drew ?_) | (with_reducible refine Below.alloc ?_ ?_ _) | (with_reducible refine Below.setCell ?_ ?_ _) | go_size))⟩
  · go_enter Try.func20, Try.ntmps20
    go_wp2_with (go_at_call 54; refine (c_l20Code s e t _ _ _ _ (by assumption) _ (by go_cell) (by go_cell) (by go_cell)).mono ?_; rintro r_ w' ⟨rfl, n, rfl⟩)
    go_returns
    exact ⟨by simp [netV, h], by (repeat' (first | (with_reducible exact Below.refl _ _) | (with_reducible assumption) | (with_reducible refine below_drewN ?_ _) | (with_reducible refine Below.drew ?_) | (with_reducible refine Below.alloc ?_ ?_ _) | (with_reducible refine Below.setCell ?_ ?_ _) | go_size))⟩
  · go_enter Try.func20, Try.ntmps20
    go_wp2_with (go_at_call 54; refine (c_l20Code s e t _ _ _ _ (by assumption) _ (by go_cell) (by go_cell) (by go_cell)).mono ?_; rintro r_ w' ⟨rfl, n, rfl⟩)
    go_returns
    exact ⟨by simp [netV, h], by (repeat' (first | (with_reducible exact Below.refl _ _) | (with_reducible assumption) | (with_reducible refine below_drewN ?_ _) | (with_reducible refine Below.drew ?_) | (with_reducible refine Below.alloc ?_ ?_ _) | (with_reducible refine Below.setCell ?_ ?_ _) | go_size))⟩

set_option maxHeartbeats 1000000 in
theorem c_iNetStrokes (s e t pe : Int) (w : World) :
    Calls Try.prog 21 #[.agg #[.int .i64 s, .int .i64 e, .int .i64 t], .int .i64 pe] w fun r w' => r = .returned (netV s e t pe) ∧ Below w.heap.size w w' := by
  rcases codeT_cases s e t pe with h | h | h
  · obtain ⟨b1, b2, b3, b4, b5⟩ := codeT_ok h
    go_enter Try.func21, Try.ntmps21
    go_wp2_with (first | (go_at_call 58; refine (c_trialCode _ _ _ _ _ (by assumption) _).mono ?_; rintro r_ w' ⟨rfl, rfl⟩) | (go_at_call 57; refine (c_net _ _ _ _ _ (by assumption) (by assumption) (by assumption)).mono ?_; rintro r_ w' ⟨rfl, rfl⟩))
    go_returns
    exact ⟨by simp [netV, h], by (repeat' (first | (with_reducible exact Below.refl _ _) | (with_reducible assumption) | (with_reducible refine below_drewN ?_ _) | (with_reducible refine Below.drew ?_) | (with_reducible refine Below.alloc ?_ ?_ _) | (with_reducible refine Below.setCell ?_ ?_ _) | go_size))⟩
  · go_enter Try.func21, Try.ntmps21
    go_wp2_with (go_at_call 58; refine (c_trialCode _ _ _ _ _ (by assumption) _).mono ?_; rintro r_ w' ⟨rfl, rfl⟩)
    go_returns
    exact ⟨by simp [netV, h], by (repeat' (first | (with_reducible exact Below.refl _ _) | (with_reducible assumption) | (with_reducible refine below_drewN ?_ _) | (with_reducible refine Below.drew ?_) | (with_reducible refine Below.alloc ?_ ?_ _) | (with_reducible refine Below.setCell ?_ ?_ _) | go_size))⟩
  · go_enter Try.func21, Try.ntmps21
    go_wp2_with (go_at_call 58; refine (c_trialCode _ _ _ _ _ (by assumption) _).mono ?_; rintro r_ w' ⟨rfl, rfl⟩)
    go_returns
    exact ⟨by simp [netV, h], by (repeat' (first | (with_reducible exact Below.refl _ _) | (with_reducible assumption) | (with_reducible refine below_drewN ?_ _) | (with_reducible refine Below.drew ?_) | (with_reducible refine Below.alloc ?_ ?_ _) | (with_reducible refine Below.setCell ?_ ?_ _) | go_size))⟩

def spmV (k s e t pe : Int) : Value := if codeT s e t pe = 0 then .tuple #[.agg #[.int .i64 (lowN (k * netI s e pe) t), .int .i64 (lowD (k * netI s e pe) t)], .int .i64 0] else .tuple #[.agg #[.int .i64 0, .int .i64 0], .int .i64 (codeT s e t pe)]
theorem spmV_err {k s e t pe c : Int} (h : codeT s e t pe = c) (hc : c ≠ 0) : Ending.returned (.tuple #[.agg #[.int .i64 0, .int .i64 0], .int .i64 c]) = .returned (spmV k s e t pe) := by
  rw [spmV, h, if_neg hc]
theorem spmV_ok {k s e t pe : Int} (h : codeT s e t pe = 0) : Ending.returned (.tuple #[.agg #[.int .i64 (lowN (k * netI s e pe) t), .int .i64 (lowD (k * netI s e pe) t)], .int .i64 0]) = .returned (spmV k s e t pe) := by
  rw [spmV, if_pos h]

set_option maxHeartbeats 1000000 in
theorem c_sStrokesPerMinute (s e t pe : Int) (w : World) :
    Calls Try.prog 32 #[.agg #[.int .i64 s, .int .i64 e, .int .i64 t], .int .i64 pe] w fun r w' => r = .returned (spmV 60 s e t pe) ∧ Below w.heap.size w w' := by
  rcases codeT_cases s e t pe with h | h | h
  · obtain ⟨b1, b2, b3, b4, b5⟩ := codeT_ok h
    have b6 := netI_bd b1 b2 b3
    have b7 : 0 ≤ 60 * netI s e pe := by omega
    have b8 := b4.1
    have hw : IntKind.i64.wrap (60 * netI s e pe) = 60 * netI s e pe := IntWalk.i64_in _ (by omega)
    go_enter Try.func32, Try.ntmps32
    go_wp2_with (go_at_call 54; refine (c_l20Code s e t _ _ _ _ (by assumption) _ (by go_cell) (by go_cell) (by go_cell)).mono ?_; rintro r_ w' ⟨rfl, n, rfl⟩)
    refine wp_region_below_tail 6 (by kernel_rfl) (by kernel_rfl) ?_
    simp only [List.take_succ_cons, List.take_zero, List.drop_succ_cons, List.drop_zero]
    repeat (go_big_quiet_step ((first | (go_at_call 55; refine qBg (c_l20Net s e _ _ _ _ (by assumption) (by assumption) (by assumption) (by go_cell) (by go_cell)) (by simp) ?_; intro w_ h_; first | exact h_ | exact h_.below | (subst h_; exact Below.refl _ _) | (subst h_; (repeat' (first | (with_reducible exact Below.refl _ _) | (with_reducible assumption) | (with_reducible refine below_drewN ?_ _) | (with_reducible refine Below.drew ?_) | (with_reducible refine Below.alloc ?_ ?_ _) | (with_reducible refine Below.setCell ?_ ?_ _) | go_size))) | (obtain ⟨n_, rfl⟩ := h_; (repeat' (first | (with_reducible exact Below.refl _ _) | (with_reducible assumption) | (with_reducible refine below_drewN ?_ _) | (with_reducible refine Below.drew ?_) | (with_reducible refine Below.alloc ?_ ?_ _) | (with_reducible refine Below.setCell ?_ ?_ _) | go_size)))) | (go_at_call 62; refine qBg (c_l02Make _ _ _ (by assumption) (by omega) (by assumption) (by omega)) (by simp) ?_; intro w_ h_; first | exact h_ | exact h_.below | (subst h_; exact Below.refl _ _) | (subst h_; (repeat' (first | (with_reducible exact Below.refl _ _) | (with_reducible assumption) | (with_reducible refine below_drewN ?_ _) | (with_reducible refine Below.drew ?_) | (with_reducible refine Below.alloc ?_ ?_ _) | (with_reducible refine Below.setCell ?_ ?_ _) | go_size))) | (obtain ⟨n_, rfl⟩ := h_; (repeat' (first | (with_reducible exact Below.refl _ _) | (with_reducible assumption) | (with_reducible refine below_drewN ?_ _) | (with_reducible refine Below.drew ?_) | (with_reducible refine Below.alloc ?_ ?_ _) | (with_reducible refine Below.setCell ?_ ?_ _) | go_size)))))))
    refine wpQuiet_nil ?_
    intro _ hw'
    obtain ⟨⟨w9, hb9⟩, hw''⟩ := hw'
    subst hw''
    have k9_1_0 := hb9.cell (p := ⟨w.heap.size + 1, 0, none⟩) (by simp)
    simp [go_sem] at k9_1_0
    have k9_1_0f := hb9.frozen (p := ⟨w.heap.size + 1, 0, none⟩) (by simp)
    simp [go_sem] at k9_1_0f
    have k9_1_1 := hb9.cell (p := ⟨w.heap.size + 1, 1, none⟩) (by simp)
    simp [go_sem] at k9_1_1
    have k9_1_1f := hb9.frozen (p := ⟨w.heap.size + 1, 1, none⟩) (by simp)
    simp [go_sem] at k9_1_1f
    have hB := later hb9 (w := w) (by (repeat' (first | (with_reducible exact Below.refl _ _) | (with_reducible assumption) | (with_reducible refine below_drewN ?_ _) | (with_reducible refine Below.drew ?_) | (with_reducible refine Below.alloc ?_ ?_ _) | (with_reducible refine Below.setCell ?_ ?_ _) | go_size)))
    go_wp2_with fail
    refine bodyPost_ret (by simp [results, Try.results32, go_sem, *]; try rfl) rfl ?_
    exact ⟨spmV_ok h, by (repeat' (first | (with_reducible exact Below.refl _ _) | (with_reducible assumption) | (with_reducible refine below_drewN ?_ _) | (with_reducible refine Below.drew ?_) | (with_reducible refine Below.alloc ?_ ?_ _) | (with_reducible refine Below.setCell ?_ ?_ _) | go_size))⟩
  · go_enter Try.func32, Try.ntmps32
    go_wp2_with (go_at_call 54; refine (c_l20Code s e t _ _ _ _ (by assumption) _ (by go_cell) (by go_cell) (by go_cell)).mono ?_; rintro r_ w' ⟨rfl, n, rfl⟩)
    go_returns
    exact ⟨spmV_err h (by decide), by (repeat' (first | (with_reducible exact Below.refl _ _) | (with_reducible assumption) | (with_reducible refine below_drewN ?_ _) | (with_reducible refine Below.drew ?_) | (with_reducible refine Below.alloc ?_ ?_ _) | (with_reducible refine Below.setCell ?_ ?_ _) | go_size))⟩
  · go_enter Try.func32, Try.ntmps32
    go_wp2_with (go_at_call 54; refine (c_l20Code s e t _ _ _ _ (by assumption) _ (by go_cell) (by go_cell) (by go_cell)).mono ?_; rintro r_ w' ⟨rfl, n, rfl⟩)
    go_returns
    exact ⟨spmV_err h (by decide), by (repeat' (first | (with_reducible exact Below.refl _ _) | (with_reducible assumption) | (with_reducible refine below_drewN ?_ _) | (with_reducible refine Below.drew ?_) | (with_reducible refine Below.alloc ?_ ?_ _) | (with_reducible refine Below.setCell ?_ ?_ _) | go_size))⟩

set_option maxHeartbeats 1000000 in
theorem c_iStrokesPerMinute (s e t pe : Int) (w : World) :
    Calls Try.prog 33 #[.agg #[.int .i64 s, .int .i64 e, .int .i64 t], .int .i64 pe] w fun r w' => r = .returned (spmV 60 s e t pe) ∧ Below w.heap.size w w' := by
  rcases codeT_cases s e t pe with h | h | h
  · obtain ⟨b1, b2, b3, b4, b5⟩ := codeT_ok h
    have b6 := netI_bd b1 b2 b3
    have b7 : 0 ≤ 60 * netI s e pe := by omega
    have b8 := b4.1
    have hw : IntKind.i64.wrap (60 * netI s e pe) = 60 * netI s e pe := IntWalk.i64_in _ (by omega)
    go_enter Try.func33, Try.ntmps33
    go_wp2_with (go_at_call 58; refine (c_trialCode _ _ _ _ _ (by assumption) _).mono ?_; rintro r_ w' ⟨rfl, rfl⟩)
    refine wp_region_below_tail 7 (by kernel_rfl) (by kernel_rfl) ?_
    simp only [List.take_succ_cons, List.take_zero, List.drop_succ_cons, List.drop_zero]
    repeat (go_big_quiet_step ((first | (go_at_call 57; refine qBg (c_net _ _ _ _ _ (by assumption) (by assumption) (by assumption)) (by simp) ?_; intro w_ h_; first | exact h_ | exact h_.below | (subst h_; exact Below.refl _ _) | (subst h_; (repeat' (first | (with_reducible exact Below.refl _ _) | (with_reducible assumption) | (with_reducible refine below_drewN ?_ _) | (with_reducible refine Below.drew ?_) | (with_reducible refine Below.alloc ?_ ?_ _) | (with_reducible refine Below.setCell ?_ ?_ _) | go_size))) | (obtain ⟨n_, rfl⟩ := h_; (repeat' (first | (with_reducible exact Below.refl _ _) | (with_reducible assumption) | (with_reducible refine below_drewN ?_ _) | (with_reducible refine Below.drew ?_) | (with_reducible refine Below.alloc ?_ ?_ _) | (with_reducible refine Below.setCell ?_ ?_ _) | go_size)))) | (go_at_call 63; refine qBg (c_lowest _ _ _ (by assumption) (by omega) (by assumption) (by omega)) (by simp) ?_; intro w_ h_; first | exact h_ | exact h_.below | (subst h_; exact Below.refl _ _) | (subst h_; (repeat' (first | (with_reducible exact Below.refl _ _) | (with_reducible assumption) | (with_reducible refine below_drewN ?_ _) | (with_reducible refine Below.drew ?_) | (with_reducible refine Below.alloc ?_ ?_ _) | (with_reducible refine Below.setCell ?_ ?_ _) | go_size))) | (obtain ⟨n_, rfl⟩ := h_; (repeat' (first | (with_reducible exact Below.refl _ _) | (with_reducible assumption) | (with_reducible refine below_drewN ?_ _) | (with_reducible refine Below.drew ?_) | (with_reducible refine Below.alloc ?_ ?_ _) | (with_reducible refine Below.setCell ?_ ?_ _) | go_size)))))))
    refine wpQuiet_nil ?_
    intro _ hw'
    obtain ⟨⟨w9, hb9⟩, hw''⟩ := hw'
    subst hw''
    have k9_1_0 := hb9.cell (p := ⟨w.heap.size + 1, 0, none⟩) (by simp)
    simp [go_sem] at k9_1_0
    have k9_1_0f := hb9.frozen (p := ⟨w.heap.size + 1, 0, none⟩) (by simp)
    simp [go_sem] at k9_1_0f
    have k9_1_1 := hb9.cell (p := ⟨w.heap.size + 1, 1, none⟩) (by simp)
    simp [go_sem] at k9_1_1
    have k9_1_1f := hb9.frozen (p := ⟨w.heap.size + 1, 1, none⟩) (by simp)
    simp [go_sem] at k9_1_1f
    have hB := later hb9 (w := w) (by (repeat' (first | (with_reducible exact Below.refl _ _) | (with_reducible assumption) | (with_reducible refine below_drewN ?_ _) | (with_reducible refine Below.drew ?_) | (with_reducible refine Below.alloc ?_ ?_ _) | (with_reducible refine Below.setCell ?_ ?_ _) | go_size)))
    go_wp2_with fail
    refine bodyPost_ret (by simp [results, Try.results33, go_sem, *]; try rfl) rfl ?_
    exact ⟨spmV_ok h, by (repeat' (first | (with_reducible exact Below.refl _ _) | (with_reducible assumption) | (with_reducible refine below_drewN ?_ _) | (with_reducible refine Below.drew ?_) | (with_reducible refine Below.alloc ?_ ?_ _) | (with_reducible refine Below.setCell ?_ ?_ _) | go_size))⟩
  · go_enter Try.func33, Try.ntmps33
    go_wp2_with (go_at_call 58; refine (c_trialCode _ _ _ _ _ (by assumption) _).mono ?_; rintro r_ w' ⟨rfl, rfl⟩)
    go_returns
    exact ⟨spmV_err h (by decide), by (repeat' (first | (with_reducible exact Below.refl _ _) | (with_reducible assumption) | (with_reducible refine below_drewN ?_ _) | (with_reducible refine Below.drew ?_) | (with_reducible refine Below.alloc ?_ ?_ _) | (with_reducible refine Below.setCell ?_ ?_ _) | go_size))⟩
  · go_enter Try.func33, Try.ntmps33
    go_wp2_with (go_at_call 58; refine (c_trialCode _ _ _ _ _ (by assumption) _).mono ?_; rintro r_ w' ⟨rfl, rfl⟩)
    go_returns
    exact ⟨spmV_err h (by decide), by (repeat' (first | (with_reducible exact Below.refl _ _) | (with_reducible assumption) | (with_reducible refine below_drewN ?_ _) | (with_reducible refine Below.drew ?_) | (with_reducible refine Below.alloc ?_ ?_ _) | (with_reducible refine Below.setCell ?_ ?_ _) | go_size))⟩

set_option maxHeartbeats 1000000 in
theorem c_sWordsPerMinute (s e t pe : Int) (w : World) :
    Calls Try.prog 34 #[.agg #[.int .i64 s, .int .i64 e, .int .i64 t], .int .i64 pe] w fun r w' => r = .returned (spmV 12 s e t pe) ∧ Below w.heap.size w w' := by
  rcases codeT_cases s e t pe with h | h | h
  · obtain ⟨b1, b2, b3, b4, b5⟩ := codeT_ok h
    have b6 := netI_bd b1 b2 b3
    have b7 : 0 ≤ 12 * netI s e pe := by omega
    have b8 := b4.1
    have hw : IntKind.i64.wrap (12 * netI s e pe) = 12 * netI s e pe := IntWalk.i64_in _ (by omega)
    go_enter Try.func34, Try.ntmps34
    go_wp2_with (go_at_call 54; refine (c_l20Code s e t _ _ _ _ (by assumption) _ (by go_cell) (by go_cell) (by go_cell)).mono ?_; rintro r_ w' ⟨rfl, n, rfl⟩)
    refine wp_region_below_tail 6 (by kernel_rfl) (by kernel_rfl) ?_
    simp only [List.take_succ_cons, List.take_zero, List.drop_succ_cons, List.drop_zero]
    repeat (go_big_quiet_step ((first | (go_at_call 55; refine qBg (c_l20Net s e _ _ _ _ (by assumption) (by assumption) (by assumption) (by go_cell) (by go_cell)) (by simp) ?_; intro w_ h_; first | exact h_ | exact h_.below | (subst h_; exact Below.refl _ _) | (subst h_; (repeat' (first | (with_reducible exact Below.refl _ _) | (with_reducible assumption) | (with_reducible refine below_drewN ?_ _) | (with_reducible refine Below.drew ?_) | (with_reducible refine Below.alloc ?_ ?_ _) | (with_reducible refine Below.setCell ?_ ?_ _) | go_size))) | (obtain ⟨n_, rfl⟩ := h_; (repeat' (first | (with_reducible exact Below.refl _ _) | (with_reducible assumption) | (with_reducible refine below_drewN ?_ _) | (with_reducible refine Below.drew ?_) | (with_reducible refine Below.alloc ?_ ?_ _) | (with_reducible refine Below.setCell ?_ ?_ _) | go_size)))) | (go_at_call 62; refine qBg (c_l02Make _ _ _ (by assumption) (by omega) (by assumption) (by omega)) (by simp) ?_; intro w_ h_; first | exact h_ | exact h_.below | (subst h_; exact Below.refl _ _) | (subst h_; (repeat' (first | (with_reducible exact Below.refl _ _) | (with_reducible assumption) | (with_reducible refine below_drewN ?_ _) | (with_reducible refine Below.drew ?_) | (with_reducible refine Below.alloc ?_ ?_ _) | (with_reducible refine Below.setCell ?_ ?_ _) | go_size))) | (obtain ⟨n_, rfl⟩ := h_; (repeat' (first | (with_reducible exact Below.refl _ _) | (with_reducible assumption) | (with_reducible refine below_drewN ?_ _) | (with_reducible refine Below.drew ?_) | (with_reducible refine Below.alloc ?_ ?_ _) | (with_reducible refine Below.setCell ?_ ?_ _) | go_size)))))))
    refine wpQuiet_nil ?_
    intro _ hw'
    obtain ⟨⟨w9, hb9⟩, hw''⟩ := hw'
    subst hw''
    have k9_1_0 := hb9.cell (p := ⟨w.heap.size + 1, 0, none⟩) (by simp)
    simp [go_sem] at k9_1_0
    have k9_1_0f := hb9.frozen (p := ⟨w.heap.size + 1, 0, none⟩) (by simp)
    simp [go_sem] at k9_1_0f
    have k9_1_1 := hb9.cell (p := ⟨w.heap.size + 1, 1, none⟩) (by simp)
    simp [go_sem] at k9_1_1
    have k9_1_1f := hb9.frozen (p := ⟨w.heap.size + 1, 1, none⟩) (by simp)
    simp [go_sem] at k9_1_1f
    have hB := later hb9 (w := w) (by (repeat' (first | (with_reducible exact Below.refl _ _) | (with_reducible assumption) | (with_reducible refine below_drewN ?_ _) | (with_reducible refine Below.drew ?_) | (with_reducible refine Below.alloc ?_ ?_ _) | (with_reducible refine Below.setCell ?_ ?_ _) | go_size)))
    go_wp2_with fail
    refine bodyPost_ret (by simp [results, Try.results34, go_sem, *]; try rfl) rfl ?_
    exact ⟨spmV_ok h, by (repeat' (first | (with_reducible exact Below.refl _ _) | (with_reducible assumption) | (with_reducible refine below_drewN ?_ _) | (with_reducible refine Below.drew ?_) | (with_reducible refine Below.alloc ?_ ?_ _) | (with_reducible refine Below.setCell ?_ ?_ _) | go_size))⟩
  · go_enter Try.func34, Try.ntmps34
    go_wp2_with (go_at_call 54; refine (c_l20Code s e t _ _ _ _ (by assumption) _ (by go_cell) (by go_cell) (by go_cell)).mono ?_; rintro r_ w' ⟨rfl, n, rfl⟩)
    go_returns
    exact ⟨spmV_err h (by decide), by (repeat' (first | (with_reducible exact Below.refl _ _) | (with_reducible assumption) | (with_reducible refine below_drewN ?_ _) | (with_reducible refine Below.drew ?_) | (with_reducible refine Below.alloc ?_ ?_ _) | (with_reducible refine Below.setCell ?_ ?_ _) | go_size))⟩
  · go_enter Try.func34, Try.ntmps34
    go_wp2_with (go_at_call 54; refine (c_l20Code s e t _ _ _ _ (by assumption) _ (by go_cell) (by go_cell) (by go_cell)).mono ?_; rintro r_ w' ⟨rfl, n, rfl⟩)
    go_returns
    exact ⟨spmV_err h (by decide), by (repeat' (first | (with_reducible exact Below.refl _ _) | (with_reducible assumption) | (with_reducible refine below_drewN ?_ _) | (with_reducible refine Below.drew ?_) | (with_reducible refine Below.alloc ?_ ?_ _) | (with_reducible refine Below.setCell ?_ ?_ _) | go_size))⟩

set_option maxHeartbeats 1000000 in
theorem c_iWordsPerMinute (s e t pe : Int) (w : World) :
    Calls Try.prog 35 #[.agg #[.int .i64 s, .int .i64 e, .int .i64 t], .int .i64 pe] w fun r w' => r = .returned (spmV 12 s e t pe) ∧ Below w.heap.size w w' := by
  rcases codeT_cases s e t pe with h | h | h
  · obtain ⟨b1, b2, b3, b4, b5⟩ := codeT_ok h
    have b6 := netI_bd b1 b2 b3
    have b7 : 0 ≤ 12 * netI s e pe := by omega
    have b8 := b4.1
    have hw : IntKind.i64.wrap (12 * netI s e pe) = 12 * netI s e pe := IntWalk.i64_in _ (by omega)
    go_enter Try.func35, Try.ntmps35
    go_wp2_with (go_at_call 58; refine (c_trialCode _ _ _ _ _ (by assumption) _).mono ?_; rintro r_ w' ⟨rfl, rfl⟩)
    refine wp_region_below_tail 7 (by kernel_rfl) (by kernel_rfl) ?_
    simp only [List.take_succ_cons, List.take_zero, List.drop_succ_cons, List.drop_zero]
    repeat (go_big_quiet_step ((first | (go_at_call 57; refine qBg (c_net _ _ _ _ _ (by assumption) (by assumption) (by assumption)) (by simp) ?_; intro w_ h_; first | exact h_ | exact h_.below | (subst h_; exact Below.refl _ _) | (subst h_; (repeat' (first | (with_reducible exact Below.refl _ _) | (with_reducible assumption) | (with_reducible refine below_drewN ?_ _) | (with_reducible refine Below.drew ?_) | (with_reducible refine Below.alloc ?_ ?_ _) | (with_reducible refine Below.setCell ?_ ?_ _) | go_size))) | (obtain ⟨n_, rfl⟩ := h_; (repeat' (first | (with_reducible exact Below.refl _ _) | (with_reducible assumption) | (with_reducible refine below_drewN ?_ _) | (with_reducible refine Below.drew ?_) | (with_reducible refine Below.alloc ?_ ?_ _) | (with_reducible refine Below.setCell ?_ ?_ _) | go_size)))) | (go_at_call 63; refine qBg (c_lowest _ _ _ (by assumption) (by omega) (by assumption) (by omega)) (by simp) ?_; intro w_ h_; first | exact h_ | exact h_.below | (subst h_; exact Below.refl _ _) | (subst h_; (repeat' (first | (with_reducible exact Below.refl _ _) | (with_reducible assumption) | (with_reducible refine below_drewN ?_ _) | (with_reducible refine Below.drew ?_) | (with_reducible refine Below.alloc ?_ ?_ _) | (with_reducible refine Below.setCell ?_ ?_ _) | go_size))) | (obtain ⟨n_, rfl⟩ := h_; (repeat' (first | (with_reducible exact Below.refl _ _) | (with_reducible assumption) | (with_reducible refine below_drewN ?_ _) | (with_reducible refine Below.drew ?_) | (with_reducible refine Below.alloc ?_ ?_ _) | (with_reducible refine Below.setCell ?_ ?_ _) | go_size)))))))
    refine wpQuiet_nil ?_
    intro _ hw'
    obtain ⟨⟨w9, hb9⟩, hw''⟩ := hw'
    subst hw''
    have k9_1_0 := hb9.cell (p := ⟨w.heap.size + 1, 0, none⟩) (by simp)
    simp [go_sem] at k9_1_0
    have k9_1_0f := hb9.frozen (p := ⟨w.heap.size + 1, 0, none⟩) (by simp)
    simp [go_sem] at k9_1_0f
    have k9_1_1 := hb9.cell (p := ⟨w.heap.size + 1, 1, none⟩) (by simp)
    simp [go_sem] at k9_1_1
    have k9_1_1f := hb9.frozen (p := ⟨w.heap.size + 1, 1, none⟩) (by simp)
    simp [go_sem] at k9_1_1f
    have hB := later hb9 (w := w) (by (repeat' (first | (with_reducible exact Below.refl _ _) | (with_reducible assumption) | (with_reducible refine below_drewN ?_ _) | (with_reducible refine Below.drew ?_) | (with_reducible refine Below.alloc ?_ ?_ _) | (with_reducible refine Below.setCell ?_ ?_ _) | go_size)))
    go_wp2_with fail
    refine bodyPost_ret (by simp [results, Try.results35, go_sem, *]; try rfl) rfl ?_
    exact ⟨spmV_ok h, by (repeat' (first | (with_reducible exact Below.refl _ _) | (with_reducible assumption) | (with_reducible refine below_drewN ?_ _) | (with_reducible refine Below.drew ?_) | (with_reducible refine Below.alloc ?_ ?_ _) | (with_reducible refine Below.setCell ?_ ?_ _) | go_size))⟩
  · go_enter Try.func35, Try.ntmps35
    go_wp2_with (go_at_call 58; refine (c_trialCode _ _ _ _ _ (by assumption) _).mono ?_; rintro r_ w' ⟨rfl, rfl⟩)
    go_returns
    exact ⟨spmV_err h (by decide), by (repeat' (first | (with_reducible exact Below.refl _ _) | (with_reducible assumption) | (with_reducible refine below_drewN ?_ _) | (with_reducible refine Below.drew ?_) | (with_reducible refine Below.alloc ?_ ?_ _) | (with_reducible refine Below.setCell ?_ ?_ _) | go_size))⟩
  · go_enter Try.func35, Try.ntmps35
    go_wp2_with (go_at_call 58; refine (c_trialCode _ _ _ _ _ (by assumption) _).mono ?_; rintro r_ w' ⟨rfl, rfl⟩)
    go_returns
    exact ⟨spmV_err h (by decide), by (repeat' (first | (with_reducible exact Below.refl _ _) | (with_reducible assumption) | (with_reducible refine below_drewN ?_ _) | (with_reducible refine Below.drew ?_) | (with_reducible refine Below.alloc ?_ ?_ _) | (with_reducible refine Below.setCell ?_ ?_ _) | go_size))⟩

def shareV (s e t : Int) : Value :=
  if vtr s e t then (if s = 0 then .tuple #[.agg #[.int .i64 0, .int .i64 0], .int .i64 3] else .tuple #[.agg #[.int .i64 (lowN (1000 * e) s), .int .i64 (lowD (1000 * e) s)], .int .i64 0])
  else .tuple #[.agg #[.int .i64 0, .int .i64 0], .int .i64 1]
theorem shareV_bad {s e t : Int} (h : vtr s e t = false) : Ending.returned (.tuple #[.agg #[.int .i64 0, .int .i64 0], .int .i64 1]) = .returned (shareV s e t) := by
  rw [shareV, h]; rfl
theorem shareV_zero {s e t : Int} (h : vtr s e t = true) (h0 : s = 0) : Ending.returned (.tuple #[.agg #[.int .i64 0, .int .i64 0], .int .i64 3]) = .returned (shareV s e t) := by
  rw [shareV, if_pos h, if_pos h0]
theorem shareV_ok {s e t : Int} (h : vtr s e t = true) (h0 : s ≠ 0) : Ending.returned (.tuple #[.agg #[.int .i64 (lowN (1000 * e) s), .int .i64 (lowD (1000 * e) s)], .int .i64 0]) = .returned (shareV s e t) := by
  rw [shareV, if_pos h, if_neg h0]

set_option maxHeartbeats 1000000 in
theorem c_sErrorShare (s e t : Int) (w : World) :
    Calls Try.prog 29 #[.agg #[.int .i64 s, .int .i64 e, .int .i64 t]] w fun r w' => r = .returned (shareV s e t) ∧ Below w.heap.size w w' := by
  cases h : vtr s e t
  · go_enter Try.func29, Try.ntmps29
    go_wp2_with (go_at_call 61; refine (c_l20One s e t _ _ _ (by assumption) _ (by go_cell) (by go_cell) (by go_cell)).mono ?_; rintro r_ w' ⟨rfl, n, rfl⟩)
    go_returns
    exact ⟨shareV_bad h, by (repeat' (first | (with_reducible exact Below.refl _ _) | (with_reducible assumption) | (with_reducible refine below_drewN ?_ _) | (with_reducible refine Below.drew ?_) | (with_reducible refine Below.alloc ?_ ?_ _) | (with_reducible refine Below.setCell ?_ ?_ _) | go_size))⟩
  · obtain ⟨b1, b2, b3, b4, b5, b6⟩ := vtr_bounds h
    by_cases h0 : s = 0
    · have h1 : (s == 0) = true := by simp [h0]
      have H := Lib.hid h0
      clear h0
      go_enter Try.func29, Try.ntmps29
      go_wp2_with (go_at_call 61; refine (c_l20One s e t _ _ _ (by assumption) _ (by go_cell) (by go_cell) (by go_cell)).mono ?_; rintro r_ w' ⟨rfl, n, rfl⟩)
      go_returns
      exact ⟨shareV_zero h H.out, by (repeat' (first | (with_reducible exact Below.refl _ _) | (with_reducible assumption) | (with_reducible refine below_drewN ?_ _) | (with_reducible refine Below.drew ?_) | (with_reducible refine Below.alloc ?_ ?_ _) | (with_reducible refine Below.setCell ?_ ?_ _) | go_size))⟩
    · have h1 : (s == 0) = false := by simp [h0]
      have c1 : 1 ≤ s := by omega
      have c2 : 0 ≤ 1000 * e := by omega
      go_enter Try.func29, Try.ntmps29
      go_wp2_with (first | (go_at_call 61; refine (c_l20One s e t _ _ _ (by assumption) _ (by go_cell) (by go_cell) (by go_cell)).mono ?_; rintro r_ w' ⟨rfl, n, rfl⟩) | (go_at_call 62; refine (c_l02Make _ _ _ (by assumption) (by omega) (by assumption) (by omega)).mono ?_; rintro r_ w' ⟨rfl, n3, rfl⟩))
      all_goals
        go_returns
        exact ⟨shareV_ok h h0, by (repeat' (first | (with_reducible exact Below.refl _ _) | (with_reducible assumption) | (with_reducible refine below_drewN ?_ _) | (with_reducible refine Below.drew ?_) | (with_reducible refine Below.alloc ?_ ?_ _) | (with_reducible refine Below.setCell ?_ ?_ _) | go_size))⟩

set_option maxHeartbeats 1000000 in
theorem c_iErrorShare (s e t : Int) (w : World) :
    Calls Try.prog 30 #[.agg #[.int .i64 s, .int .i64 e, .int .i64 t]] w fun r w' => r = .returned (shareV s e t) ∧ Below w.heap.size w w' := by
  cases h : vtr s e t
  · go_enter Try.func30, Try.ntmps30
    go_wp2_with (go_at_call 56; refine (c_validTrial _ _ _ _ (by assumption) _).mono ?_; rintro r_ w' ⟨rfl, rfl⟩)
    go_returns
    exact ⟨shareV_bad h, by (repeat' (first | (with_reducible exact Below.refl _ _) | (with_reducible assumption) | (with_reducible refine below_drewN ?_ _) | (with_reducible refine Below.drew ?_) | (with_reducible refine Below.alloc ?_ ?_ _) | (with_reducible refine Below.setCell ?_ ?_ _) | go_size))⟩
  · obtain ⟨b1, b2, b3, b4, b5, b6⟩ := vtr_bounds h
    by_cases h0 : s = 0
    · have h1 : (s == 0) = true := by simp [h0]
      have H := Lib.hid h0
      clear h0
      go_enter Try.func30, Try.ntmps30
      go_wp2_with (go_at_call 56; refine (c_validTrial _ _ _ _ (by assumption) _).mono ?_; rintro r_ w' ⟨rfl, rfl⟩)
      go_returns
      exact ⟨shareV_zero h H.out, by (repeat' (first | (with_reducible exact Below.refl _ _) | (with_reducible assumption) | (with_reducible refine below_drewN ?_ _) | (with_reducible refine Below.drew ?_) | (with_reducible refine Below.alloc ?_ ?_ _) | (with_reducible refine Below.setCell ?_ ?_ _) | go_size))⟩
    · have h1 : (s == 0) = false := by simp [h0]
      have c1 : 1 ≤ s := by omega
      have c2 : 0 ≤ 1000 * e := by omega
      go_enter Try.func30, Try.ntmps30
      go_wp2_with (first | (go_at_call 56; refine (c_validTrial _ _ _ _ (by assumption) _).mono ?_; rintro r_ w' ⟨rfl, rfl⟩) | (go_at_call 63; refine (c_lowest _ _ _ (by assumption) (by omega) (by assumption) (by omega)).mono ?_; rintro r_ w' ⟨rfl, n3, rfl⟩))
      all_goals
        go_returns
        exact ⟨shareV_ok h h0, by (repeat' (first | (with_reducible exact Below.refl _ _) | (with_reducible assumption) | (with_reducible refine below_drewN ?_ _) | (with_reducible refine Below.drew ?_) | (with_reducible refine Below.alloc ?_ ?_ _) | (with_reducible refine Below.setCell ?_ ?_ _) | go_size))⟩

set_option maxHeartbeats 400000 in
theorem c_toTrial (s e t : Int) (w : World) :
    Calls Try.prog 18 #[.agg #[.int .i64 s, .int .i64 e, .int .i64 t]] w fun r w' => r = .returned (.agg #[.int .i64 s, .int .i64 e, .int .i64 t]) ∧ w' = ((w.alloc (.cells #[.int .i64 s, .int .i64 e, .int .i64 t] 26)).alloc (.cells #[.int .i64 s, .int .i64 e, .int .i64 t] 29)).alloc (.cells #[.int .i64 s, .int .i64 e, .int .i64 t] 29) := by
  go_enter Try.func18, Try.ntmps18
  go_wp2_with fail
  go_returns
  exact ⟨rfl, rfl⟩

set_option maxHeartbeats 400000 in
theorem c_eqFraction (a b : Int) (w : World) :
    Calls Try.prog 31 #[.agg #[.int .i64 a, .int .i64 b], .agg #[.int .i64 a, .int .i64 b]] w fun r w' => r = .returned (.bool true) ∧ Below w.heap.size w w' := by
  go_enter Try.func31, Try.ntmps31
  go_wp2_with fail
  go_returns
  exact ⟨rfl, by (repeat' (first | (with_reducible exact Below.refl _ _) | (with_reducible assumption) | (with_reducible refine below_drewN ?_ _) | (with_reducible refine Below.drew ?_) | (with_reducible refine Below.alloc ?_ ?_ _) | (with_reducible refine Below.setCell ?_ ?_ _) | go_size))⟩
end Go.Proofs.Ytldhhbnochlmlaa
