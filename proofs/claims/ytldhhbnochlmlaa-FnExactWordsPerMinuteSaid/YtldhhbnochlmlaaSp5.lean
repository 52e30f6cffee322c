/- Contracts: a passed test. -/
import Derived.Test.YtldhhbnochlmlaaSp4
namespace Go.Proofs.Ytldhhbnochlmlaa
open Go.RowKit Go.BigFrame
attribute [local go_sem] sub_cell sub_frozen drewN_setCell

def passB (s e t pe wo pm : Int) : Bool := decide (wo * t ≤ 12 * netI s e pe) && decide (1000 * e ≤ pm * s)
def passV (s e t pe wo pm : Int) : Value :=
  if codeT s e t pe = 0 then (if betw wo 0 1000 && betw pm 0 1000 then .tuple #[.bool (passB s e t pe wo pm), .int .i64 0] else .tuple #[.bool false, .int .i64 2])
  else .tuple #[.bool false, .int .i64 (codeT s e t pe)]
theorem netV_form (s e t pe : Int) : ∃ x y, netV s e t pe = .tuple #[.int .i64 x, .int .i64 y] := by
  unfold netV
  split <;> exact ⟨_, _, rfl⟩
theorem shareV_form (s e t : Int) : ∃ x y z, shareV s e t = .tuple #[.agg #[.int .i64 x, .int .i64 y], .int .i64 z] := by
  unfold shareV
  split
  · split <;> exact ⟨_, _, _, rfl⟩
  · exact ⟨_, _, _, rfl⟩
theorem spmV_form (k s e t pe : Int) : ∃ x y z, spmV k s e t pe = .tuple #[.agg #[.int .i64 x, .int .i64 y], .int .i64 z] := by
  unfold spmV
  split <;> exact ⟨_, _, _, rfl⟩
theorem passV_form (a b c d e f : Int) : ∃ x y, passV a b c d e f = .tuple #[.bool x, .int .i64 y] := by
  unfold passV
  split
  · split <;> exact ⟨_, _, rfl⟩
  · exact ⟨_, _, rfl⟩
theorem passV_err {s e t pe wo pm c : Int} (h : codeT s e t pe = c) (hc : c ≠ 0) : Ending.returned (.tuple #[.bool false, .int .i64 c]) = .returned (passV s e t pe wo pm) := by
  rw [passV, h, if_neg hc]
theorem passV_rng {s e t pe wo pm : Int} (h : codeT s e t pe = 0) (hr : ¬ (betw wo 0 1000 && betw pm 0 1000) = true) : Ending.returned (.tuple #[.bool false, .int .i64 2]) = .returned (passV s e t pe wo pm) := by
  rw [passV, if_pos h, if_neg hr]
theorem passV_ok {s e t pe wo pm : Int} {r : Bool} (h : codeT s e t pe = 0) (hr : (betw wo 0 1000 && betw pm 0 1000) = true) (hp : r = passB s e t pe wo pm) : Ending.returned (.tuple #[.bool r, .int .i64 0]) = .returned (passV s e t pe wo pm) := by
  rw [passV, if_pos h, if_pos hr, hp]

set_option maxHeartbeats 2000000 in
theorem c_sPassesTest (s e t pe wo pm : Int) (w : World) :
    Calls Try.prog 17 #[.agg #[.int .i64 s, .int .i64 e, .int .i64 t], .int .i64 pe, .int .i64 wo, .int .i64 pm] w fun r w' => r = .returned (passV s e t pe wo pm) ∧ Below w.heap.size w w' := by
  rcases codeT_cases s e t pe with h | h | h
  · by_cases hg : (betw wo 0 1000 && betw pm 0 1000) = true
    · have HG := Lib.hid hg
      simp only [Bool.and_eq_true] at hg
      obtain ⟨g1, g2⟩ := hg
      obtain ⟨b1, b2, b3, b4, b5⟩ := codeT_ok h
      have b6 := netI_bd b1 b2 b3
      have m1 := betw_true g1
      have m2 := betw_true g2
      have m3 := mul_bd m1.1 m1.2 (b := t) (by omega) b4.2
      have m4 := mul_bd m2.1 m2.2 b1.1 b1.2
      by_cases k1 : wo * t ≤ 12 * netI s e pe
      · have j1 : decide (wo * t ≤ 12 * netI s e pe) = true := by simpa using k1
        have hw1 : IntKind.i64.wrap (12 * netI s e pe) = 12 * netI s e pe := IntWalk.i64_in _ (by omega)
        have hw2 : IntKind.i64.wrap (wo * t) = wo * t := IntWalk.i64_in _ (by omega)
        have hw3 : IntKind.i64.wrap (1000 * e) = 1000 * e := IntWalk.i64_in _ (by omega)
        have hw4 : IntKind.i64.wrap (pm * s) = pm * s := IntWalk.i64_in _ (by omega)
        go_enter Try.func17, Try.ntmps17
        go_wp2_with (first | (go_at_call 54; refine (c_l20Code s e t _ _ _ _ (by assumption) _ (by go_cell) (by go_cell) (by go_cell)).mono ?_; rintro r_ w' ⟨rfl, n, rfl⟩) | (go_at_call 48; refine (c_l00In _ _ _ _ (by assumption) _).mono ?_; rintro e w' ⟨rfl, rfl⟩))
        go_quiet ((go_at_call 55; exact d1 (c_l20Net s e _ _ _ _ (by assumption) (by assumption) (by assumption) (by go_cell) (by go_cell))))
        go_wp2_with fail
        go_returns
        exact ⟨passV_ok h HG.out (by simp only [passB, j1, Bool.false_and, Bool.true_and]), by (repeat' (first | (with_reducible exact Below.refl _ _) | (with_reducible assumption) | (with_reducible refine below_drewN ?_ _) | (with_reducible refine Below.drew ?_) | (with_reducible refine Below.alloc ?_ ?_ _) | (with_reducible refine Below.setCell ?_ ?_ _) | go_size))⟩
      · have j1 : decide (wo * t ≤ 12 * netI s e pe) = false := by simpa using k1
        have hw1 : IntKind.i64.wrap (12 * netI s e pe) = 12 * netI s e pe := IntWalk.i64_in _ (by omega)
        have hw2 : IntKind.i64.wrap (wo * t) = wo * t := IntWalk.i64_in _ (by omega)
        go_enter Try.func17, Try.ntmps17
        go_wp2_with (first | (go_at_call 54; refine (c_l20Code s e t _ _ _ _ (by assumption) _ (by go_cell) (by go_cell) (by go_cell)).mono ?_; rintro r_ w' ⟨rfl, n, rfl⟩) | (go_at_call 48; refine (c_l00In _ _ _ _ (by assumption) _).mono ?_; rintro e w' ⟨rfl, rfl⟩))
        go_quiet ((go_at_call 55; exact d1 (c_l20Net s e _ _ _ _ (by assumption) (by assumption) (by assumption) (by go_cell) (by go_cell))))
        go_wp2_with fail
        go_returns
        exact ⟨passV_ok h HG.out (by simp only [passB, j1, Bool.false_and, Bool.true_and]), by (repeat' (first | (with_reducible exact Below.refl _ _) | (with_reducible assumption) | (with_reducible refine below_drewN ?_ _) | (with_reducible refine Below.drew ?_) | (with_reducible refine Below.alloc ?_ ?_ _) | (with_reducible refine Below.setCell ?_ ?_ _) | go_size))⟩
    · have HG := Lib.hid hg
      cases g1 : betw wo 0 1000
      · clear hg
        go_enter Try.func17, Try.ntmps17
        go_wp2_with (first | (go_at_call 54; refine (c_l20Code s e t _ _ _ _ (by assumption) _ (by go_cell) (by go_cell) (by go_cell)).mono ?_; rintro r_ w' ⟨rfl, n, rfl⟩) | (go_at_call 48; refine (c_l00In _ _ _ _ (by assumption) _).mono ?_; rintro e w' ⟨rfl, rfl⟩))
        go_returns
        exact ⟨passV_rng h HG.out, by (repeat' (first | (with_reducible exact Below.refl _ _) | (with_reducible assumption) | (with_reducible refine below_drewN ?_ _) | (with_reducible refine Below.drew ?_) | (with_reducible refine Below.alloc ?_ ?_ _) | (with_reducible refine Below.setCell ?_ ?_ _) | go_size))⟩
      cases g2 : betw pm 0 1000
      · clear hg
        go_enter Try.func17, Try.ntmps17
        go_wp2_with (first | (go_at_call 54; refine (c_l20Code s e t _ _ _ _ (by assumption) _ (by go_cell) (by go_cell) (by go_cell)).mono ?_; rintro r_ w' ⟨rfl, n, rfl⟩) | (go_at_call 48; refine (c_l00In _ _ _ _ (by assumption) _).mono ?_; rintro e w' ⟨rfl, rfl⟩))
        go_returns
        exact ⟨passV_rng h HG.out, by (repeat' (first | (with_reducible exact Below.refl _ _) | (with_reducible assumption) | (with_reducible refine below_drewN ?_ _) | (with_reducible refine Below.drew ?_) | (with_reducible refine Below.alloc ?_ ?_ _) | (with_reducible refine Below.setCell ?_ ?_ _) | go_size))⟩
      exact absurd (by simp [g1, g2]) hg
  · go_enter Try.func17, Try.ntmps17
    go_wp2_with (go_at_call 54; refine (c_l20Code s e t _ _ _ _ (by assumption) _ (by go_cell) (by go_cell) (by go_cell)).mono ?_; rintro r_ w' ⟨rfl, n, rfl⟩)
    go_returns
    exact ⟨passV_err h (by decide), by (repeat' (first | (with_reducible exact Below.refl _ _) | (with_reducible assumption) | (with_reducible refine below_drewN ?_ _) | (with_reducible refine Below.drew ?_) | (with_reducible refine Below.alloc ?_ ?_ _) | (with_reducible refine Below.setCell ?_ ?_ _) | go_size))⟩
  · go_enter Try.func17, Try.ntmps17
    go_wp2_with (go_at_call 54; refine (c_l20Code s e t _ _ _ _ (by assumption) _ (by go_cell) (by go_cell) (by go_cell)).mono ?_; rintro r_ w' ⟨rfl, n, rfl⟩)
    go_returns
    exact ⟨passV_err h (by decide), by (repeat' (first | (with_reducible exact Below.refl _ _) | (with_reducible assumption) | (with_reducible refine below_drewN ?_ _) | (with_reducible refine Below.drew ?_) | (with_reducible refine Below.alloc ?_ ?_ _) | (with_reducible refine Below.setCell ?_ ?_ _) | go_size))⟩

theorem codeT_one {s e t pe : Int} (h : codeT s e t pe = 1) : vtr s e t = false := by
  unfold codeT at h
  cases g1 : vtr s e t <;> cases g2 : betw pe 0 50 <;> simp [g1, g2] at h ⊢
theorem codeT_two {s e t pe : Int} (h : codeT s e t pe = 2) : vtr s e t = true ∧ betw pe 0 50 = false := by
  unfold codeT at h
  cases g1 : vtr s e t <;> cases g2 : betw pe 0 50 <;> simp [g1, g2] at h ⊢
theorem codeT_zero {s e t pe : Int} (h : codeT s e t pe = 0) : vtr s e t = true ∧ betw pe 0 50 = true := by
  unfold codeT at h
  cases g1 : vtr s e t <;> cases g2 : betw pe 0 50 <;> simp [g1, g2] at h ⊢

set_option maxHeartbeats 2000000 in
theorem c_iPassesTest (s e t pe wo pm : Int) (w : World) :
    Calls Try.prog 19 #[.agg #[.int .i64 s, .int .i64 e, .int .i64 t], .int .i64 pe, .int .i64 wo, .int .i64 pm] w fun r w' => r = .returned (passV s e t pe wo pm) ∧ Below w.heap.size w w' := by
  rcases codeT_cases s e t pe with h | h | h
  · have H := Lib.hid h
    obtain ⟨v1, v2⟩ := codeT_zero h
    by_cases hg : (betw wo 0 1000 && betw pm 0 1000) = true
    · have HG := Lib.hid hg
      simp only [Bool.and_eq_true] at hg
      obtain ⟨g1, g2⟩ := hg
      obtain ⟨b1, b2, b3, b4, b5⟩ := codeT_ok h
      clear h
      have b6 := netI_bd b1 b2 b3
      have m1 := betw_true g1
      have m2 := betw_true g2
      have m3 := mul_bd m1.1 m1.2 (b := t) (by omega) b4.2
      have m4 := mul_bd m2.1 m2.2 b1.1 b1.2
      by_cases k1 : wo * t ≤ 12 * netI s e pe
      · have j1 : decide (wo * t ≤ 12 * netI s e pe) = true := by simpa using k1
        have hw1 : IntKind.i64.wrap (12 * netI s e pe) = 12 * netI s e pe := IntWalk.i64_in _ (by omega)
        have hw2 : IntKind.i64.wrap (wo * t) = wo * t := IntWalk.i64_in _ (by omega)
        have hw3 : IntKind.i64.wrap (1000 * e) = 1000 * e := IntWalk.i64_in _ (by omega)
        have hw4 : IntKind.i64.wrap (pm * s) = pm * s := IntWalk.i64_in _ (by omega)
        go_enter Try.func19, Try.ntmps19
        go_wp2_with (first | (go_at_call 56; refine (c_validTrial _ _ _ _ (by assumption) _).mono ?_; rintro r_ w' ⟨rfl, rfl⟩) | (go_at_call 51; refine (c_isPenalty _ _ (by assumption) _).mono ?_; rintro e w' ⟨rfl, rfl⟩) | (go_at_call 52; refine (c_isThousand _ _ (by assumption) _).mono ?_; rintro e w' ⟨rfl, rfl⟩))
        refine wp_region_below (by kernel_rfl) (by kernel_rfl) ?_
        repeat (go_big_quiet_step ((go_at_call 57; refine qBg (c_net _ _ _ _ _ (by assumption) (by assumption) (by assumption)) (by simp) ?_; intro w_ h_; first | exact h_ | exact h_.below | (subst h_; exact Below.refl _ _) | (subst h_; (repeat' (first | (with_reducible exact Below.refl _ _) | (with_reducible assumption) | (with_reducible refine below_drewN ?_ _) | (with_reducible refine Below.drew ?_) | (with_reducible refine Below.alloc ?_ ?_ _) | (with_reducible refine Below.setCell ?_ ?_ _) | go_size))) | (obtain ⟨n_, rfl⟩ := h_; (repeat' (first | (with_reducible exact Below.refl _ _) | (with_reducible assumption) | (with_reducible refine below_drewN ?_ _) | (with_reducible refine Below.drew ?_) | (with_reducible refine Below.alloc ?_ ?_ _) | (with_reducible refine Below.setCell ?_ ?_ _) | go_size))))))
        refine wpQuiet_nil ?_
        intro _ hw'
        obtain ⟨⟨w9, hb9⟩, hw''⟩ := hw'
        subst hw''
        have hB := later hb9 (w := w) (by (repeat' (first | (with_reducible exact Below.refl _ _) | (with_reducible assumption) | (with_reducible refine below_drewN ?_ _) | (with_reducible refine Below.drew ?_) | (with_reducible refine Below.alloc ?_ ?_ _) | (with_reducible refine Below.setCell ?_ ?_ _) | go_size)))
        go_wp2_with fail
        go_returns
        exact ⟨passV_ok H.out HG.out (by simp only [passB, j1, Bool.false_and, Bool.true_and]), by (repeat' (first | (with_reducible exact Below.refl _ _) | (with_reducible assumption) | (with_reducible refine below_drewN ?_ _) | (with_reducible refine Below.drew ?_) | (with_reducible refine Below.alloc ?_ ?_ _) | (with_reducible refine Below.setCell ?_ ?_ _) | go_size))⟩
      · have j1 : decide (wo * t ≤ 12 * netI s e pe) = false := by simpa using k1
        have hw1 : IntKind.i64.wrap (12 * netI s e pe) = 12 * netI s e pe := IntWalk.i64_in _ (by omega)
        have hw2 : IntKind.i64.wrap (wo * t) = wo * t := IntWalk.i64_in _ (by omega)
        clear k1
        go_enter Try.func19, Try.ntmps19
        go_wp2_with (first | (go_at_call 56; refine (c_validTrial _ _ _ _ (by assumption) _).mono ?_; rintro r_ w' ⟨rfl, rfl⟩) | (go_at_call 51; refine (c_isPenalty _ _ (by assumption) _).mono ?_; rintro e w' ⟨rfl, rfl⟩) | (go_at_call 52; refine (c_isThousand _ _ (by assumption) _).mono ?_; rintro e w' ⟨rfl, rfl⟩))
        refine wp_region_below (by kernel_rfl) (by kernel_rfl) ?_
        repeat (go_big_quiet_step ((go_at_call 57; refine qBg (c_net _ _ _ _ _ (by assumption) (by assumption) (by assumption)) (by simp) ?_; intro w_ h_; first | exact h_ | exact h_.below | (subst h_; exact Below.refl _ _) | (subst h_; (repeat' (first | (with_reducible exact Below.refl _ _) | (with_reducible assumption) | (with_reducible refine below_drewN ?_ _) | (with_reducible refine Below.drew ?_) | (with_reducible refine Below.alloc ?_ ?_ _) | (with_reducible refine Below.setCell ?_ ?_ _) | go_size))) | (obtain ⟨n_, rfl⟩ := h_; (repeat' (first | (with_reducible exact Below.refl _ _) | (with_reducible assumption) | (with_reducible refine below_drewN ?_ _) | (with_reducible refine Below.drew ?_) | (with_reducible refine Below.alloc ?_ ?_ _) | (with_reducible refine Below.setCell ?_ ?_ _) | go_size))))))
        refine wpQuiet_nil ?_
        intro _ hw'
        obtain ⟨⟨w9, hb9⟩, hw''⟩ := hw'
        subst hw''
        have hB := later hb9 (w := w) (by (repeat' (first | (with_reducible exact Below.refl _ _) | (with_reducible assumption) | (with_reducible refine below_drewN ?_ _) | (with_reducible refine Below.drew ?_) | (with_reducible refine Below.alloc ?_ ?_ _) | (with_reducible refine Below.setCell ?_ ?_ _) | go_size)))
        go_wp2_with fail
        go_returns
        exact ⟨passV_ok H.out HG.out (by simp only [passB, j1, Bool.false_and, Bool.true_and]), by (repeat' (first | (with_reducible exact Below.refl _ _) | (with_reducible assumption) | (with_reducible refine below_drewN ?_ _) | (with_reducible refine Below.drew ?_) | (with_reducible refine Below.alloc ?_ ?_ _) | (with_reducible refine Below.setCell ?_ ?_ _) | go_size))⟩
    · have HG := Lib.hid hg
      clear h
      cases g1 : betw wo 0 1000
      · clear hg
        go_enter Try.func19, Try.ntmps19
        go_wp2_with (first | (go_at_call 56; refine (c_validTrial _ _ _ _ (by assumption) _).mono ?_; rintro r_ w' ⟨rfl, rfl⟩) | (go_at_call 51; refine (c_isPenalty _ _ (by assumption) _).mono ?_; rintro e w' ⟨rfl, rfl⟩) | (go_at_call 52; refine (c_isThousand _ _ (by assumption) _).mono ?_; rintro e w' ⟨rfl, rfl⟩))
        go_returns
        exact ⟨passV_rng H.out HG.out, by (repeat' (first | (with_reducible exact Below.refl _ _) | (with_reducible assumption) | (with_reducible refine below_drewN ?_ _) | (with_reducible refine Below.drew ?_) | (with_reducible refine Below.alloc ?_ ?_ _) | (with_reducible refine Below.setCell ?_ ?_ _) | go_size))⟩
      cases g2 : betw pm 0 1000
      · clear hg
        go_enter Try.func19, Try.ntmps19
        go_wp2_with (first | (go_at_call 56; refine (c_validTrial _ _ _ _ (by assumption) _).mono ?_; rintro r_ w' ⟨rfl, rfl⟩) | (go_at_call 51; refine (c_isPenalty _ _ (by assumption) _).mono ?_; rintro e w' ⟨rfl, rfl⟩) | (go_at_call 52; refine (c_isThousand _ _ (by assumption) _).mono ?_; rintro e w' ⟨rfl, rfl⟩))
        go_returns
        exact ⟨passV_rng H.out HG.out, by (repeat' (first | (with_reducible exact Below.refl _ _) | (with_reducible assumption) | (with_reducible refine below_drewN ?_ _) | (with_reducible refine Below.drew ?_) | (with_reducible refine Below.alloc ?_ ?_ _) | (with_reducible refine Below.setCell ?_ ?_ _) | go_size))⟩
      exact absurd (by simp [g1, g2]) hg
  · have H := Lib.hid h
    have v1 := codeT_one h
    clear h
    go_enter Try.func19, Try.ntmps19
    go_wp2_with (go_at_call 56; refine (c_validTrial _ _ _ _ (by assumption) _).mono ?_; rintro r_ w' ⟨rfl, rfl⟩)
    go_returns
    exact ⟨passV_err H.out (by decide), by (repeat' (first | (with_reducible exact Below.refl _ _) | (with_reducible assumption) | (with_reducible refine below_drewN ?_ _) | (with_reducible refine Below.drew ?_) | (with_reducible refine Below.alloc ?_ ?_ _) | (with_reducible refine Below.setCell ?_ ?_ _) | go_size))⟩
  · have H := Lib.hid h
    obtain ⟨v1, v2⟩ := codeT_two h
    clear h
    go_enter Try.func19, Try.ntmps19
    go_wp2_with (first | (go_at_call 56; refine (c_validTrial _ _ _ _ (by assumption) _).mono ?_; rintro r_ w' ⟨rfl, rfl⟩) | (go_at_call 51; refine (c_isPenalty _ _ (by assumption) _).mono ?_; rintro e w' ⟨rfl, rfl⟩))
    go_returns
    exact ⟨passV_err H.out (by decide), by (repeat' (first | (with_reducible exact Below.refl _ _) | (with_reducible assumption) | (with_reducible refine below_drewN ?_ _) | (with_reducible refine Below.drew ?_) | (with_reducible refine Below.alloc ?_ ?_ _) | (with_reducible refine Below.setCell ?_ ?_ _) | go_size))⟩
end Go.Proofs.Ytldhhbnochlmlaa
