/- Contracts: the strokes needed; a passed test. -/
import Derived.Test.YtldhhbnochlmlaaSp2
namespace Go.Proofs.Ytldhhbnochlmlaa
open Go.RowKit

def snN (wo er pe se : Int) : Int := mx ((wo * se + 11) / 12 + pe * er) er
def snV (wo er pe se : Int) : Value :=
  if betw wo 0 1000 && (betw er 0 1000 && (betw pe 0 50 && betw se 1 7200)) then
    (if 100000 < snN wo er pe se then .tuple #[.int .i64 0, .int .i64 5] else .tuple #[.int .i64 (snN wo er pe se), .int .i64 0])
  else .tuple #[.int .i64 0, .int .i64 2]

theorem snN_bd {wo er pe se : Int} (g1 : betw wo 0 1000 = true) (g2 : betw er 0 1000 = true) (g3 : betw pe 0 50 = true) (g4 : betw se 1 7200 = true) :
    (0 ≤ wo * se ∧ wo * se ≤ 1000 * 7200) ∧ (0 ≤ pe * er ∧ pe * er ≤ 50 * 1000) := by
  have b1 := betw_true g1
  have b2 := betw_true g2
  have b3 := betw_true g3
  have b4 := betw_true g4
  exact ⟨mul_bd b1.1 b1.2 (by omega) b4.2, mul_bd b3.1 b3.2 b2.1 b2.2⟩

theorem snV_ok {wo er pe se v : Int} (hg : (betw wo 0 1000 && (betw er 0 1000 && (betw pe 0 50 && betw se 1 7200))) = true) (hv : snN wo er pe se = v) (h : v ≤ 100000) :
    Ending.returned (.tuple #[.int .i64 v, .int .i64 0]) = .returned (snV wo er pe se) := by
  rw [snV, if_pos hg, if_neg (by omega), hv]
theorem snV_full {wo er pe se v : Int} (hg : (betw wo 0 1000 && (betw er 0 1000 && (betw pe 0 50 && betw se 1 7200))) = true) (hv : snN wo er pe se = v) (h : 100000 < v) :
    Ending.returned (.tuple #[.int .i64 0, .int .i64 5]) = .returned (snV wo er pe se) := by
  rw [snV, if_pos hg, if_pos (by omega)]

set_option maxHeartbeats 1000000 in
theorem c_sStrokesNeeded (wo er pe se : Int) (w : World) :
    Calls Try.prog 15 #[.int .i64 wo, .int .i64 er, .int .i64 pe, .int .i64 se] w fun r w' => r = .returned (snV wo er pe se) ∧ w = w' := by
  by_cases hg : (betw wo 0 1000 && (betw er 0 1000 && (betw pe 0 50 && betw se 1 7200))) = true
  · have HG := Lib.hid hg
    simp only [Bool.and_eq_true] at hg
    obtain ⟨g1, g2, g3, g4⟩ := hg
    have hb := snN_bd g1 g2 g3 g4
    have b2 := betw_true g2
    go_enter Try.func15, Try.ntmps15
    go_wp2_with (first | (go_at_call 48; refine (c_l00In _ _ _ _ (by assumption) _).mono ?_; rintro e w' ⟨rfl, rfl⟩) | (go_at_call 49; refine (c_l20Penalty _ _ (by assumption) _).mono ?_; rintro e w' ⟨rfl, rfl⟩) | (go_at_call 50; refine (c_l00Max _ _ _).mono ?_; rintro e w' ⟨rfl, rfl⟩))
    · go_returns
      exact ⟨snV_full HG.out rfl (by assumption), rfl⟩
    · go_returns
      exact ⟨snV_ok HG.out rfl (by assumption), rfl⟩
  · have hv : snV wo er pe se = .tuple #[.int .i64 0, .int .i64 2] := by rw [snV, if_neg hg]
    rw [hv]
    cases g1 : betw wo 0 1000
    · go_enter Try.func15, Try.ntmps15
      go_wp2_with (first | (go_at_call 48; refine (c_l00In _ _ _ _ (by assumption) _).mono ?_; rintro e w' ⟨rfl, rfl⟩) | (go_at_call 49; refine (c_l20Penalty _ _ (by assumption) _).mono ?_; rintro e w' ⟨rfl, rfl⟩))
      go_returns
      exact ⟨rfl, rfl⟩
    cases g2 : betw er 0 1000
    · go_enter Try.func15, Try.ntmps15
      go_wp2_with (first | (go_at_call 48; refine (c_l00In _ _ _ _ (by assumption) _).mono ?_; rintro e w' ⟨rfl, rfl⟩) | (go_at_call 49; refine (c_l20Penalty _ _ (by assumption) _).mono ?_; rintro e w' ⟨rfl, rfl⟩))
      go_returns
      exact ⟨rfl, rfl⟩
    cases g3 : betw pe 0 50
    · go_enter Try.func15, Try.ntmps15
      go_wp2_with (first | (go_at_call 48; refine (c_l00In _ _ _ _ (by assumption) _).mono ?_; rintro e w' ⟨rfl, rfl⟩) | (go_at_call 49; refine (c_l20Penalty _ _ (by assumption) _).mono ?_; rintro e w' ⟨rfl, rfl⟩))
      go_returns
      exact ⟨rfl, rfl⟩
    cases g4 : betw se 1 7200
    · go_enter Try.func15, Try.ntmps15
      go_wp2_with (first | (go_at_call 48; refine (c_l00In _ _ _ _ (by assumption) _).mono ?_; rintro e w' ⟨rfl, rfl⟩) | (go_at_call 49; refine (c_l20Penalty _ _ (by assumption) _).mono ?_; rintro e w' ⟨rfl, rfl⟩))
      go_returns
      exact ⟨rfl, rfl⟩
    exact absurd (by simp [g1, g2, g3, g4]) hg

set_option maxHeartbeats 1000000 in
theorem c_iStrokesNeeded (wo er pe se : Int) (w : World) :
    Calls Try.prog 16 #[.int .i64 wo, .int .i64 er, .int .i64 pe, .int .i64 se] w fun r w' => r = .returned (snV wo er pe se) ∧ w = w' := by
  by_cases hg : (betw wo 0 1000 && (betw er 0 1000 && (betw pe 0 50 && betw se 1 7200))) = true
  · have HG := Lib.hid hg
    simp only [Bool.and_eq_true] at hg
    obtain ⟨g1, g2, g3, g4⟩ := hg
    have hb := snN_bd g1 g2 g3 g4
    have b2 := betw_true g2
    by_cases hm : er < pe * er + (wo * se + 11) / 12
    · by_cases hf : 100000 < pe * er + (wo * se + 11) / 12
      · go_enter Try.func16, Try.ntmps16
        go_wp2_with (first | (go_at_call 53; refine (c_between _ _ _ _ (by assumption) _).mono ?_; rintro e w' ⟨rfl, rfl⟩) | (go_at_call 51; refine (c_isPenalty _ _ (by assumption) _).mono ?_; rintro e w' ⟨rfl, rfl⟩) | (go_at_call 52; refine (c_isThousand _ _ (by assumption) _).mono ?_; rintro e w' ⟨rfl, rfl⟩))
        go_returns
        exact ⟨snV_full HG.out (by unfold snN mx; split <;> omega) hf, rfl⟩
      · go_enter Try.func16, Try.ntmps16
        go_wp2_with (first | (go_at_call 53; refine (c_between _ _ _ _ (by assumption) _).mono ?_; rintro e w' ⟨rfl, rfl⟩) | (go_at_call 51; refine (c_isPenalty _ _ (by assumption) _).mono ?_; rintro e w' ⟨rfl, rfl⟩) | (go_at_call 52; refine (c_isThousand _ _ (by assumption) _).mono ?_; rintro e w' ⟨rfl, rfl⟩))
        go_returns
        exact ⟨snV_ok HG.out (by unfold snN mx; split <;> omega) (by omega), rfl⟩
    · go_enter Try.func16, Try.ntmps16
      go_wp2_with (first | (go_at_call 53; refine (c_between _ _ _ _ (by assumption) _).mono ?_; rintro e w' ⟨rfl, rfl⟩) | (go_at_call 51; refine (c_isPenalty _ _ (by assumption) _).mono ?_; rintro e w' ⟨rfl, rfl⟩) | (go_at_call 52; refine (c_isThousand _ _ (by assumption) _).mono ?_; rintro e w' ⟨rfl, rfl⟩))
      go_returns
      exact ⟨snV_ok HG.out (by unfold snN mx; split <;> omega) (by omega), rfl⟩
  · have hv : snV wo er pe se = .tuple #[.int .i64 0, .int .i64 2] := by rw [snV, if_neg hg]
    rw [hv]
    cases g3 : betw pe 0 50
    · go_enter Try.func16, Try.ntmps16
      go_wp2_with (first | (go_at_call 53; refine (c_between _ _ _ _ (by assumption) _).mono ?_; rintro e w' ⟨rfl, rfl⟩) | (go_at_call 51; refine (c_isPenalty _ _ (by assumption) _).mono ?_; rintro e w' ⟨rfl, rfl⟩) | (go_at_call 52; refine (c_isThousand _ _ (by assumption) _).mono ?_; rintro e w' ⟨rfl, rfl⟩))
      go_returns
      exact ⟨rfl, rfl⟩
    cases g1 : betw wo 0 1000
    · go_enter Try.func16, Try.ntmps16
      go_wp2_with (first | (go_at_call 53; refine (c_between _ _ _ _ (by assumption) _).mono ?_; rintro e w' ⟨rfl, rfl⟩) | (go_at_call 51; refine (c_isPenalty _ _ (by assumption) _).mono ?_; rintro e w' ⟨rfl, rfl⟩) | (go_at_call 52; refine (c_isThousand _ _ (by assumption) _).mono ?_; rintro e w' ⟨rfl, rfl⟩))
      go_returns
      exact ⟨rfl, rfl⟩
    cases g2 : betw er 0 1000
    · go_enter Try.func16, Try.ntmps16
      go_wp2_with (first | (go_at_call 53; refine (c_between _ _ _ _ (by assumption) _).mono ?_; rintro e w' ⟨rfl, rfl⟩) | (go_at_call 51; refine (c_isPenalty _ _ (by assumption) _).mono ?_; rintro e w' ⟨rfl, rfl⟩) | (go_at_call 52; refine (c_isThousand _ _ (by assumption) _).mono ?_; rintro e w' ⟨rfl, rfl⟩))
      go_returns
      exact ⟨rfl, rfl⟩
    cases g4 : betw se 1 7200
    · go_enter Try.func16, Try.ntmps16
      go_wp2_with (first | (go_at_call 53; refine (c_between _ _ _ _ (by assumption) _).mono ?_; rintro e w' ⟨rfl, rfl⟩) | (go_at_call 51; refine (c_isPenalty _ _ (by assumption) _).mono ?_; rintro e w' ⟨rfl, rfl⟩) | (go_at_call 52; refine (c_isThousand _ _ (by assumption) _).mono ?_; rintro e w' ⟨rfl, rfl⟩))
      go_returns
      exact ⟨rfl, rfl⟩
    exact absurd (by simp [g3, g1, g2, g4]) hg
end Go.Proofs.Ytldhhbnochlmlaa
