/- Contracts: bounds, and the functions of one test. -/
import Derived.Test.YtjigkogopmebeaaBase
namespace Go.Proofs.Ytjigkogopmebeaa
open Go.RowKit

set_option maxHeartbeats 400000 in
theorem c_l00In (n lo hi : Int) (r : Bool) (h : betw n lo hi = r) (w : World) :
    Calls Try.prog 44 #[.int .i64 n, .int .i64 lo, .int .i64 hi] w fun e w' => e = .returned (.bool r) ∧ w = w' := by
  subst h
  unfold betw
  by_cases h1 : lo ≤ n <;> by_cases h2 : n ≤ hi <;>
  · go_enter Try.func44, Try.ntmps44
    go_wp2
    go_ret
    simp [*]

set_option maxHeartbeats 400000 in
theorem c_between (n lo hi : Int) (r : Bool) (h : betw n lo hi = r) (w : World) :
    Calls Try.prog 31 #[.int .i64 n, .int .i64 lo, .int .i64 hi] w fun e w' => e = .returned (.bool r) ∧ w = w' := by
  subst h
  unfold betw
  by_cases h1 : lo ≤ n <;> by_cases h2 : n ≤ hi <;>
  · go_enter Try.func31, Try.ntmps31
    go_wp2
    go_ret
    simp [*]

def vtr (s e t : Int) : Bool := betw s 0 100000 && (betw e 0 s && betw t 1 7200)
theorem vtr_bounds {s e t : Int} (h : vtr s e t = true) : 0 ≤ s ∧ s ≤ 100000 ∧ 0 ≤ e ∧ e ≤ s ∧ 1 ≤ t ∧ t ≤ 7200 := by
  simp [vtr, betw] at h; omega

set_option maxHeartbeats 1000000 in
theorem c_l20One (s e t : Int) (b o : Nat) (r : Bool) (h : vtr s e t = r) (w : World) (h0 : w.cell? ⟨b, o, none⟩ = some (.int .i64 s)) (h1 : w.cell? ⟨b, o + 1, none⟩ = some (.int .i64 e)) (h2 : w.cell? ⟨b, o + 2, none⟩ = some (.int .i64 t)) :
    Calls Try.prog 43 #[.pointer (some ⟨b, o, none⟩)] w fun e w' => e = .returned (.bool r) ∧ Draws w w' := by
  subst h
  unfold vtr
  cases g1 : betw s 0 100000
  · go_enter Try.func43, Try.ntmps43
    go_wp2_with fail
    go_quiet ((go_at_call 44; exact q0 (c_l00In _ _ _ _ (by assumption) _)))
    go_wp2_with fail
    go_ret
    exact ⟨rfl, draws_N _ _⟩
  cases g2 : betw e 0 s
  · go_enter Try.func43, Try.ntmps43
    go_wp2_with fail
    go_quiet ((go_at_call 44; exact q0 (c_l00In _ _ _ _ (by assumption) _)))
    go_wp2_with fail
    go_ret
    exact ⟨rfl, draws_N _ _⟩
  cases g3 : betw t 1 7200 <;>
  · go_enter Try.func43, Try.ntmps43
    go_wp2_with fail
    go_quiet ((go_at_call 44; exact q0 (c_l00In _ _ _ _ (by assumption) _)))
    go_wp2_with fail
    go_ret
    exact ⟨rfl, draws_N _ _⟩

set_option maxHeartbeats 1000000 in
theorem c_validTrial (s e t : Int) (r : Bool) (h : vtr s e t = r) (w : World) :
    Calls Try.prog 30 #[.agg #[.int .i64 s, .int .i64 e, .int .i64 t]] w fun r' w' => r' = .returned (.bool r) ∧ w' = w.alloc (.cells #[.int .i64 s, .int .i64 e, .int .i64 t] 35) := by
  subst h
  unfold vtr
  cases g1 : betw s 0 100000
  · go_enter Try.func30, Try.ntmps30
    go_wp2_with (go_at_call 31; refine (c_between _ _ _ _ (by assumption) _).mono ?_; rintro e w' ⟨rfl, rfl⟩)
    go_ret
    exact ⟨rfl, rfl⟩
  cases g2 : betw e 0 s
  · go_enter Try.func30, Try.ntmps30
    go_wp2_with (go_at_call 31; refine (c_between _ _ _ _ (by assumption) _).mono ?_; rintro e w' ⟨rfl, rfl⟩)
    go_ret
    exact ⟨rfl, rfl⟩
  cases g3 : betw t 1 7200 <;>
  · go_enter Try.func30, Try.ntmps30
    go_wp2_with (go_at_call 31; refine (c_between _ _ _ _ (by assumption) _).mono ?_; rintro e w' ⟨rfl, rfl⟩)
    go_ret
    exact ⟨rfl, rfl⟩
end Go.Proofs.Ytjigkogopmebeaa
