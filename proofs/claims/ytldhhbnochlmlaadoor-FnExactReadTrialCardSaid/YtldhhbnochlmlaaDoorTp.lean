/- Contracts: bounds, and the functions of one test. -/
import Derived.Test.YtldhhbnochlmlaaDoorMem
import Derived.Test.YtldhhbnochlmlaaDoorBt
namespace Go.Proofs.YtldhhbnochlmlaaDoor
open Go.RowKit

def vtr (s e t : Int) : Bool := betw s 0 100000 && (betw e 0 s && betw t 1 7200)
theorem vtr_bounds {s e t : Int} (h : vtr s e t = true) : 0 ≤ s ∧ s ≤ 100000 ∧ 0 ≤ e ∧ e ≤ s ∧ 1 ≤ t ∧ t ≤ 7200 := by
  simp [vtr, betw] at h; omega

set_option maxHeartbeats 1000000 in
theorem c_l20One (s e t : Int) (b o : Nat) (r : Bool) (h : vtr s e t = r) (w : World) (h0 : w.cell? ⟨b, o, none⟩ = some (.int .i64 s)) (h1 : w.cell? ⟨b, o + 1, none⟩ = some (.int .i64 e)) (h2 : w.cell? ⟨b, o + 2, none⟩ = some (.int .i64 t)) :
    Calls Tryd.prog 11 #[.pointer (some ⟨b, o, none⟩)] w fun e w' => e = .returned (.bool r) ∧ Draws w w' := by
  subst h
  unfold vtr
  cases g1 : betw s 0 100000
  · go_enter Tryd.func11, Tryd.ntmps11
    go_wp2_with fail
    go_quiet ((go_at_call 20; exact q0 (c_l00In _ _ _ _ (by assumption) _)))
    go_wp2_with fail
    go_ret
    exact ⟨rfl, draws_N _ _⟩
  cases g2 : betw e 0 s
  · go_enter Tryd.func11, Tryd.ntmps11
    go_wp2_with fail
    go_quiet ((go_at_call 20; exact q0 (c_l00In _ _ _ _ (by assumption) _)))
    go_wp2_with fail
    go_ret
    exact ⟨rfl, draws_N _ _⟩
  cases g3 : betw t 1 7200 <;>
  · go_enter Tryd.func11, Tryd.ntmps11
    go_wp2_with fail
    go_quiet ((go_at_call 20; exact q0 (c_l00In _ _ _ _ (by assumption) _)))
    go_wp2_with fail
    go_ret
    exact ⟨rfl, draws_N _ _⟩

set_option maxHeartbeats 1000000 in
theorem c_validTrial (s e t : Int) (r : Bool) (h : vtr s e t = r) (w : World) :
    Calls Tryd.prog 13 #[.agg #[.int .i64 s, .int .i64 e, .int .i64 t]] w fun r' w' => r' = .returned (.bool r) ∧ w' = w.alloc (.cells #[.int .i64 s, .int .i64 e, .int .i64 t] 25) := by
  subst h
  unfold vtr
  cases g1 : betw s 0 100000
  · go_enter Tryd.func13, Tryd.ntmps13
    go_wp2_with (go_at_call 22; refine (c_between _ _ _ _ (by assumption) _).mono ?_; rintro e w' ⟨rfl, rfl⟩)
    go_ret
    exact ⟨rfl, rfl⟩
  cases g2 : betw e 0 s
  · go_enter Tryd.func13, Tryd.ntmps13
    go_wp2_with (go_at_call 22; refine (c_between _ _ _ _ (by assumption) _).mono ?_; rintro e w' ⟨rfl, rfl⟩)
    go_ret
    exact ⟨rfl, rfl⟩
  cases g3 : betw t 1 7200 <;>
  · go_enter Tryd.func13, Tryd.ntmps13
    go_wp2_with (go_at_call 22; refine (c_between _ _ _ _ (by assumption) _).mono ?_; rintro e w' ⟨rfl, rfl⟩)
    go_ret
    exact ⟨rfl, rfl⟩


set_option maxHeartbeats 400000 in
theorem c_toTrial (s e t : Int) (w : World) :
    Calls Tryd.prog 6 #[.agg #[.int .i64 s, .int .i64 e, .int .i64 t]] w fun r w' => r = .returned (.agg #[.int .i64 s, .int .i64 e, .int .i64 t]) ∧ w' = ((w.alloc (.cells #[.int .i64 s, .int .i64 e, .int .i64 t] 23)).alloc (.cells #[.int .i64 s, .int .i64 e, .int .i64 t] 25)).alloc (.cells #[.int .i64 s, .int .i64 e, .int .i64 t] 25) := by
  go_enter Tryd.func6, Tryd.ntmps6
  go_wp2_with fail
  go_returns
  exact ⟨rfl, rfl⟩
end Go.Proofs.YtldhhbnochlmlaaDoor
