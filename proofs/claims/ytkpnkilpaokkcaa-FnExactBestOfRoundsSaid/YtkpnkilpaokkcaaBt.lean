/- Contracts: bounds. -/
import Derived.Test.YtkpnkilpaokkcaaBase
namespace Go.Proofs.Ytkpnkilpaokkcaa
open Go.RowKit

set_option maxHeartbeats 400000 in
theorem c_l00In (n lo hi : Int) (r : Bool) (h : betw n lo hi = r) (w : World) :
    Calls Try.prog 27 #[.int .i64 n, .int .i64 lo, .int .i64 hi] w fun e w' => e = .returned (.bool r) ∧ w = w' := by
  subst h
  unfold betw
  by_cases h1 : lo ≤ n <;> by_cases h2 : n ≤ hi <;>
  · go_enter Try.func27, Try.ntmps27
    go_wp2
    go_ret
    simp [*]
set_option maxHeartbeats 400000 in
theorem c_between (n lo hi : Int) (r : Bool) (h : betw n lo hi = r) (w : World) :
    Calls Try.prog 25 #[.int .i64 n, .int .i64 lo, .int .i64 hi] w fun e w' => e = .returned (.bool r) ∧ w = w' := by
  subst h
  unfold betw
  by_cases h1 : lo ≤ n <;> by_cases h2 : n ≤ hi <;>
  · go_enter Try.func25, Try.ntmps25
    go_wp2
    go_ret
    simp [*]

/-- A test of all numbers below n. -/
def allN (p : Nat → Bool) (n : Nat) : Bool := (List.range n).all p
theorem allN_zero (p : Nat → Bool) : allN p 0 = true := rfl
theorem allN_succ {p : Nat → Bool} {n : Nat} (h : allN p n = true) (h1 : p n = true) : allN p (n + 1) = true := by
  simp only [allN, List.range_succ, List.all_append, List.all_cons, List.all_nil, Bool.and_true] at *
  rw [h, h1]; rfl
theorem allN_bad {p : Nat → Bool} {n k : Nat} (hk : k < n) (h1 : p k = false) : allN p n = false := by
  simp only [allN, List.all_eq_false]
  exact ⟨k, by simpa using hk, by simp [h1]⟩
theorem allN_at {p : Nat → Bool} {n k : Nat} (h : allN p n = true) (hk : k < n) : p k = true := by
  simp only [allN, List.all_eq_true] at h
  exact h k (by simpa using hk)
theorem allN_congr {p q : Nat → Bool} {n : Nat} (h : ∀ k, k < n → p k = q k) : allN p n = allN q n := by
  rw [Bool.eq_iff_iff]
  simp only [allN, List.all_eq_true, List.mem_range]
  exact ⟨fun h' k hk => by rw [← h k hk]; exact h' k hk, fun h' k hk => by rw [h k hk]; exact h' k hk⟩
end Go.Proofs.Ytkpnkilpaokkcaa
