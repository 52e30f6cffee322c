/- Contracts: the functions of one test that answer numbers. -/
import Derived.Test.YtjigkogopmebeaaSp1
namespace Go.Proofs.Ytjigkogopmebeaa
open Go.RowKit
attribute [local go_sem] drewN_setCell

set_option maxHeartbeats 400000 in
theorem c_l20Penalty (n : Int) (r : Bool) (h : betw n 0 50 = r) (w : World) :
    Calls Try.prog 28 #[.int .i64 n] w fun e w' => e = .returned (.bool r) ∧ w = w' := by
  go_enter Try.func28, Try.ntmps28
  go_wp2_with (go_at_call 44; refine (c_l00In _ _ _ _ (by assumption) _).mono ?_; rintro e w' ⟨rfl, rfl⟩)
  go_ret
  exact ⟨rfl, rfl⟩

set_option maxHeartbeats 400000 in
theorem c_isPenalty (n : Int) (r : Bool) (h : betw n 0 50 = r) (w : World) :
    Calls Try.prog 21 #[.int .i64 n] w fun e w' => e = .returned (.bool r) ∧ w = w' := by
  go_enter Try.func21, Try.ntmps21
  go_wp2_with (go_at_call 31; refine (c_between _ _ _ _ (by assumption) _).mono ?_; rintro e w' ⟨rfl, rfl⟩)
  go_ret
  exact ⟨rfl, rfl⟩

def mx (a b : Int) : Int := if b < a then a else b

set_option maxHeartbeats 400000 in
theorem c_l00Max (a b : Int) (w : World) :
    Calls Try.prog 29 #[.int .i64 a, .int .i64 b] w fun e w' => e = .returned (.int .i64 (mx a b)) ∧ w = w' := by
  unfold mx
  by_cases h : b < a <;>
  · go_enter Try.func29, Try.ntmps29
    go_wp2
    go_ret
    simp

def codeT (s e t pe : Int) : Int := if vtr s e t then (if betw pe 0 50 then 0 else 2) else 1
def netI (s e pe : Int) : Int := mx 0 (s - pe * e)



theorem ret_int {k : IntKind} {a b : Int} (h : a = b) : Ending.returned (.int k a) = .returned (.int k b) := by rw [h]
theorem mul_bd {a b A B : Int} (h0 : 0 ≤ a) (h1 : a ≤ A) (h2 : 0 ≤ b) (h3 : b ≤ B) : 0 ≤ a * b ∧ a * b ≤ A * B :=
  ⟨Int.mul_nonneg h0 h2, Int.mul_le_mul h1 h3 h2 (Int.le_trans h0 h1)⟩
theorem netI_bd {s e pe : Int} (hs : 0 ≤ s ∧ s ≤ 100000) (he : 0 ≤ e ∧ e ≤ 100000) (hp : 0 ≤ pe ∧ pe ≤ 50) : 0 ≤ netI s e pe ∧ netI s e pe ≤ 100000 := by
  have := mul_bd hp.1 hp.2 he.1 he.2
  unfold netI mx
  split <;> omega

set_option maxHeartbeats 400000 in
theorem c_l20Net (s e pe : Int) (b o : Nat) (w : World) (hs : 0 ≤ s ∧ s ≤ 100000) (he : 0 ≤ e ∧ e ≤ 100000) (hp : 0 ≤ pe ∧ pe ≤ 50) (h0 : w.cell? ⟨b, o, none⟩ = some (.int .i64 s)) (h1 : w.cell? ⟨b, o + 1, none⟩ = some (.int .i64 e)) :
    Calls Try.prog 19 #[.pointer (some ⟨b, o, none⟩), .int .i64 pe] w fun r w' => r = .returned (.int .i64 (netI s e pe)) ∧ Draws w w' := by
  have hm := mul_bd hp.1 hp.2 he.1 he.2
  go_enter Try.func19, Try.ntmps19
  go_wp2_with fail
  go_quiet ((go_at_call 29; exact q0 (c_l00Max _ _ _)))
  go_wp2_with fail
  go_ret
  exact ⟨by simp [netI], draws_N _ _⟩

set_option maxHeartbeats 400000 in
theorem c_net (s e t pe : Int) (w : World) (hs : 0 ≤ s ∧ s ≤ 100000) (he : 0 ≤ e ∧ e ≤ 100000) (hp : 0 ≤ pe ∧ pe ≤ 50) :
    Calls Try.prog 26 #[.agg #[.int .i64 s, .int .i64 e, .int .i64 t], .int .i64 pe] w fun r w' => r = .returned (.int .i64 (netI s e pe)) ∧ w' = w.alloc (.cells #[.int .i64 s, .int .i64 e, .int .i64 t] 35) := by
  have hm := mul_bd hp.1 hp.2 he.1 he.2
  go_enter Try.func26, Try.ntmps26
  go_wp2_with fail
  all_goals
    go_ret
    exact ⟨ret_int (by simp [netI, mx]; omega), rfl⟩

theorem gcd_step (a b : Nat) (h : 0 < b) : Nat.gcd b (a % b) = Nat.gcd a b := by
  rw [Nat.gcd_comm a b, Nat.gcd_rec b a, Nat.gcd_comm]

/-- The greatest common divisor, of numbers that are not negative. -/
def gcdI (a b : Int) : Int := (Nat.gcd a.toNat b.toNat : Nat)





theorem gcdI_pos {a b : Int} (hb : 1 ≤ b) : 1 ≤ gcdI a b := by
  unfold gcdI
  have : 0 < Nat.gcd a.toNat b.toNat := Nat.gcd_pos_of_pos_right _ (by omega)
  omega

/-- A fraction in lowest terms. -/
def lowN (a b : Int) : Int := a / gcdI a b
def lowD (a b : Int) : Int := b / gcdI a b



end Go.Proofs.Ytjigkogopmebeaa
