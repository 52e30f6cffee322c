/- Contracts: greatest common divisors and fractions in lowest terms. -/
import Derived.Test.YthgoofjojanakaaTw
namespace Go.Proofs.Ythgoofjojanakaa
open Go.RowKit Go.BigFrame
attribute [local go_sem] sub_cell sub_frozen drewN_setCell

theorem gcd_step (a b : Nat) (h : 0 < b) : Nat.gcd b (a % b) = Nat.gcd a b := by
  rw [Nat.gcd_comm a b, Nat.gcd_rec b a, Nat.gcd_comm]

/-- The greatest common divisor, of numbers that are not negative. -/
def gcdI (a b : Int) : Int := (Nat.gcd a.toNat b.toNat : Nat)

set_option maxHeartbeats 400000 in
theorem c_l00Gcd (a b : Int) (w : World) (ha : 0 ≤ a) (hb : 0 ≤ b) :
    Calls Try.prog 52 #[.int .i64 a, .int .i64 b] w fun r w' => r = .returned (.int .i64 (gcdI a b)) ∧ w = w' := by
  go_enter Try.func52, Try.ntmps52
  go_wp2_with fail
  go_loop [0, 1] (fun x y => ∃ p q : Int, 0 ≤ p ∧ 0 ≤ q ∧ x = .int .i64 p ∧ y = .int .i64 q ∧ gcdI p q = gcdI a b) (fun _ y => (intOf y).toNat)
  case atStart => exact ⟨a, b, ha, hb, rfl, rfl, rfl⟩
  case round =>
    obtain ⟨p, q, h1, h2, rfl, rfl, hg⟩ := hrel
    have H := Lib.hid hg
    clear hg
    by_cases hq : q = 0
    · subst hq
      go_wp2_with fail
      go_ret
      refine ⟨?_, rfl⟩
      rw [← H.out]
      simp [gcdI]
      omega
    · have hq1 : 1 ≤ q := by omega
      have hq2 : (q == 0) = false := by simp; omega
      have hq3 : (q != 0) = true := by simp; omega
      have hm1 : 0 ≤ p % q := Int.emod_nonneg _ hq
      have hm2 : p % q < q := Int.emod_lt_of_pos _ (by omega)
      go_wp2_with fail
      go_round
      case rel =>
        refine ⟨q, p % q, by omega, hm1, rfl, rfl, ?_⟩
        rw [← H.out]
        unfold gcdI
        rw [Int.toNat_emod h1 h2]
        rw [gcd_step _ _ (by omega)]
      case measure => simp [intOf]; omega

set_option maxHeartbeats 400000 in
theorem c_divisor (a b : Int) (w : World) (ha : 0 ≤ a) (hb : 0 ≤ b) :
    Calls Try.prog 60 #[.int .i64 a, .int .i64 b] w fun r w' => r = .returned (.int .i64 (gcdI a b)) ∧ Draws w w' := by
  go_enter Try.func60, Try.ntmps60
  go_wp2_with fail
  go_loopw [0, 1] (fun x y wr => ∃ p q : Int, 0 ≤ p ∧ 0 ≤ q ∧ x = .int .i64 p ∧ y = .int .i64 q ∧ gcdI p q = gcdI a b ∧ Draws w wr) (fun _ y _ => (intOf y).toNat)
  case atStart => exact ⟨a, b, ha, hb, rfl, rfl, rfl, draws_refl _⟩
  case round =>
    obtain ⟨p, q, h1, h2, rfl, rfl, hg, hd⟩ := hrel
    have H := Lib.hid hg
    clear hg
    by_cases hq : q = 0
    · subst hq
      go_wp2_with fail
      go_ret
      refine ⟨?_, hd⟩
      rw [← H.out]
      simp [gcdI]
      omega
    · have hq1 : 1 ≤ q := by omega
      have hq2 : (q == 0) = false := by simp; omega
      have hq3 : (q != 0) = true := by simp; omega
      have hm1 : 0 ≤ p % q := Int.emod_nonneg _ hq
      have hm2 : p % q < q := Int.emod_lt_of_pos _ (by omega)
      have ht : p.tmod q = p % q := by rw [Int.tmod_eq_emod_of_nonneg h1]
      go_wp2_with fail
      go_quiet (fail)
      go_wp2_with fail
      go_roundw
      case rel =>
        refine ⟨q, p % q, by omega, hm1, rfl, rfl, ?_, ?_⟩
        · rw [← H.out]
          unfold gcdI
          rw [Int.toNat_emod h1 h2]
          rw [gcd_step _ _ (by omega)]
        · obtain ⟨n, rfl⟩ := hd
          exact ⟨_, World.drewN_drewN _ _ _⟩
      case measure => simp [intOf]; omega

set_option maxHeartbeats 400000 in
theorem c_absolute (a : Int) (w : World) (ha : 0 ≤ a) :
    Calls Try.prog 61 #[.int .i64 a] w fun r w' => r = .returned (.int .i64 a) ∧ w = w' := by
  go_enter Try.func61, Try.ntmps61
  go_wp2_with fail
  go_ret
  exact ⟨rfl, rfl⟩

theorem gcdI_pos {a b : Int} (hb : 1 ≤ b) : 1 ≤ gcdI a b := by
  unfold gcdI
  have : 0 < Nat.gcd a.toNat b.toNat := Nat.gcd_pos_of_pos_right _ (by omega)
  omega

/-- A fraction in lowest terms. -/
def lowN (a b : Int) : Int := a / gcdI a b
def lowD (a b : Int) : Int := b / gcdI a b

set_option maxHeartbeats 400000 in
theorem c_lowest (a b : Int) (w : World) (ha : 0 ≤ a) (ha2 : a ≤ 9000000000000000000) (hb : 1 ≤ b) (hb2 : b ≤ 9000000000000000000) :
    Calls Try.prog 53 #[.int .i64 a, .int .i64 b] w fun r w' => r = .returned (.agg #[.int .i64 (lowN a b), .int .i64 (lowD a b)]) ∧ ∃ n, w' = (w.alloc (.cells #[.int .i64 (lowN a b), .int .i64 (lowD a b)] 44)).drewN n := by
  have hg := gcdI_pos (a := a) hb
  have hb0 : 0 ≤ b := by omega
  have h1 : a.tdiv (gcdI a b) = a / gcdI a b := Int.tdiv_eq_ediv_of_nonneg ha
  have h2 : b.tdiv (gcdI a b) = b / gcdI a b := Int.tdiv_eq_ediv_of_nonneg (by omega)
  have h3 : 0 ≤ a / gcdI a b ∧ a / gcdI a b ≤ a := ⟨Int.ediv_nonneg ha (by omega), Int.ediv_le_self _ ha⟩
  have h4 : 0 ≤ b / gcdI a b ∧ b / gcdI a b ≤ b := ⟨Int.ediv_nonneg (by omega) (by omega), Int.ediv_le_self _ (by omega)⟩
  unfold lowN lowD
  go_enter Try.func53, Try.ntmps53
  go_wp2_with (first
    | (go_at_call 61; refine (c_absolute _ _ (by assumption)).mono ?_; rintro e w' ⟨rfl, rfl⟩)
    | (go_at_call 60; refine (c_divisor _ _ _ (by assumption) (by assumption)).mono ?_; rintro e w' ⟨rfl, n, rfl⟩))
  go_region
  all_goals
    go_wp2_with fail
    go_returns
    first | exact ⟨rfl, 1, rfl⟩ | exact ⟨rfl, _, rfl⟩

set_option maxHeartbeats 400000 in
theorem c_eqFraction (a b : Int) (w : World) :
    Calls Try.prog 34 #[.agg #[.int .i64 a, .int .i64 b], .agg #[.int .i64 a, .int .i64 b]] w fun r w' => r = .returned (.bool true) ∧ Below w.heap.size w w' := by
  go_enter Try.func34, Try.ntmps34
  go_wp2_with fail
  go_returns
  exact ⟨rfl, by (repeat' (first | (with_reducible exact Below.refl _ _) | (with_reducible assumption) | (with_reducible refine below_drewN ?_ _) | (with_reducible refine Below.drew ?_) | (with_reducible refine Below.alloc ?_ ?_ _) | (with_reducible refine Below.setCell ?_ ?_ _) | go_size))⟩
end Go.Proofs.Ythgoofjojanakaa
