/- Contracts: the functions of one test that answer numbers. -/
import Derived.Test.YtldhhbnochlmlaaSp1
namespace Go.Proofs.Ytldhhbnochlmlaa
open Go.RowKit
attribute [local go_sem] drewN_setCell

theorem bcell {W w1 : World} (hb : Below W.heap.size W w1) : (∀ b o, b < W.heap.size → w1.cell? ⟨b, o, none⟩ = W.cell? ⟨b, o, none⟩) ∧ (∀ b o, b < W.heap.size → w1.frozen? ⟨b, o, none⟩ = W.frozen? ⟨b, o, none⟩) :=
  ⟨fun b o h => hb.cell (p := ⟨b, o, none⟩) h, fun b o h => hb.frozen (p := ⟨b, o, none⟩) h⟩

theorem later {w W w1 : World} (hb : Below W.heap.size W w1) (h : Below w.heap.size w W) : Below w.heap.size w w1 := h.trans (hb.mono h.size)

set_option maxHeartbeats 400000 in
theorem c_l20Penalty (n : Int) (r : Bool) (h : betw n 0 50 = r) (w : World) :
    Calls Try.prog 49 #[.int .i64 n] w fun e w' => e = .returned (.bool r) ∧ w = w' := by
  go_enter Try.func49, Try.ntmps49
  go_wp2_with (go_at_call 48; refine (c_l00In _ _ _ _ (by assumption) _).mono ?_; rintro e w' ⟨rfl, rfl⟩)
  go_ret
  exact ⟨rfl, rfl⟩

set_option maxHeartbeats 400000 in
theorem c_isPenalty (n : Int) (r : Bool) (h : betw n 0 50 = r) (w : World) :
    Calls Try.prog 51 #[.int .i64 n] w fun e w' => e = .returned (.bool r) ∧ w = w' := by
  go_enter Try.func51, Try.ntmps51
  go_wp2_with (go_at_call 53; refine (c_between _ _ _ _ (by assumption) _).mono ?_; rintro e w' ⟨rfl, rfl⟩)
  go_ret
  exact ⟨rfl, rfl⟩
set_option maxHeartbeats 400000 in
theorem c_isThousand (n : Int) (r : Bool) (h : betw n 0 1000 = r) (w : World) :
    Calls Try.prog 52 #[.int .i64 n] w fun e w' => e = .returned (.bool r) ∧ w = w' := by
  go_enter Try.func52, Try.ntmps52
  go_wp2_with (go_at_call 53; refine (c_between _ _ _ _ (by assumption) _).mono ?_; rintro e w' ⟨rfl, rfl⟩)
  go_ret
  exact ⟨rfl, rfl⟩

def mx (a b : Int) : Int := if b < a then a else b

set_option maxHeartbeats 400000 in
theorem c_l00Max (a b : Int) (w : World) :
    Calls Try.prog 50 #[.int .i64 a, .int .i64 b] w fun e w' => e = .returned (.int .i64 (mx a b)) ∧ w = w' := by
  unfold mx
  by_cases h : b < a <;>
  · go_enter Try.func50, Try.ntmps50
    go_wp2
    go_ret
    simp

def codeT (s e t pe : Int) : Int := if vtr s e t then (if betw pe 0 50 then 0 else 2) else 1
def netI (s e pe : Int) : Int := mx 0 (s - pe * e)

set_option maxHeartbeats 400000 in
theorem c_l20Code (s e t pe : Int) (b o : Nat) (r : Int) (h : codeT s e t pe = r) (w : World) (h0 : w.cell? ⟨b, o, none⟩ = some (.int .i64 s)) (h1 : w.cell? ⟨b, o + 1, none⟩ = some (.int .i64 e)) (h2 : w.cell? ⟨b, o + 2, none⟩ = some (.int .i64 t)) :
    Calls Try.prog 54 #[.pointer (some ⟨b, o, none⟩), .int .i64 pe] w fun e w' => e = .returned (.int .i64 r) ∧ Draws w w' := by
  subst h
  unfold codeT
  cases g1 : vtr s e t <;> cases g2 : betw pe 0 50 <;>
  · go_enter Try.func54, Try.ntmps54
    go_wp2_with (first
      | (go_at_call 61; refine (c_l20One _ _ _ _ _ _ (by assumption) _ h0 h1 h2).mono ?_; rintro e w' ⟨rfl, n, rfl⟩)
      | (go_at_call 49; refine (c_l20Penalty _ _ (by assumption) _).mono ?_; rintro e w' ⟨rfl, rfl⟩))
    go_ret
    exact ⟨by simp, draws_N _ _⟩

set_option maxHeartbeats 400000 in
theorem c_trialCode (s e t pe : Int) (r : Int) (h : codeT s e t pe = r) (w : World) :
    Calls Try.prog 58 #[.agg #[.int .i64 s, .int .i64 e, .int .i64 t], .int .i64 pe] w fun r' w' => r' = .returned (.int .i64 r) ∧ w' = (w.alloc (.cells #[.int .i64 s, .int .i64 e, .int .i64 t] 29)).alloc (.cells #[.int .i64 s, .int .i64 e, .int .i64 t] 29) := by
  subst h
  unfold codeT
  cases g1 : vtr s e t <;> cases g2 : betw pe 0 50 <;>
  · go_enter Try.func58, Try.ntmps58
    go_wp2_with (first
      | (go_at_call 56; refine (c_validTrial _ _ _ _ (by assumption) _).mono ?_; rintro e w1 ⟨rfl, rfl⟩)
      | (go_at_call 51; refine (c_isPenalty _ _ (by assumption) _).mono ?_; rintro e w' ⟨rfl, rfl⟩))
    go_ret
    exact ⟨by simp, rfl⟩

theorem ret_int {k : IntKind} {a b : Int} (h : a = b) : Ending.returned (.int k a) = .returned (.int k b) := by rw [h]
theorem mul_bd {a b A B : Int} (h0 : 0 ≤ a) (h1 : a ≤ A) (h2 : 0 ≤ b) (h3 : b ≤ B) : 0 ≤ a * b ∧ a * b ≤ A * B :=
  ⟨Int.mul_nonneg h0 h2, Int.mul_le_mul h1 h3 h2 (Int.le_trans h0 h1)⟩
theorem netI_bd {s e pe : Int} (hs : 0 ≤ s ∧ s ≤ 100000) (he : 0 ≤ e ∧ e ≤ 100000) (hp : 0 ≤ pe ∧ pe ≤ 50) : 0 ≤ netI s e pe ∧ netI s e pe ≤ 100000 := by
  have := mul_bd hp.1 hp.2 he.1 he.2
  unfold netI mx
  split <;> omega

set_option maxHeartbeats 400000 in
theorem c_l20Net (s e pe : Int) (b o : Nat) (w : World) (hs : 0 ≤ s ∧ s ≤ 100000) (he : 0 ≤ e ∧ e ≤ 100000) (hp : 0 ≤ pe ∧ pe ≤ 50) (h0 : w.cell? ⟨b, o, none⟩ = some (.int .i64 s)) (h1 : w.cell? ⟨b, o + 1, none⟩ = some (.int .i64 e)) :
    Calls Try.prog 55 #[.pointer (some ⟨b, o, none⟩), .int .i64 pe] w fun r w' => r = .returned (.int .i64 (netI s e pe)) ∧ Draws w w' := by
  have hm := mul_bd hp.1 hp.2 he.1 he.2
  go_enter Try.func55, Try.ntmps55
  go_wp2_with fail
  go_quiet ((go_at_call 50; exact q0 (c_l00Max _ _ _)))
  go_wp2_with fail
  go_ret
  exact ⟨by simp [netI], draws_N _ _⟩

set_option maxHeartbeats 400000 in
theorem c_net (s e t pe : Int) (w : World) (hs : 0 ≤ s ∧ s ≤ 100000) (he : 0 ≤ e ∧ e ≤ 100000) (hp : 0 ≤ pe ∧ pe ≤ 50) :
    Calls Try.prog 57 #[.agg #[.int .i64 s, .int .i64 e, .int .i64 t], .int .i64 pe] w fun r w' => r = .returned (.int .i64 (netI s e pe)) ∧ w' = w.alloc (.cells #[.int .i64 s, .int .i64 e, .int .i64 t] 29) := by
  have hm := mul_bd hp.1 hp.2 he.1 he.2
  go_enter Try.func57, Try.ntmps57
  go_wp2_with fail
  all_goals
    go_ret
    exact ⟨ret_int (by simp [netI, mx]; omega), rfl⟩

theorem gcd_step (a b : Nat) (h : 0 < b) : Nat.gcd b (a % b) = Nat.gcd a b := by
  rw [Nat.gcd_comm a b, Nat.gcd_rec b a, Nat.gcd_comm]

/-- The greatest common divisor, of numbers that are not negative. -/
def gcdI (a b : Int) : Int := (Nat.gcd a.toNat b.toNat : Nat)

set_option maxHeartbeats 400000 in
theorem c_l00Gcd (a b : Int) (w : World) (ha : 0 ≤ a) (hb : 0 ≤ b) :
    Calls Try.prog 72 #[.int .i64 a, .int .i64 b] w fun r w' => r = .returned (.int .i64 (gcdI a b)) ∧ w = w' := by
  go_enter Try.func72, Try.ntmps72
  go_wp2_with fail
  go_loop [0, 1] (fun x y => ∃ p q : Int, 0 ≤ p ∧ 0 ≤ q ∧ x = .int .i64 p ∧ y = .int .i64 q ∧ gcdI p q = gcdI a b) (fun _ y => (intOf y).toNat)
  case atStart => exact ⟨a, b, ha, hb, rfl, rfl, rfl⟩
  case round =>
    obtain ⟨p, q, h1, h2, rfl, rfl, hg⟩ := hrel
    have H := Lib.hid hg
    clear hg
    by_cases hq : q = 0
    · subst hq
      go_wp2_with fail
      go_ret
      refine ⟨?_, rfl⟩
      rw [← H.out]
      simp [gcdI]
      omega
    · have hq1 : 1 ≤ q := by omega
      have hq2 : (q == 0) = false := by simp; omega
      have hq3 : (q != 0) = true := by simp; omega
      have hm1 : 0 ≤ p % q := Int.emod_nonneg _ hq
      have hm2 : p % q < q := Int.emod_lt_of_pos _ (by omega)
      go_wp2_with fail
      go_round
      case rel =>
        refine ⟨q, p % q, by omega, hm1, rfl, rfl, ?_⟩
        rw [← H.out]
        unfold gcdI
        rw [Int.toNat_emod h1 h2]
        rw [gcd_step _ _ (by omega)]
      case measure => simp [intOf]; omega

set_option maxHeartbeats 400000 in
theorem c_divisor (a b : Int) (w : World) (ha : 0 ≤ a) (hb : 0 ≤ b) :
    Calls Try.prog 74 #[.int .i64 a, .int .i64 b] w fun r w' => r = .returned (.int .i64 (gcdI a b)) ∧ Draws w w' := by
  go_enter Try.func74, Try.ntmps74
  go_wp2_with fail
  go_loopw [0, 1] (fun x y wr => ∃ p q : Int, 0 ≤ p ∧ 0 ≤ q ∧ x = .int .i64 p ∧ y = .int .i64 q ∧ gcdI p q = gcdI a b ∧ Draws w wr) (fun _ y _ => (intOf y).toNat)
  case atStart => exact ⟨a, b, ha, hb, rfl, rfl, rfl, draws_refl _⟩
  case round =>
    obtain ⟨p, q, h1, h2, rfl, rfl, hg, hd⟩ := hrel
    have H := Lib.hid hg
    clear hg
    by_cases hq : q = 0
    · subst hq
      go_wp2_with fail
      go_ret
      refine ⟨?_, hd⟩
      rw [← H.out]
      simp [gcdI]
      omega
    · have hq1 : 1 ≤ q := by omega
      have hq2 : (q == 0) = false := by simp; omega
      have hq3 : (q != 0) = true := by simp; omega
      have hm1 : 0 ≤ p % q := Int.emod_nonneg _ hq
      have hm2 : p % q < q := Int.emod_lt_of_pos _ (by omega)
      have ht : p.tmod q = p % q := by rw [Int.tmod_eq_emod_of_nonneg h1]
      go_wp2_with fail
      go_quiet (fail)
      go_wp2_with fail
      go_roundw
      case rel =>
        refine ⟨q, p % q, by omega, hm1, rfl, rfl, ?_, ?_⟩
        · rw [← H.out]
          unfold gcdI
          rw [Int.toNat_emod h1 h2]
          rw [gcd_step _ _ (by omega)]
        · obtain ⟨n, rfl⟩ := hd
          exact ⟨_, World.drewN_drewN _ _ _⟩
      case measure => simp [intOf]; omega

set_option maxHeartbeats 400000 in
theorem c_l00Size (a : Int) (w : World) (ha : 0 ≤ a) :
    Calls Try.prog 73 #[.int .i64 a] w fun r w' => r = .returned (.int .i64 a) ∧ w = w' := by
  go_enter Try.func73, Try.ntmps73
  go_wp2_with fail
  go_ret
  exact ⟨rfl, rfl⟩

set_option maxHeartbeats 400000 in
theorem c_absolute (a : Int) (w : World) (ha : 0 ≤ a) :
    Calls Try.prog 75 #[.int .i64 a] w fun r w' => r = .returned (.int .i64 a) ∧ w = w' := by
  go_enter Try.func75, Try.ntmps75
  go_wp2_with fail
  go_ret
  exact ⟨rfl, rfl⟩

theorem gcdI_pos {a b : Int} (hb : 1 ≤ b) : 1 ≤ gcdI a b := by
  unfold gcdI
  have : 0 < Nat.gcd a.toNat b.toNat := Nat.gcd_pos_of_pos_right _ (by omega)
  omega

/-- A fraction in lowest terms. -/
def lowN (a b : Int) : Int := a / gcdI a b
def lowD (a b : Int) : Int := b / gcdI a b

set_option maxHeartbeats 400000 in
theorem c_l02Make (a b : Int) (w : World) (ha : 0 ≤ a) (ha2 : a ≤ 9000000000000000000) (hb : 1 ≤ b) (hb2 : b ≤ 9000000000000000000) :
    Calls Try.prog 62 #[.int .i64 a, .int .i64 b] w fun r w' => r = .returned (.agg #[.int .i64 (lowN a b), .int .i64 (lowD a b)]) ∧ ∃ n, w' = (w.alloc (.cells #[.int .i64 (lowN a b), .int .i64 (lowD a b)] 43)).drewN n := by
  have hg := gcdI_pos (a := a) hb
  have hb0 : 0 ≤ b := by omega
  have h1 : a.tdiv (gcdI a b) = a / gcdI a b := Int.tdiv_eq_ediv_of_nonneg ha
  have h2 : b.tdiv (gcdI a b) = b / gcdI a b := Int.tdiv_eq_ediv_of_nonneg (by omega)
  have h3 : 0 ≤ a / gcdI a b ∧ a / gcdI a b ≤ a := ⟨Int.ediv_nonneg ha (by omega), Int.ediv_le_self _ ha⟩
  have h4 : 0 ≤ b / gcdI a b ∧ b / gcdI a b ≤ b := ⟨Int.ediv_nonneg (by omega) (by omega), Int.ediv_le_self _ (by omega)⟩
  unfold lowN lowD
  go_enter Try.func62, Try.ntmps62
  go_wp2_with (first
    | (go_at_call 73; refine (c_l00Size _ _ (by assumption)).mono ?_; rintro e w' ⟨rfl, rfl⟩)
    | (go_at_call 72; refine (c_l00Gcd _ _ _ (by assumption) (by assumption)).mono ?_; rintro e w' ⟨rfl, rfl⟩))
  go_region
  all_goals
    go_wp2_with fail
    go_returns
    first | exact ⟨rfl, 1, rfl⟩ | exact ⟨rfl, _, rfl⟩

set_option maxHeartbeats 400000 in
theorem c_lowest (a b : Int) (w : World) (ha : 0 ≤ a) (ha2 : a ≤ 9000000000000000000) (hb : 1 ≤ b) (hb2 : b ≤ 9000000000000000000) :
    Calls Try.prog 63 #[.int .i64 a, .int .i64 b] w fun r w' => r = .returned (.agg #[.int .i64 (lowN a b), .int .i64 (lowD a b)]) ∧ ∃ n, w' = (w.alloc (.cells #[.int .i64 (lowN a b), .int .i64 (lowD a b)] 43)).drewN n := by
  have hg := gcdI_pos (a := a) hb
  have hb0 : 0 ≤ b := by omega
  have h1 : a.tdiv (gcdI a b) = a / gcdI a b := Int.tdiv_eq_ediv_of_nonneg ha
  have h2 : b.tdiv (gcdI a b) = b / gcdI a b := Int.tdiv_eq_ediv_of_nonneg (by omega)
  have h3 : 0 ≤ a / gcdI a b ∧ a / gcdI a b ≤ a := ⟨Int.ediv_nonneg ha (by omega), Int.ediv_le_self _ ha⟩
  have h4 : 0 ≤ b / gcdI a b ∧ b / gcdI a b ≤ b := ⟨Int.ediv_nonneg (by omega) (by omega), Int.ediv_le_self _ (by omega)⟩
  unfold lowN lowD
  go_enter Try.func63, Try.ntmps63
  go_wp2_with (first
    | (go_at_call 75; refine (c_absolute _ _ (by assumption)).mono ?_; rintro e w' ⟨rfl, rfl⟩)
    | (go_at_call 74; refine (c_divisor _ _ _ (by assumption) (by assumption)).mono ?_; rintro e w' ⟨rfl, n, rfl⟩))
  go_region
  all_goals
    go_wp2_with fail
    go_returns
    first | exact ⟨rfl, 1, rfl⟩ | exact ⟨rfl, _, rfl⟩

end Go.Proofs.Ytldhhbnochlmlaa
