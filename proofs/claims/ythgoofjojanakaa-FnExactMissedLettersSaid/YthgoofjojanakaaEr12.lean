/- Contracts: the mark of a typed text. -/
import Derived.Test.YthgoofjojanakaaEr11
namespace Go.Proofs.Ythgoofjojanakaa
open Go.RowKit Go.BigFrame
attribute [local go_sem] sub_cell sub_frozen drewN_setCell

/-- The first of some bounds, each double the one before it, that is not below n. -/
def mkF (n : Int) : Nat → Int → Int → Int
  | 0, _, k => k
  | f + 1, m, k => if n ≤ m then k else mkF n f (m * 2) (k + 1)
def someC (w t : List UInt8) : Int := if twoC w t = 0 then (if w.length = 0 then 3 else 0) else 2
def markA (w t : List UInt8) : Int := if someC w t = 0 then mkF (100 * cst w t) 5 w.length 1 else 0
theorem someC_cases (w t : List UInt8) : (someC w t = 0 ∧ twoC w t = 0 ∧ typB w = true ∧ typB t = true ∧ 0 < w.length) ∨ (someC w t = 3 ∧ twoC w t = 0 ∧ typB w = true ∧ typB t = true ∧ w.length = 0) ∨ (someC w t = 2 ∧ twoC w t = 2 ∧ (typB w = false ∨ typB w = true ∧ typB t = false)) := by
  unfold someC
  rcases twoC_cases w t with ⟨h, t1, t2⟩ | ⟨h, hor⟩
  · rw [h]
    by_cases h0 : w.length = 0
    · right; left; simp [h0, t1, t2]
    · left; simp [h0, t1, t2]; omega
  · right; right
    rw [h]
    exact ⟨rfl, rfl, hor⟩
attribute [local go_sem] mt_toList cons_beq_nil nil_beq_nil
set_option maxHeartbeats 1000000 in
theorem c_l19Some (a b : ByteArray) (v : Int) (h : someC (bl a) (bl b) = v) (w : World) (ha : a.size ≤ maxLen) (hb : b.size ≤ maxLen) :
    Calls Try.prog 47 #[.string a, .string b] w fun e w' => e = .returned (.int .i64 v) ∧ w = w' := by
  subst h
  rcases someC_cases (bl a) (bl b) with ⟨h, h2, _, _, h3⟩ | ⟨h, h2, _, _, h3⟩ | ⟨h, h2, _⟩
  · obtain ⟨x, l, hT⟩ := toList_cons (s := a) (by rw [← bl_len]; exact h3)
    rw [h]
    have H := Lib.hid h2
    clear h h2 h3
    go_enter Try.func47, Try.ntmps47
    go_wp2_with (go_at_call 41; refine (c_l19Two _ _ _ H.out _ ha hb).mono ?_; rintro r_ w' ⟨rfl, rfl⟩)
    go_ret
    exact ⟨rfl, rfl⟩
  · have hT := toList_nil (s := a) (by rw [← bl_len]; exact h3)
    rw [h]
    have H := Lib.hid h2
    clear h h2 h3
    go_enter Try.func47, Try.ntmps47
    go_wp2_with (go_at_call 41; refine (c_l19Two _ _ _ H.out _ ha hb).mono ?_; rintro r_ w' ⟨rfl, rfl⟩)
    go_ret
    exact ⟨rfl, rfl⟩
  · rw [h]
    have H := Lib.hid h2
    clear h h2
    go_enter Try.func47, Try.ntmps47
    go_wp2_with (go_at_call 41; refine (c_l19Two _ _ _ H.out _ ha hb).mono ?_; rintro r_ w' ⟨rfl, rfl⟩)
    go_ret
    exact ⟨rfl, rfl⟩
theorem mkF_hit {n m k : Int} {f : Nat} (h : n ≤ m) : mkF n (f + 1) m k = k := if_pos h
theorem mkF_miss {n m k : Int} {f : Nat} (h : ¬ n ≤ m) : mkF n (f + 1) m k = mkF n f (m * 2) (k + 1) := if_neg h
set_option maxHeartbeats 2000000 in
theorem c_sMarkOf (a b : ByteArray) (w : World) (ha : a.size ≤ maxLen) (hb : b.size ≤ maxLen) :
    Calls Try.prog 21 #[.string a, .string b] w fun e w' => e = .returned (.tuple #[.int .i64 (markA (bl a) (bl b)), .int .i64 (someC (bl a) (bl b))]) ∧ Below w.heap.size w w' := by
  rcases someC_cases (bl a) (bl b) with ⟨h, _, t1, t2, h3⟩ | ⟨h, _, t1, t2, h3⟩ | ⟨h, _, _⟩
  · have C := Lib.hid (costs_s a b (typB_len t1) (typB_len t2))
    have n1 := typB_len t1
    have n2 := typB_len t2
    have e0 := cst_nonneg (bl a) (bl b)
    have e1 := cst_le (bl a) (bl b)
    rw [markA, h, if_pos rfl]
    have H := Lib.hid h
    rw [bl_len, bl_len] at e1
    rw [bl_len]
    clear h t1 t2 h3
    go_enter Try.func21, Try.ntmps21
    go_wp2_with (first | (go_at_call 47; refine (c_l19Some _ _ _ H.out _ ha hb).mono ?_; rintro r_ w' ⟨rfl, rfl⟩) | (go_at_call 42; refine (C.out _).mono ?_; rintro r_ w1 ⟨rfl, hR, hb1⟩; obtain ⟨r, k0, k1⟩ := hR.first; rw [cC_first] at k1; clear hR))
    generalize hy : cst (bl a) (bl b) = y at *
    go_loop [8, 9] (fun m k => ∃ j : Nat, ∃ v : Int, j ≤ 5 ∧ k = .int .i64 ((j : Int) + 1) ∧ m = .int .i64 v ∧ 0 ≤ v ∧ v ≤ 60 * 2 ^ j ∧ Hid (mkF (100 * y) (5 - j) v ((j : Int) + 1) = mkF (100 * y) 5 a.size 1)) (fun _ k => 6 - (intOf k).toNat)
    case atStart => exact ⟨0, a.size, by omega, rfl, rfl, by omega, by simp; omega, rfl⟩
    case round =>
      obtain ⟨j, v, hj, rfl, rfl, hv0, hv1, hm⟩ := hrel
      have hp : (60 : Int) * 2 ^ j ≤ 60 * 32 := by
        have : (2 : Nat) ^ j ≤ 2 ^ 5 := Nat.pow_le_pow_right (by omega) hj
        have h2 : ((2 ^ j : Nat) : Int) ≤ ((2 ^ 5 : Nat) : Int) := by exact_mod_cast this
        simp at h2
        omega
      have hv2 : v ≤ 1920 := by omega
      have HV := Lib.hid hv1
      clear hv1 hp
      by_cases hlt : j < 5
      · have hlt2 : (j : Int) + 1 ≤ 5 := by omega
        have hf : 5 - j = (5 - (j + 1)) + 1 := by omega
        have hm2 := hm.out
        rw [hf] at hm2
        by_cases hn : 100 * y ≤ v
        · rw [mkF_hit hn] at hm2
          have HM := Lib.hid hm2
          clear hm2 hm hf
          go_wp2_with fail
          go_returns
          exact ⟨by rw [← HM.out]; rfl, hb1⟩
        · rw [mkF_miss hn] at hm2
          have HM := Lib.hid hm2
          have hn2 : ¬ 100 * y ≤ v := hn
          clear hm2 hm hf hn
          go_wp2_with fail
          go_round
          case rel => exact ⟨j + 1, v * 2, by omega, by go_num, rfl, by omega, by have := HV.out; rw [Int.pow_succ]; omega, by have := HM.out; rw [show (((j + 1 : Nat) : Int) + 1) = (j : Int) + 1 + 1 from by omega]; exact this⟩
          case measure => simp [intOf]; omega
      · obtain rfl : j = 5 := by omega
        have HM : Hid ((6 : Int) = mkF (100 * y) 5 a.size 1) := by show (6 : Int) = _; rw [← hm.out]; rfl
        clear hm
        go_wp2_with fail
        go_returns
        exact ⟨by rw [← HM.out]; rfl, hb1⟩
  · rw [markA, h, if_neg (by decide)]
    have H := Lib.hid h
    clear h
    go_enter Try.func21, Try.ntmps21
    go_wp2_with (go_at_call 47; refine (c_l19Some _ _ _ H.out _ ha hb).mono ?_; rintro r_ w' ⟨rfl, rfl⟩)
    go_returns
    exact ⟨rfl, Below.refl _ _⟩
  · rw [markA, h, if_neg (by decide)]
    have H := Lib.hid h
    clear h
    go_enter Try.func21, Try.ntmps21
    go_wp2_with (go_at_call 47; refine (c_l19Some _ _ _ H.out _ ha hb).mono ?_; rintro r_ w' ⟨rfl, rfl⟩)
    go_returns
    exact ⟨rfl, Below.refl _ _⟩
set_option maxHeartbeats 2000000 in
theorem c_iMarkOf (a b : ByteArray) (w : World) (ha : a.size ≤ maxLen) (hb : b.size ≤ maxLen) :
    Calls Try.prog 22 #[.string a, .string b] w fun e w' => e = .returned (.tuple #[.int .i64 (markA (bl a) (bl b)), .int .i64 (someC (bl a) (bl b))]) ∧ Below w.heap.size w w' := by
  rcases someC_cases (bl a) (bl b) with ⟨h, _, t1, t2, h3⟩ | ⟨h, _, t1, t2, h3⟩ | ⟨h, _, hor⟩
  · have C := Lib.hid (costs_i a b (typB_len t1) (typB_len t2))
    have n1 := typB_len t1
    have n2 := typB_len t2
    have e0 := cst_nonneg (bl a) (bl b)
    have e1 := cst_le (bl a) (bl b)
    rw [markA, h, if_pos rfl]
    obtain ⟨x, l, hT⟩ := toList_cons (s := a) (by rw [← bl_len]; exact h3)
    have T1 := Lib.hid t1
    have T2 := Lib.hid t2
    rw [bl_len, bl_len] at e1
    rw [bl_len]
    clear h t1 t2 h3
    go_enter Try.func22, Try.ntmps22
    go_wp2_with (first | (go_at_call 43; first | (with_reducible refine (c_isTyped a _ T1.out _ ha).mono ?_; rintro r_ w' ⟨rfl, rfl⟩) | (with_reducible refine (c_isTyped b _ T2.out _ hb).mono ?_; rintro r_ w' ⟨rfl, rfl⟩)) | (go_at_call 44; refine (C.out _).mono ?_; rintro r_ w1 ⟨rfl, hR, hb1⟩; obtain ⟨r, k0, k1⟩ := hR.first; rw [cC_first] at k1; clear hR))
    generalize hy : cst (bl a) (bl b) = y at *
    go_loop [7, 8] (fun k m => ∃ j : Nat, ∃ t : Int, j ≤ 5 ∧ k = .int .i64 ((j : Int) + 1) ∧ m = .int .i64 t ∧ Hid (t = 2 ^ j) ∧ Hid (mkF (100 * y) (5 - j) (t * a.size) ((j : Int) + 1) = mkF (100 * y) 5 a.size 1)) (fun k _ => 6 - (intOf k).toNat)
    case atStart => exact ⟨0, 1, by omega, rfl, rfl, rfl, by show mkF _ _ _ _ = _; rw [Int.one_mul]; rfl⟩
    case round =>
      obtain ⟨j, t, hj, rfl, rfl, ht, hm⟩ := hrel
      have ht1 : 1 ≤ t ∧ t ≤ 32 := by
        rw [ht.out]
        have h1 : (2 : Nat) ^ j ≤ 2 ^ 5 := Nat.pow_le_pow_right (by omega) hj
        have h2 : 1 ≤ (2 : Nat) ^ j := Nat.one_le_two_pow
        have h3 : ((2 ^ j : Nat) : Int) ≤ ((2 ^ 5 : Nat) : Int) := by exact_mod_cast h1
        have h4 : ((1 : Nat) : Int) ≤ ((2 ^ j : Nat) : Int) := by exact_mod_cast h2
        simp at h3 h4
        omega
      have hp0 : 0 ≤ t * a.size := Int.mul_nonneg (by omega) (by omega)
      have hp1 : t * a.size ≤ 1920 := by
        have := Int.mul_le_mul ht1.2 (show (a.size : Int) ≤ 60 by omega) (by omega) (by omega)
        omega
      have ht2 := ht1.1
      have ht3 := ht1.2
      clear ht1
      by_cases hlt : j < 5
      · have hlt2 : (j : Int) + 1 < 6 := by omega
        have hf : 5 - j = (5 - (j + 1)) + 1 := by omega
        have hm2 := hm.out
        rw [hf] at hm2
        by_cases hn : 100 * y ≤ t * a.size
        · rw [mkF_hit hn] at hm2
          have HM := Lib.hid hm2
          have hn2 : ¬ t * a.size < 100 * y := by omega
          clear hm2 hm hf
          go_wp2_with fail
          go_returns
          exact ⟨by rw [← HM.out]; rfl, hb1⟩
        · rw [mkF_miss hn] at hm2
          have HM := Lib.hid hm2
          have hn2 : t * a.size < 100 * y := by omega
          clear hm2 hm hf hn
          go_wp2_with fail
          go_round
          case rel => exact ⟨j + 1, t * 2, by omega, by go_num, rfl, by show t * 2 = _; rw [Int.pow_succ, ht.out], by have h9 := HM.out; rw [show (((j + 1 : Nat) : Int) + 1) = (j : Int) + 1 + 1 from by omega, show t * 2 * (a.size : Int) = t * a.size * 2 from by rw [Int.mul_right_comm]]; exact h9⟩
          case measure => simp [intOf]; omega
      · obtain rfl : j = 5 := by omega
        have HM : Hid ((6 : Int) = mkF (100 * y) 5 a.size 1) := by show (6 : Int) = _; rw [← hm.out]; rfl
        clear hm
        go_wp2_with fail
        go_returns
        exact ⟨by rw [← HM.out]; rfl, hb1⟩
  · rw [markA, h, if_neg (by decide)]
    have hT := toList_nil (s := a) (by rw [← bl_len]; exact h3)
    have T1 := Lib.hid t1
    have T2 := Lib.hid t2
    clear h t1 t2 h3
    go_enter Try.func22, Try.ntmps22
    go_wp2_with (go_at_call 43; first | (with_reducible refine (c_isTyped a _ T1.out _ ha).mono ?_; rintro r_ w' ⟨rfl, rfl⟩) | (with_reducible refine (c_isTyped b _ T2.out _ hb).mono ?_; rintro r_ w' ⟨rfl, rfl⟩))
    go_returns
    exact ⟨rfl, Below.refl _ _⟩
  · rw [markA, h, if_neg (by decide)]
    clear h
    rcases hor with t1 | ⟨t1, t2⟩
    · have T1 := Lib.hid t1
      clear t1
      go_enter Try.func22, Try.ntmps22
      go_wp2_with (go_at_call 43; refine (c_isTyped a _ T1.out _ ha).mono ?_; rintro r_ w' ⟨rfl, rfl⟩)
      go_returns
      exact ⟨rfl, Below.refl _ _⟩
    · have T1 := Lib.hid t1
      have T2 := Lib.hid t2
      clear t1 t2
      go_enter Try.func22, Try.ntmps22
      go_wp2_with (go_at_call 43; first | (with_reducible refine (c_isTyped a _ T1.out _ ha).mono ?_; rintro r_ w' ⟨rfl, rfl⟩) | (with_reducible refine (c_isTyped b _ T2.out _ hb).mono ?_; rintro r_ w' ⟨rfl, rfl⟩))
      go_returns
      exact ⟨rfl, Below.refl _ _⟩
end Go.Proofs.Ythgoofjojanakaa
