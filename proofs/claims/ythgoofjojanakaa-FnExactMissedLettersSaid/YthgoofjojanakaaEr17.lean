/- Contracts: the share of letters that are right. -/
import Derived.Test.YthgoofjojanakaaEr16
import Derived.Test.YthgoofjojanakaaGc
import Derived.Test.YthgoofjojanakaaEr1
namespace Go.Proofs.Ythgoofjojanakaa
open Go.RowKit Go.BigFrame
attribute [local go_sem] sub_cell sub_frozen drewN_setCell

/-- How many letters are right. -/
def sameN (w t : List UInt8) : Nat := cntB 61 (alnL w t)
def accV (w t : List UInt8) : Value := if someC w t = 0 then .agg #[.int .i64 (lowN (sameN w t) w.length), .int .i64 (lowD (sameN w t) w.length)] else .agg #[.int .i64 0, .int .i64 0]
theorem accV_form (w t : List UInt8) : ∃ x y : Int, accV w t = .agg #[.int .i64 x, .int .i64 y] := by
  unfold accV
  split <;> exact ⟨_, _, rfl⟩
attribute [local go_sem] mt_toList cons_beq_nil nil_beq_nil
theorem u8_lit61 {a : UInt8} : ((a.toNat : Int) == 61) = (a == 61) := by
  have := u8_eq (a := a) (c := 61)
  exact this
set_option maxHeartbeats 2000000 in
theorem c_sAccuracyOf (a b : ByteArray) (w : World) (ha : a.size ≤ maxLen) (hb : b.size ≤ maxLen) :
    Calls Try.prog 32 #[.string a, .string b] w fun e w' => e = .returned (.tuple #[accV (bl a) (bl b), .int .i64 (someC (bl a) (bl b))]) ∧ Below w.heap.size w w' := by
  rcases someC_cases (bl a) (bl b) with ⟨h, _, t1, t2, h3⟩ | ⟨h, _, t1, t2, h3⟩ | ⟨h, _, _⟩
  · have C := Lib.hid (align_s a b (typB_len t1) (typB_len t2))
    have n1 := typB_len t1
    have n2 := typB_len t2
    have n3 := alnL_len (bl a) (bl b)
    have hn := cntB_le 61 (alnL (bl a) (bl b))
    rw [accV, h, if_pos rfl]
    have H := Lib.hid h
    rw [bl_len]
    rw [bl_len, bl_len] at n3
    rw [bl_len] at h3
    clear h t1 t2
    unfold sameN
    have c1 : (1 : Int) ≤ a.size := by omega
    have c2 : (0 : Int) ≤ a.size := by omega
    generalize alnL (bl a) (bl b) = L at *
    have hs : (sb L).size = L.length := sb_size L
    obtain ⟨M, hM⟩ : ∃ M, cntB 61 L = M := ⟨_, rfl⟩
    rw [hM] at hn ⊢
    have HM := Lib.hid hM
    clear hM
    have hg := gcdI_pos (a := (M : Int)) c1
    have g1 : (M : Int).tdiv (gcdI M a.size) = M / gcdI M a.size := Int.tdiv_eq_ediv_of_nonneg (by omega)
    have g2 : (a.size : Int).tdiv (gcdI M a.size) = a.size / gcdI M a.size := Int.tdiv_eq_ediv_of_nonneg (by omega)
    have g3 : 0 ≤ (M : Int) / gcdI M a.size ∧ (M : Int) / gcdI M a.size ≤ M := ⟨Int.ediv_nonneg (by omega) (by omega), Int.ediv_le_self _ (by omega)⟩
    have g4 : 0 ≤ (a.size : Int) / gcdI M a.size ∧ (a.size : Int) / gcdI M a.size ≤ a.size := ⟨Int.ediv_nonneg (by omega) (by omega), Int.ediv_le_self _ (by omega)⟩
    unfold lowN lowD
    go_enter Try.func32, Try.ntmps32
    go_wp2_with (first | (go_at_call 47; refine (c_l19Some _ _ _ H.out _ ha hb).mono ?_; rintro r_ w' ⟨rfl, rfl⟩) | (go_at_call 48; refine (C.out _).mono ?_; rintro r_ w1 ⟨rfl, hb1⟩; have hB1 := later hb1 (w := w) (by (repeat' (first | (with_reducible exact Below.refl _ _) | (with_reducible assumption) | (with_reducible refine below_drewN ?_ _) | (with_reducible refine Below.drew ?_) | (with_reducible refine Below.alloc ?_ ?_ _) | (with_reducible refine Below.setCell ?_ ?_ _) | go_size))); have hz1 := hB1.size; have hy1 := hb1.size; have k0 := hb1.cell (p := ⟨w.heap.size, 0, none⟩) (by simp); have k1 := hb1.cell (p := ⟨w.heap.size, 1, none⟩) (by simp); have f0 := hb1.frozen (p := ⟨w.heap.size, 0, none⟩) (by simp); have f1 := hb1.frozen (p := ⟨w.heap.size, 1, none⟩) (by simp); simp [go_sem] at k0 k1 f0 f1; simp only [World.size_alloc] at hy1; have hl1 : w.heap.size < w1.heap.size := (by omega); clear hb1))
    go_loop [8, 9] (fun q i => ∃ k m : Nat, k ≤ L.length ∧ m ≤ k ∧ i = .int .i64 k ∧ q = .int .i64 m ∧ Hid (cntB 61 (L.take k) = m)) (fun _ i => L.length - (intOf i).toNat)
    case atStart => exact ⟨0, 0, Nat.zero_le _, Nat.zero_le _, rfl, rfl, rfl⟩
    case round =>
      obtain ⟨k, m, hk, hm, rfl, rfl, hn1⟩ := hrel
      by_cases hlt : k < L.length
      · have hks : k < (sb L).size := by omega
        have hgt := Lib.hid (cntB_step (c := 61) (show L[k]? = some (sb L)[k] from by have := bl_get (sb L) k hks; rwa [bl_sb] at this))
        have q1 : (((sb L)[k].toNat : Int) == 61) = ((sb L)[k] == 61) := u8_lit61
        cases f1 : ((sb L)[k] == 61) <;> rw [f1] at q1 <;> have F := Lib.hid f1 <;> clear f1
        · go_wp2_with fail
          go_round
          case rel => exact ⟨k + 1, m, by omega, by omega, by go_num, rfl, by have h1 := hgt.out; rw [F.out, hn1.out] at h1; exact h1⟩
          case measure => simp [intOf]; omega
        · go_wp2_with fail
          go_round
          case rel => exact ⟨k + 1, m + 1, by omega, by omega, by go_num, by go_num, by have h1 := hgt.out; rw [F.out, hn1.out] at h1; exact h1⟩
          case measure => simp [intOf]; omega
      · obtain rfl : m = M := by
          have h1 := hn1.out
          rw [List.take_of_length_le (by omega)] at h1
          exact h1.symm.trans HM.out
        go_wp2_with (go_at_call 52; refine (c_l00Gcd _ _ _ (by omega) c2).mono ?_; rintro e w' ⟨rfl, rfl⟩)
        go_region
        all_goals
          go_wp2_with fail
          refine bodyPost_ret (by simp [results, Try.results32, go_sem, *]; try rfl) rfl ?_
          exact ⟨rfl, by (repeat' (first | (with_reducible exact Below.refl _ _) | (with_reducible assumption) | (with_reducible refine below_drewN ?_ _) | (with_reducible refine Below.drew ?_) | (with_reducible refine Below.alloc ?_ ?_ _) | (with_reducible refine Below.setCell ?_ ?_ _) | go_size))⟩
  · rw [accV, h, if_neg (by decide)]
    have H := Lib.hid h
    clear h
    go_enter Try.func32, Try.ntmps32
    go_wp2_with (go_at_call 47; refine (c_l19Some _ _ _ H.out _ ha hb).mono ?_; rintro r_ w' ⟨rfl, rfl⟩)
    go_returns
    exact ⟨rfl, by (repeat' (first | (with_reducible exact Below.refl _ _) | (with_reducible assumption) | (with_reducible refine below_drewN ?_ _) | (with_reducible refine Below.drew ?_) | (with_reducible refine Below.alloc ?_ ?_ _) | (with_reducible refine Below.setCell ?_ ?_ _) | go_size))⟩
  · rw [accV, h, if_neg (by decide)]
    have H := Lib.hid h
    clear h
    go_enter Try.func32, Try.ntmps32
    go_wp2_with (go_at_call 47; refine (c_l19Some _ _ _ H.out _ ha hb).mono ?_; rintro r_ w' ⟨rfl, rfl⟩)
    go_returns
    exact ⟨rfl, by (repeat' (first | (with_reducible exact Below.refl _ _) | (with_reducible assumption) | (with_reducible refine below_drewN ?_ _) | (with_reducible refine Below.drew ?_) | (with_reducible refine Below.alloc ?_ ?_ _) | (with_reducible refine Below.setCell ?_ ?_ _) | go_size))⟩
set_option maxHeartbeats 2000000 in
theorem c_iAccuracyOf (a b : ByteArray) (w : World) (ha : a.size ≤ maxLen) (hb : b.size ≤ maxLen) :
    Calls Try.prog 33 #[.string a, .string b] w fun e w' => e = .returned (.tuple #[accV (bl a) (bl b), .int .i64 (someC (bl a) (bl b))]) ∧ Below w.heap.size w w' := by
  rcases someC_cases (bl a) (bl b) with ⟨h, _, t1, t2, h3⟩ | ⟨h, _, t1, t2, h3⟩ | ⟨h, _, hor⟩
  · have C := Lib.hid (align_i a b (typB_len t1) (typB_len t2))
    have n1 := typB_len t1
    have n2 := typB_len t2
    have n3 := alnL_len (bl a) (bl b)
    obtain ⟨x, l, hT⟩ := toList_cons (s := a) (by rw [← bl_len]; exact h3)
    have T1 := Lib.hid t1
    have T2 := Lib.hid t2
    have hn := cntB_le 61 (alnL (bl a) (bl b))
    rw [accV, h, if_pos rfl]
    rw [bl_len]
    rw [bl_len, bl_len] at n3
    rw [bl_len] at h3
    clear h t1 t2
    unfold sameN
    have c1 : (1 : Int) ≤ a.size := by omega
    have c2 : (0 : Int) ≤ a.size := by omega
    generalize alnL (bl a) (bl b) = L at *
    have hs : (sb L).size = L.length := sb_size L
    obtain ⟨M, hM⟩ : ∃ M, cntB 61 L = M := ⟨_, rfl⟩
    rw [hM] at hn ⊢
    have HM := Lib.hid hM
    clear hM
    have hg := gcdI_pos (a := (M : Int)) c1
    have g1 : (M : Int).tdiv (gcdI M a.size) = M / gcdI M a.size := Int.tdiv_eq_ediv_of_nonneg (by omega)
    have g2 : (a.size : Int).tdiv (gcdI M a.size) = a.size / gcdI M a.size := Int.tdiv_eq_ediv_of_nonneg (by omega)
    have g3 : 0 ≤ (M : Int) / gcdI M a.size ∧ (M : Int) / gcdI M a.size ≤ M := ⟨Int.ediv_nonneg (by omega) (by omega), Int.ediv_le_self _ (by omega)⟩
    have g4 : 0 ≤ (a.size : Int) / gcdI M a.size ∧ (a.size : Int) / gcdI M a.size ≤ a.size := ⟨Int.ediv_nonneg (by omega) (by omega), Int.ediv_le_self _ (by omega)⟩
    have CB : Hid (∀ W : World, Calls Try.prog 40 #[.string (sb L), .int .u8 61] W fun r w' => r = .returned (.int .i64 (M : Int)) ∧ W = w') := fun W => by
      have h1 := c_countByte (sb L) 61 W (by unfold maxLen; omega)
      rw [bl_sb, HM.out] at h1
      exact h1
    clear g1 g2 g3 g4 hg
    go_enter Try.func33, Try.ntmps33
    go_wp2_with (first | (go_at_call 43; first | (with_reducible refine (c_isTyped a _ T1.out _ ha).mono ?_; rintro r_ w' ⟨rfl, rfl⟩) | (with_reducible refine (c_isTyped b _ T2.out _ hb).mono ?_; rintro r_ w' ⟨rfl, rfl⟩)) | (go_at_call 49; refine (C.out _).mono ?_; rintro r_ w1 ⟨rfl, hb1⟩; have hB1 := later hb1 (w := w) (by (repeat' (first | (with_reducible exact Below.refl _ _) | (with_reducible assumption) | (with_reducible refine below_drewN ?_ _) | (with_reducible refine Below.drew ?_) | (with_reducible refine Below.alloc ?_ ?_ _) | (with_reducible refine Below.setCell ?_ ?_ _) | go_size))); have hz1 := hB1.size; have hy1 := hb1.size; have k0 := hb1.cell (p := ⟨w.heap.size, 0, none⟩) (by simp); have k1 := hb1.cell (p := ⟨w.heap.size, 1, none⟩) (by simp); have f0 := hb1.frozen (p := ⟨w.heap.size, 0, none⟩) (by simp); have f1 := hb1.frozen (p := ⟨w.heap.size, 1, none⟩) (by simp); simp [go_sem] at k0 k1 f0 f1; simp only [World.size_alloc] at hy1; have hl1 : w.heap.size < w1.heap.size := (by omega); clear hb1) | (go_at_call 40; refine (CB.out _).mono ?_; rintro r_ w' ⟨rfl, rfl⟩) | (go_at_call 53; refine (c_lowest _ _ _ (by omega) (by omega) c1 (by omega)).mono ?_; rintro r_ w' ⟨rfl, n3, rfl⟩))
    refine bodyPost_ret (by simp [results, Try.results33, go_sem, *]; try rfl) rfl ?_
    exact ⟨rfl, by (repeat' (first | (with_reducible exact Below.refl _ _) | (with_reducible assumption) | (with_reducible refine below_drewN ?_ _) | (with_reducible refine Below.drew ?_) | (with_reducible refine Below.alloc ?_ ?_ _) | (with_reducible refine Below.setCell ?_ ?_ _) | go_size))⟩
  · rw [accV, h, if_neg (by decide)]
    have hT := toList_nil (s := a) (by rw [← bl_len]; exact h3)
    have T1 := Lib.hid t1
    have T2 := Lib.hid t2
    clear h t1 t2 h3
    go_enter Try.func33, Try.ntmps33
    go_wp2_with (go_at_call 43; first | (with_reducible refine (c_isTyped a _ T1.out _ ha).mono ?_; rintro r_ w' ⟨rfl, rfl⟩) | (with_reducible refine (c_isTyped b _ T2.out _ hb).mono ?_; rintro r_ w' ⟨rfl, rfl⟩))
    go_returns
    exact ⟨rfl, by (repeat' (first | (with_reducible exact Below.refl _ _) | (with_reducible assumption) | (with_reducible refine below_drewN ?_ _) | (with_reducible refine Below.drew ?_) | (with_reducible refine Below.alloc ?_ ?_ _) | (with_reducible refine Below.setCell ?_ ?_ _) | go_size))⟩
  · rw [accV, h, if_neg (by decide)]
    clear h
    rcases hor with t1 | ⟨t1, t2⟩
    · have T1 := Lib.hid t1
      clear t1
      go_enter Try.func33, Try.ntmps33
      go_wp2_with (go_at_call 43; refine (c_isTyped a _ T1.out _ ha).mono ?_; rintro r_ w' ⟨rfl, rfl⟩)
      go_returns
      exact ⟨rfl, by (repeat' (first | (with_reducible exact Below.refl _ _) | (with_reducible assumption) | (with_reducible refine below_drewN ?_ _) | (with_reducible refine Below.drew ?_) | (with_reducible refine Below.alloc ?_ ?_ _) | (with_reducible refine Below.setCell ?_ ?_ _) | go_size))⟩
    · have T1 := Lib.hid t1
      have T2 := Lib.hid t2
      clear t1 t2
      go_enter Try.func33, Try.ntmps33
      go_wp2_with (go_at_call 43; first | (with_reducible refine (c_isTyped a _ T1.out _ ha).mono ?_; rintro r_ w' ⟨rfl, rfl⟩) | (with_reducible refine (c_isTyped b _ T2.out _ hb).mono ?_; rintro r_ w' ⟨rfl, rfl⟩))
      go_returns
      exact ⟨rfl, by (repeat' (first | (with_reducible exact Below.refl _ _) | (with_reducible assumption) | (with_reducible refine below_drewN ?_ _) | (with_reducible refine Below.drew ?_) | (with_reducible refine Below.alloc ?_ ?_ _) | (with_reducible refine Below.setCell ?_ ?_ _) | go_size))⟩
end Go.Proofs.Ythgoofjojanakaa
