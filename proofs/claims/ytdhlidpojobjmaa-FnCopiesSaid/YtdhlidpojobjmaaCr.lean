/- Plain laws of carbon copies. -/
import Derived.Test.YtdhlidpojobjmaaCq
namespace Go.Proofs.Ytdhlidpojobjmaa

theorem mul_le12 {s L : Int} (h0 : 0 ≤ s) (h1 : s ≤ 12) (l0 : 0 ≤ L) (l1 : L ≤ 84) : 0 ≤ s * L ∧ s * L ≤ 1008 :=
  ⟨Int.mul_nonneg h0 l0, Int.le_trans (Int.mul_le_mul h1 l1 l0 (by omega)) (by omega)⟩
theorem good_last {F L M : Int} (h : OkC F L M) : M ≤ max (F - (goodV F L M - 1) * L) 0 := by
  obtain ⟨h1, h2, h3, h4, h5, h6⟩ := h
  have e := Int.mul_ediv_add_emod (F - M) L
  have e2 := Int.emod_nonneg (F - M) (show L ≠ 0 by omega)
  have e3 : (goodV F L M - 1) * L ≤ (F - M) / L * L := by
    refine Int.mul_le_mul_of_nonneg_right ?_ (by omega)
    unfold goodV
    omega
  rw [Int.mul_comm L] at e
  omega
theorem good_next {F L M : Int} (h : OkC F L M) (h12 : goodV F L M < 12) : max (F - goodV F L M * L) 0 < M := by
  obtain ⟨h1, h2, h3, h4, h5, h6⟩ := h
  have e := Int.mul_ediv_add_emod (F - M) L
  have e2 := Int.emod_lt_of_pos (F - M) (show 0 < L by omega)
  have hg : goodV F L M = (F - M) / L + 1 := by
    unfold goodV at h12 ⊢
    omega
  rw [hg, Int.add_mul]
  rw [Int.mul_comm L] at e
  omega
theorem good_force {L M x : Int} (hL : 1 ≤ L) (h0 : 0 ≤ x) (h1 : x ≤ 11) : goodV (M + (1 + x - 1) * L) L M = 1 + x := by
  unfold goodV
  rw [show M + (1 + x - 1) * L - M = x * L by rw [show 1 + x - 1 = x by omega]; omega, Int.mul_ediv_cancel _ (by omega)]
  omega
theorem good_less {L M x : Int} (hL : 1 ≤ L) (h1 : x ≤ 11) : goodV (M + (1 + x - 1) * L - 1) L M < 1 + x := by
  unfold goodV
  have e : (M + (1 + x - 1) * L - 1 - M) / L < x := by
    apply Int.ediv_lt_of_lt_mul (by omega)
    rw [show 1 + x - 1 = x by omega]
    omega
  omega
theorem typ_law {k g : Int} (hg : 1 ≤ g) : k ≤ (k + g - 1) / g * g ∧ ((k + g - 1) / g - 1) * g < k := by
  have e := Int.mul_ediv_add_emod (k + g - 1) g
  have e1 := Int.emod_nonneg (k + g - 1) (show g ≠ 0 by omega)
  have e2 := Int.emod_lt_of_pos (k + g - 1) (show 0 < g by omega)
  rw [Int.mul_comm] at e
  rw [Int.sub_mul]
  omega
theorem typ_bd {k g : Int} (h0 : 0 ≤ k) (h1 : k ≤ 500) (hg : 1 ≤ g) (hg2 : g ≤ 12) : 0 ≤ (k + g - 1) / g ∧ (k + g - 1) / g ≤ 600 :=
  ⟨Int.ediv_nonneg (by omega) (by omega), Int.le_trans (Int.ediv_le_self _ (by omega)) (by omega)⟩
/-- All that the law asks of how often a page is typed. -/
theorem typ_facts {F L M k : Int} (h : OkC F L M) (h0 : 0 ≤ k) (h1 : k ≤ 500) : 0 ≤ typV F L M k ∧ typV F L M k ≤ 600 ∧ k ≤ typV F L M k * goodV F L M ∧ (typV F L M k - 1) * goodV F L M < k ∧ typV F L M k * goodV F L M ≤ 7200 ∧ -12 ≤ (typV F L M k - 1) * goodV F L M := by
  obtain ⟨g1, g2⟩ := goodV_bd h
  have b := typ_bd h0 h1 g1 g2
  have l := typ_law (k := k) g1
  unfold typV
  generalize goodV F L M = g at *
  generalize (k + g - 1) / g = t at *
  have m1 : t * g ≤ 600 * 12 := Int.mul_le_mul b.2 g2 (by omega) (by omega)
  have m2 := l.2
  have m3 := l.1
  rw [Int.sub_mul] at m2 ⊢
  omega
end Go.Proofs.Ytdhlidpojobjmaa
