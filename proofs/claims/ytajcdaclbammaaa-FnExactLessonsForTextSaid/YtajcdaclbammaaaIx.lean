/- Contracts: where a byte stands in a text; texts of letters. -/
import Derived.Test.YtajcdaclbammaaaTx
namespace Go.Proofs.Ytajcdaclbammaaa
open Go.RowKit Go.BigFrame
attribute [local go_sem] sub_cell sub_frozen drewN_setCell

/-- Where a byte stands first, counted from o on; -1 if nowhere. -/
def idxA : List UInt8 → UInt8 → Int → Int
  | [], _, _ => -1
  | a :: l, c, o => if a = c then o else idxA l c (o + 1)
theorem idx_at {l : List UInt8} {c : UInt8} {k : Nat} (o : Int) (h : l[k]? = some c) (hn : ∀ j, j < k → l[j]? ≠ some c) : idxA l c o = o + k := by
  induction l generalizing k o with
  | nil => simp at h
  | cons a l ih =>
    cases k with
    | zero => simp at h; simp [idxA, h]
    | succ k =>
      have h0 := hn 0 (by omega)
      simp at h0
      rw [idxA, if_neg h0, ih (k := k) (o + 1) (by simpa using h) (fun j hj => by simpa using hn (j + 1) (by omega))]
      omega
theorem idx_none {l : List UInt8} {c : UInt8} (o : Int) (hn : ∀ j : Nat, l[j]? ≠ some c) : idxA l c o = -1 := by
  induction l generalizing o with
  | nil => rfl
  | cons a l ih =>
    have h0 := hn 0
    simp at h0
    rw [idxA, if_neg h0]
    exact ih (o + 1) (fun j => by simpa using hn (j + 1))
theorem idx_le {l : List UInt8} {c : UInt8} {j : Nat} (o : Int) (h : l[j]? = some c) : idxA l c o ≤ o + j := by
  induction l generalizing j o with
  | nil => simp at h
  | cons a l ih =>
    rw [idxA]
    split
    · omega
    · rename_i hne
      cases j with
      | zero => simp at h; exact absurd h hne
      | succ j =>
        have := ih (j := j) (o + 1) (by simpa using h)
        omega
theorem idx_bd (l : List UInt8) (c : UInt8) (o : Int) (ho : 0 ≤ o) : -1 ≤ idxA l c o ∧ idxA l c o ≤ o + l.length := by
  induction l generalizing o with
  | nil => simp [idxA]; omega
  | cons a l ih =>
    rw [idxA]
    split
    · simp; omega
    · have := ih (o + 1) (by omega)
      simp; omega


end Go.Proofs.Ytajcdaclbammaaa
