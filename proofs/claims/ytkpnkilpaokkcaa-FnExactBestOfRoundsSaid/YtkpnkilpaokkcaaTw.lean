/- Small facts: sizes of texts in lists, what a size check answers, marks as texts. No program in sight. -/
import Derived.Test.YtkpnkilpaokkcaaMem
namespace Go.Proofs.Ytkpnkilpaokkcaa
open Go.RowKit

theorem ret_int {k : IntKind} {a b : Int} (h : a = b) : Ending.returned (.int k a) = .returned (.int k b) := by rw [h]
def wf64 (n : Int) : Prop := -9223372036854775808 ≤ n ∧ n ≤ 9223372036854775807
theorem wf64_of {n : Int} (h : (Lit.int .i64 n).wf = true) : wf64 n := by
  simp [Lit.wf, IntKind.min, IntKind.max, IntKind.signed, IntKind.bits] at h
  exact ⟨by omega, by omega⟩

/-- What is left of a bound; -1 if nothing. -/
def szV (n : Nat) (left : Int) : Int := if left - n < 0 then -1 else left - n
theorem szV_neg {n : Nat} {left : Int} (h : left - n < 0) : szV n left = -1 := if_pos h
theorem szV_pos {n : Nat} {left : Int} (h : 0 ≤ left - n) : szV n left = left - n := if_neg (by omega)

section
variable {α : Type} {f : α → Nat}
def sumW (f : α → Nat) (l : List α) : Nat := (l.map f).sum
theorem sumW_step {l : List α} {k : Nat} {x : α} (h : l[k]? = some x) : sumW f (l.take (k + 1)) = sumW f (l.take k) + f x := by
  simp [sumW, List.take_add_one, h]
theorem sumW_le (l : List α) (k : Nat) : sumW f (l.take k) ≤ sumW f l := by
  have e : sumW f l = sumW f (l.take k) + sumW f (l.drop k) := by
    simp only [sumW]
    rw [← List.sum_append, ← List.map_append, List.take_append_drop]
  omega
theorem sumW_mem {l : List α} {x : α} (h : x ∈ l) : f x ≤ sumW f l := by
  induction l with
  | nil => cases h
  | cons a l ih =>
    simp only [sumW, List.map_cons, List.sum_cons] at *
    rcases List.mem_cons.1 h with rfl | h
    · omega
    · have := ih h; omega
end

/-- The digits of a number ahead of a text. -/
def digA : Nat → List UInt8 → List UInt8
  | 0, l => l
  | n + 1, l => digA ((n + 1) / 10) (UInt8.ofNat (48 + (n + 1) % 10) :: l)
termination_by n => n
decreasing_by omega
/-- The mark with a number. -/
def mtxL (k : Nat) : List UInt8 := 109 :: (if k = 0 then [48] else digA k [])
def mtx (k : Nat) : ByteArray := ⟨(mtxL k).toArray⟩
end Go.Proofs.Ytkpnkilpaokkcaa
