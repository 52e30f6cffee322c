/- Contracts: the fastest test. -/
import Derived.Test.YtjigkogopmebeaaTr2
namespace Go.Proofs.Ytjigkogopmebeaa
open Go.RowKit Go.BigFrame
attribute [local go_sem] sub_cell sub_frozen drewN_setCell

/-- Two tests of a slice, in a later world. -/
theorem tr_at2 {w wr : World} {A : Option Addr} {n k j : Nat} {l : List Tri} (h : Sl trc w w.heap.size 3 A n l) (hb : Below w.heap.size w wr) (hk : k < n) (hj : j < n) :
    ∃ b o s e t s' e' t', A = some ⟨b, o, none⟩ ∧ b < wr.heap.size ∧ b < w.heap.size ∧ l[k]? = some (s, e, t) ∧ l[j]? = some (s', e', t') ∧
      wr.cell? ⟨b, o + k * 3, none⟩ = some (.int .i64 s) ∧ wr.cell? ⟨b, o + k * 3 + 1, none⟩ = some (.int .i64 e) ∧ wr.cell? ⟨b, o + k * 3 + 2, none⟩ = some (.int .i64 t) ∧
      wr.cell? ⟨b, o + j * 3, none⟩ = some (.int .i64 s') ∧ wr.cell? ⟨b, o + j * 3 + 1, none⟩ = some (.int .i64 e') ∧ wr.cell? ⟨b, o + j * 3 + 2, none⟩ = some (.int .i64 t') := by
  obtain ⟨b, o, s, e, t, hA, h1, h2, h3, c0, c1, c2⟩ := tr_at h hb hk
  obtain ⟨b', o', s', e', t', hA', _, _, h3', c0', c1', c2'⟩ := tr_at h hb hj
  rw [hA] at hA'
  simp only [Option.some.injEq, Addr.mk.injEq, and_true] at hA'
  obtain ⟨rfl, rfl⟩ := hA'
  exact ⟨b, o, s, e, t, s', e', t', hA, h1, h2, h3, h3', c0, c1, c2, c0', c1', c2'⟩

/-- The fastest of the first k tests. -/
def bestN (l : List Tri) (pe : Int) : Nat → Nat
  | 0 => 0
  | k + 1 => if slowB pe (l.getD (bestN l pe k) (0, 0, 0)) (l.getD k (0, 0, 0)) then k else bestN l pe k
theorem bestN_lt (l : List Tri) (pe : Int) (k : Nat) : bestN l pe (k + 1) ≤ k := by
  induction k with
  | zero => simp [bestN]
  | succ k ih =>
    rw [bestN]
    split <;> omega
theorem bestN_le (l : List Tri) (pe : Int) (k : Nat) : bestN l pe k ≤ k := by
  cases k with
  | zero => simp [bestN]
  | succ k => have := bestN_lt l pe k; omega
theorem bestN_yes {l : List Tri} {pe : Int} {k q : Nat} {x y : Tri} (hq : bestN l pe k = q) (hx : l[q]? = some x) (hy : l[k]? = some y) (h : slowB pe x y = true) : bestN l pe (k + 1) = k := by
  rw [bestN, hq]
  simp [List.getD, hx, hy, h]
theorem bestN_no {l : List Tri} {pe : Int} {k q : Nat} {x y : Tri} (hq : bestN l pe k = q) (hx : l[q]? = some x) (hy : l[k]? = some y) (h : slowB pe x y = false) : bestN l pe (k + 1) = q := by
  rw [bestN, hq]
  simp [List.getD, hx, hy, h]

def fastV (l : List Tri) (pe : Int) : Value :=
  if codeS l pe = 0 then .tuple #[.int .i64 (bestN l pe l.length : Nat), .int .i64 0] else .tuple #[.int .i64 0, .int .i64 (codeS l pe)]
theorem fastV_form (l : List Tri) (pe : Int) : ∃ x y, fastV l pe = .tuple #[.int .i64 x, .int .i64 y] := by
  unfold fastV
  split <;> exact ⟨_, _, rfl⟩
theorem fastV_err {l : List Tri} {pe c : Int} (h : codeS l pe = c) (hc : c ≠ 0) : Ending.returned (.tuple #[.int .i64 0, .int .i64 c]) = .returned (fastV l pe) := by
  rw [fastV, h, if_neg hc]
theorem fastV_ok {l : List Tri} {pe : Int} {n q : Nat} (h : codeS l pe = 0) (hl : l.length = n) (hq : bestN l pe n = q) : Ending.returned (.tuple #[.int .i64 (q : Int), .int .i64 0]) = .returned (fastV l pe) := by
  rw [fastV, if_pos h, hl, hq]
theorem codeS_cases (l : List Tri) (pe : Int) : codeS l pe = 0 ∨ codeS l pe = 1 ∨ codeS l pe = 2 ∨ codeS l pe = 3 := by
  unfold codeS
  split
  · simp
  · rcases codeL_cases l pe with h | h | h <;> simp [h]
theorem codeS_zero {l : List Tri} {pe : Int} (h : codeS l pe = 0) : codeL l pe = 0 ∧ 0 < l.length := by
  unfold codeS at h
  split at h
  · cases h
  · rename_i hn
    exact ⟨h, by omega⟩


end Go.Proofs.Ytjigkogopmebeaa
