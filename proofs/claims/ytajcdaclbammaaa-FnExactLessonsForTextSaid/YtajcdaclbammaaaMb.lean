/- Rows of bools that mark numbers. -/
import Derived.Test.YtajcdaclbammaaaRl
namespace Go.Proofs.Ytajcdaclbammaaa
open Go.RowKit Go.BigFrame
def mkB (n : Nat) (S : List Int) : List Bool := (List.range n).map fun (i : Nat) => decide ((i : Int) ∈ S)
theorem mkB_len (n : Nat) (S : List Int) : (mkB n S).length = n := by simp [mkB]
theorem mkB_get {n i : Nat} (S : List Int) (h : i < n) : (mkB n S).getD i false = decide ((i : Int) ∈ S) := by
  simp [mkB, List.getD_eq_getElem?_getD, h]
theorem mkB_nil (n : Nat) : mkB n [] = List.replicate n false := by
  apply List.ext_getElem?
  intro i
  simp only [mkB, List.getElem?_map, List.getElem?_replicate]
  by_cases h : i < n
  · simp [h]
  · simp [h]
theorem mkB_set {n k : Nat} (S : List Int) : (mkB n S).set k true = mkB n (S ++ [(k : Int)]) := by
  apply List.ext_getElem?
  intro i
  by_cases h : i < n
  · by_cases e : i = k
    · subst e
      rw [List.getElem?_set_self (by rw [mkB_len]; exact h)]
      simp [mkB, h]
    · rw [List.getElem?_set_ne (fun q => e q.symm)]
      simp [mkB, h]
      intro q; omega
  · rw [List.getElem?_eq_none (by simp [mkB_len]; omega), List.getElem?_eq_none (by simp [mkB_len]; omega)]
theorem mkB_congr {n : Nat} {S S' : List Int} (h : ∀ x, x ∈ S ↔ x ∈ S') : mkB n S = mkB n S' := by
  unfold mkB
  apply List.map_congr_left
  intro i _
  rw [Bool.eq_iff_iff, decide_eq_true_eq, decide_eq_true_eq]
  exact h _
/-- How many places of a row of bools have no mark. -/
def cntF (w : World) (g : Nat) : Nat → Nat
  | 0 => 0
  | k + 1 => cntF w g k + match w.cell? ⟨g, k, none⟩ with | some (.bool false) => 1 | _ => 0
def lenV : Value → Nat
  | .slice _ n _ => n
  | _ => 0
theorem own_cell {w : World} {base n c g sz j : Nat} {e : TypeId} {xs : List Value} {u : Value} (h : w.ownsRow base e sz (.slice (some ⟨g, 0, none⟩) n c) n xs) (hj : xs[j]? = some u) : w.cell? ⟨g, j, none⟩ = some u := by
  have := h.cells (g := g) rfl j u hj
  rwa [Addr.add_lit, Nat.zero_add] at this
end Go.Proofs.Ytajcdaclbammaaa
