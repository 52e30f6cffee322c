/- The letters that were not typed right: plain facts on steps. No program in sight. -/
import Derived.Test.YthgoofjojanakaaEr17
import Derived.Test.YthgoofjojanakaaSo
namespace Go.Proofs.Ythgoofjojanakaa
open Go.RowKit

/-- The letters of w at which steps miss. -/
def misL : List UInt8 → List UInt8 → List UInt8
  | _, [] => []
  | w, c :: L => (if c = 120 ∨ c = 45 then w.take 1 else []) ++ misL (w.drop (stD c)) L
/-- Steps that can be made along w. -/
def fitS : List UInt8 → List UInt8 → Prop
  | _, [] => True
  | w, c :: L => c ∈ steps5 ∧ stD c ≤ w.length ∧ fitS (w.drop (stD c)) L
theorem fitS_aln : ∀ (n : Nat) (w t : List UInt8), w.length + t.length ≤ n → fitS w (alnL w t) := by
  intro n
  induction n with
  | zero =>
    intro w t h
    rw [List.eq_nil_of_length_eq_zero (l := w) (by omega), List.eq_nil_of_length_eq_zero (l := t) (by omega), alnL_nil]
    trivial
  | succ n ih =>
    intro w t h
    by_cases h0 : 0 < w.length + t.length
    · obtain ⟨c, hc⟩ := nxt_some h0
      obtain ⟨h1, h2, h3⟩ := okS_len (nxt_ok hc).1
      rw [alnL_step h0 hc]
      exact ⟨(nxt_ok hc).2, h1, ih _ _ (by simp only [List.length_drop]; omega)⟩
    · rw [List.eq_nil_of_length_eq_zero (l := w) (by omega), List.eq_nil_of_length_eq_zero (l := t) (by omega), alnL_nil]
      trivial
theorem misL_mem {w L : List UInt8} {c : UInt8} (h : c ∈ misL w L) : c ∈ w := by
  induction L generalizing w with
  | nil => cases h
  | cons d L ih =>
    rcases List.mem_append.1 h with h | h
    · split at h
      · exact List.mem_of_mem_take h
      · cases h
    · exact List.mem_of_mem_drop (ih h)
/-- Behind i steps, at letter a: S has been missed so far. -/
structure MisInv (W L : List UInt8) (i a : Nat) (S : List UInt8) : Prop where
  fit : fitS (W.drop a) (L.drop i)
  sum : S ++ misL (W.drop a) (L.drop i) = misL W L
  len : S.length ≤ i
  at_ : a ≤ W.length
section
variable {W L S : List UInt8} {i a : Nat} {c : UInt8}
theorem MisInv.start (h : fitS W L) : MisInv W L 0 0 [] := ⟨h, rfl, Nat.le_refl _, Nat.zero_le _⟩
theorem MisInv.at_step (h : MisInv W L i a S) (hc : L[i]? = some c) : c ∈ steps5 ∧ a + stD c ≤ W.length := by
  have h1 := h.fit
  obtain ⟨hi, rfl⟩ := List.getElem?_eq_some_iff.1 hc
  rw [List.drop_eq_getElem_cons hi] at h1
  have h2 := h1.2.1
  rw [List.length_drop] at h2
  have := h.at_
  exact ⟨h1.1, by omega⟩
theorem MisInv.skip (h : MisInv W L i a S) (hc : L[i]? = some c) (hno : ¬ (c = 120 ∨ c = 45)) : MisInv W L (i + 1) (a + stD c) S := by
  have h0 := (h.at_step hc).2
  obtain ⟨hi, rfl⟩ := List.getElem?_eq_some_iff.1 hc
  have h1 := h.fit
  have h2 := h.sum
  have h3 := h.len
  rw [List.drop_eq_getElem_cons hi] at h1 h2
  refine ⟨?_, ?_, by omega, h0⟩
  · have := h1.2.2; rwa [List.drop_drop] at this
  · simp only [misL, if_neg hno, List.nil_append, List.drop_drop] at h2
    exact h2
theorem MisInv.miss {u : UInt8} (h : MisInv W L i a S) (hc : L[i]? = some c) (hy : c = 120 ∨ c = 45) (hu : W[a]? = some u) : MisInv W L (i + 1) (a + 1) (S ++ [u]) := by
  have hd : stD c = 1 := by rcases hy with rfl | rfl <;> decide
  have h0 := (h.at_step hc).2
  obtain ⟨hi, rfl⟩ := List.getElem?_eq_some_iff.1 hc
  have h1 := h.fit
  have h2 := h.sum
  have h3 := h.len
  rw [List.drop_eq_getElem_cons hi] at h1 h2
  refine ⟨?_, ?_, by simp; omega, by omega⟩
  · have := h1.2.2; rw [List.drop_drop, hd] at this; exact this
  · simp only [misL, if_pos hy, List.drop_drop, hd] at h2
    obtain ⟨ha, rfl⟩ := List.getElem?_eq_some_iff.1 hu
    rw [show List.take 1 (W.drop a) = [W[a]] by rw [List.drop_eq_getElem_cons ha]; rfl] at h2
    simpa using h2
theorem MisInv.done (h : MisInv W L i a S) (hi : L.length ≤ i) : S = misL W L := by
  have := h.sum
  rw [List.drop_eq_nil_of_le hi] at this
  simpa [misL] using this
end
/-- How often letter j stands in a list. -/
def cntM (S : List UInt8) (j : Nat) : Nat := S.countP fun c => c.toNat == j
theorem cntM_snoc (S : List UInt8) (c : UInt8) (j : Nat) : cntM (S ++ [c]) j = cntM S j + if j = c.toNat then 1 else 0 := by
  unfold cntM
  rw [List.countP_append]
  by_cases h : j = c.toNat
  · subst h; simp
  · have : (c.toNat == j) = false := by rw [beq_eq_false_iff_ne]; exact fun e => h e.symm
    simp [this, h]
theorem cntM_le (S : List UInt8) (j : Nat) : cntM S j ≤ S.length := List.countP_le_length
theorem cntM_pos {S : List UInt8} {c : UInt8} : 0 < cntM S c.toNat ↔ c ∈ S := by
  unfold cntM
  rw [List.countP_pos_iff]
  constructor
  · rintro ⟨x, hx, he⟩
    simp only [beq_iff_eq] at he
    rw [← UInt8.toNat_inj.1 he]; exact hx
  · exact fun h => ⟨c, h, by simp⟩
/-- The numbers of a list of letters. -/
def cntZ (S : List UInt8) (l : List UInt8) : List Int := l.map fun c => ((cntM S c.toNat : Nat) : Int)
end Go.Proofs.Ythgoofjojanakaa
