/- The least alignment of two texts, step by step. No program in sight. -/
import Derived.Test.YthgoofjojanakaaEr9
namespace Go.Proofs.Ythgoofjojanakaa

/-- A step that can be made and leads on with the least number of errors. -/
def okS (w t : List UInt8) (c : UInt8) : Bool := stO w t c && decide (cst (w.drop (stD c)) (t.drop (stK c)) + (stE c : Int) = cst w t)
def nxt (w t : List UInt8) : Option UInt8 := steps5.find? (okS w t)
def aln : Nat → List UInt8 → List UInt8 → List UInt8
  | 0, _, _ => []
  | f + 1, w, t => if w.isEmpty && t.isEmpty then [] else match nxt w t with | some c => c :: aln f (w.drop (stD c)) (t.drop (stK c)) | none => []
/-- The least alignment. -/
def alnL (w t : List UInt8) : List UInt8 := aln (w.length + t.length) w t
theorem nxt_ok {w t : List UInt8} {c : UInt8} (h : nxt w t = some c) : okS w t c = true ∧ c ∈ steps5 := by
  unfold nxt at h
  exact ⟨List.find?_some h, List.mem_of_find?_eq_some h⟩
theorem okS_len {w t : List UInt8} {c : UInt8} (h : okS w t c = true) : stD c ≤ w.length ∧ stK c ≤ t.length ∧ 1 ≤ stD c + stK c := by
  simp only [okS, Bool.and_eq_true] at h
  exact ⟨(stO_len h.1).1, (stO_len h.1).2, stDK_pos h.1⟩
theorem aln_more (f : Nat) : ∀ (w t : List UInt8), w.length + t.length ≤ f → aln (f + 1) w t = aln f w t := by
  induction f with
  | zero =>
    intro w t h
    have hw : w = [] := List.eq_nil_of_length_eq_zero (by omega)
    have ht : t = [] := List.eq_nil_of_length_eq_zero (by omega)
    subst hw ht
    rfl
  | succ f ih =>
    intro w t h
    rw [aln, aln]
    split
    · rfl
    · cases hn : nxt w t with
      | none => rfl
      | some c =>
        obtain ⟨h1, h2, h3⟩ := okS_len (nxt_ok hn).1
        dsimp only
        rw [ih _ _ (by simp only [List.length_drop]; omega)]
theorem aln_eq (f : Nat) (w t : List UInt8) (h : w.length + t.length ≤ f) : aln f w t = alnL w t := by
  obtain ⟨d, rfl⟩ : ∃ d, f = w.length + t.length + d := ⟨f - (w.length + t.length), by omega⟩
  clear h
  induction d with
  | zero => rfl
  | succ d ih => rw [← Nat.add_assoc, aln_more _ _ _ (by omega), ih]
theorem alnL_nil : alnL [] [] = [] := rfl
theorem alnL_step {w t : List UInt8} {c : UInt8} (hne : 0 < w.length + t.length) (h : nxt w t = some c) : alnL w t = c :: alnL (w.drop (stD c)) (t.drop (stK c)) := by
  obtain ⟨h1, h2, h3⟩ := okS_len (nxt_ok h).1
  rw [← aln_eq (w.length + t.length + 1) w t (by omega), aln, h]
  have : (w.isEmpty && t.isEmpty) = false := by
    cases w with
    | nil => cases t with
      | nil => simp at hne
      | cons b t => rfl
    | cons a w => rfl
  rw [this]
  simp only [Bool.false_eq_true, if_false]
  rw [aln_eq _ _ _ (by simp only [List.length_drop]; omega)]
theorem lst_att (g : List UInt8 → List UInt8 → Int) (w t : List UInt8) (cs : List UInt8) : ∀ b, lst g w t cs b = b ∨ ∃ c ∈ cs, cand g w t c = some (lst g w t cs b) := by
  induction cs with
  | nil => intro b; exact .inl rfl
  | cons d cs ih =>
    intro b
    rw [lst]
    rcases ih (upd b (cand g w t d)) with h | ⟨c, hc, h⟩
    · unfold upd at h ⊢
      cases hd : cand g w t d with
      | none => rw [hd] at h; exact .inl h
      | some v =>
        rw [hd] at h
        dsimp only at h ⊢
        split at h
        · rename_i hcond
          rw [if_pos hcond]
          exact .inr ⟨d, by simp, by rw [hd, h]⟩
        · rename_i hcond
          rw [if_neg hcond]
          exact .inl h
    · exact .inr ⟨c, by simp [hc], h⟩
theorem nxt_some {w t : List UInt8} (hne : 0 < w.length + t.length) : ∃ c, nxt w t = some c := by
  have hex : ∃ c ∈ steps5, ∃ v, cand cst w t c = some v := by
    cases w with
    | nil =>
      cases t with
      | nil => simp at hne
      | cons b t => exact ⟨43, by decide, _, by rw [cand, o43]; rfl⟩
    | cons a w => exact ⟨45, by decide, _, by rw [cand, o45]; rfl⟩
  obtain ⟨c0, hc0, v0, hv0⟩ := hex
  have hle := (lst_le w t steps5 (-1) (by omega)).2.2 c0 v0 hc0 hv0
  have hpos : 0 ≤ lst cst w t steps5 (-1) := by
    rcases lst_att cst w t steps5 (-1) with h | ⟨c, hc, h⟩
    · exfalso
      have : ∀ (cs : List UInt8) (b : Int), -1 ≤ b → (0 ≤ b ∨ ∃ c ∈ cs, ∃ v, cand cst w t c = some v) → 0 ≤ lst cst w t cs b := by
        intro cs
        induction cs with
        | nil =>
          intro b _ hor
          rcases hor with h | ⟨c, hc, _⟩
          · exact h
          · cases hc
        | cons d cs ih =>
          intro b hb hor
          obtain ⟨u1, u2, u3, u4⟩ := upd_le (o := cand cst w t d) hb (cand_nonneg w t d)
          rw [lst]
          refine ih _ u1 ?_
          rcases hor with h | ⟨c, hc, v, hv⟩
          · exact .inl (u4 h)
          · rcases List.mem_cons.1 hc with rfl | hc
            · exact .inl (u3 v hv).2
            · exact .inr ⟨c, hc, v, hv⟩
      have := this steps5 (-1) (by omega) (.inr ⟨c0, hc0, v0, hv0⟩)
      omega
    · exact cand_nonneg w t c _ h
  rcases lst_att cst w t steps5 (-1) with h | ⟨c, hc, h⟩
  · omega
  · have e : cst w t = lst cst w t steps5 (-1) := by rw [cst_step]; omega
    rw [← e] at h
    have hok : okS w t c = true := by
      unfold cand at h
      split at h
      · rename_i ho
        simp only [Option.some.injEq] at h
        simp [okS, ho, h]
      · cases h
    cases hn : nxt w t with
    | some d => exact ⟨d, rfl⟩
    | none =>
      unfold nxt at hn
      rw [List.find?_eq_none] at hn
      exact absurd hok (hn c hc)
theorem steps5_eq : steps5 = [step5 0, step5 1, step5 2, step5 3, step5 4] := rfl
theorem nxt_at {w t : List UInt8} {j : Nat} (hj : j < 5) (hno : ∀ q, q < j → okS w t (step5 q) = false) (h : okS w t (step5 j) = true) : nxt w t = some (step5 j) := by
  unfold nxt
  rw [steps5_eq]
  match j, hj with
  | 0, _ => simp [List.find?_cons, h]
  | 1, _ => simp [List.find?_cons, h, hno 0 (by omega)]
  | 2, _ => simp [List.find?_cons, h, hno 0 (by omega), hno 1 (by omega)]
  | 3, _ => simp [List.find?_cons, h, hno 0 (by omega), hno 1 (by omega), hno 2 (by omega)]
  | 4, _ => simp [List.find?_cons, h, hno 0 (by omega), hno 1 (by omega), hno 2 (by omega), hno 3 (by omega)]
theorem nxt_none {w t : List UInt8} (h : ∀ q, q < 5 → okS w t (step5 q) = false) : nxt w t = none := by
  unfold nxt
  rw [steps5_eq]
  simp [List.find?_cons, h 0 (by omega), h 1 (by omega), h 2 (by omega), h 3 (by omega), h 4 (by omega)]
/-- So far, and what is still to come. -/
def AlnInv (W T : List UInt8) (i k : Nat) (l : List UInt8) : Prop := l ++ alnL (W.drop i) (T.drop k) = alnL W T
theorem AlnInv.start (W T : List UInt8) : AlnInv W T 0 0 [] := rfl
theorem AlnInv.step {W T : List UInt8} {i k : Nat} {l : List UInt8} {c : UInt8} (h : AlnInv W T i k l) (hne : i < W.length ∨ k < T.length) (hn : nxt (W.drop i) (T.drop k) = some c) : AlnInv W T (i + stD c) (k + stK c) (l ++ [c]) := by
  unfold AlnInv at *
  rw [alnL_step (by simp only [List.length_drop]; omega) hn, List.drop_drop, List.drop_drop] at h
  rw [← h, List.append_assoc]
  rfl
theorem AlnInv.done {W T : List UInt8} {i k : Nat} {l : List UInt8} (h : AlnInv W T i k l) (hi : W.length ≤ i) (hk : T.length ≤ k) : l = alnL W T := by
  unfold AlnInv at h
  rw [List.drop_of_length_le hi, List.drop_of_length_le hk, alnL_nil, List.append_nil] at h
  exact h
/-- An alignment has not more steps than the texts have letters. -/
theorem aln_len (f : Nat) : ∀ (w t : List UInt8), (aln f w t).length ≤ f := by
  induction f with
  | zero => intro w t; simp [aln]
  | succ f ih =>
    intro w t
    rw [aln]
    split
    · simp
    · split
      · simp only [List.length_cons]
        have := ih (w.drop (stD ‹_›)) (t.drop (stK ‹_›))
        omega
      · simp
theorem alnL_len (w t : List UInt8) : (alnL w t).length ≤ w.length + t.length := aln_len _ _ _
theorem AlnInv.len {W T : List UInt8} {i k : Nat} {l : List UInt8} (h : AlnInv W T i k l) : l.length ≤ W.length + T.length := by
  have h1 := alnL_len W T
  unfold AlnInv at h
  rw [← h, List.length_append] at h1
  omega
end Go.Proofs.Ythgoofjojanakaa
