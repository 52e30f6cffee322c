/- The least number of errors, as a function on the ends of two texts. No program in sight. -/
import Derived.Test.YthgoofjojanakaaEr5
namespace Go.Proofs.Ythgoofjojanakaa
/-- The least of what was found so far (-1: nothing) and of one more way. -/
def upd (b : Int) (o : Option Int) : Int := match o with | none => b | some v => if b < 0 ∨ v < b then v else b
def cand (g : List UInt8 → List UInt8 → Int) (w t : List UInt8) (c : UInt8) : Option Int := if stO w t c = true then some (g (w.drop (stD c)) (t.drop (stK c)) + (stE c : Int)) else none
def lst (g : List UInt8 → List UInt8 → Int) (w t : List UInt8) : List UInt8 → Int → Int
  | [], b => b
  | c :: cs, b => lst g w t cs (upd b (cand g w t c))
def steps5 : List UInt8 := [43, 45, 61, 120, 126]
def cstF : Nat → List UInt8 → List UInt8 → Int
  | 0, _, _ => 0
  | f + 1, w, t => max (lst (cstF f) w t steps5 (-1)) 0
/-- The least number of errors of a typed text. -/
def cst (w t : List UInt8) : Int := cstF (w.length + t.length) w t

theorem o61 (w t : List UInt8) : stO w t 61 = (match w, t with | a :: _, b :: _ => a == b | _, _ => false) := by simp [stO] <;> rfl
theorem o120 (w t : List UInt8) : stO w t 120 = (match w, t with | a :: _, b :: _ => !(a == b) | _, _ => false) := by simp [stO] <;> rfl
theorem o45 (w t : List UInt8) : stO w t 45 = (match w with | _ :: _ => true | _ => false) := by simp [stO] <;> rfl
theorem o43 (w t : List UInt8) : stO w t 43 = (match t with | _ :: _ => true | _ => false) := by simp [stO] <;> rfl
theorem o126 (w t : List UInt8) : stO w t 126 = (match w, t with | a :: b :: _, a' :: b' :: _ => !(a == b) && (a == b' && b == a') | _, _ => false) := by simp [stO] <;> rfl
theorem sd61 : stD 61 = 1 ∧ stK 61 = 1 ∧ stE 61 = 0 := by decide
theorem sd120 : stD 120 = 1 ∧ stK 120 = 1 ∧ stE 120 = 1 := by decide
theorem sd45 : stD 45 = 1 ∧ stK 45 = 0 ∧ stE 45 = 1 := by decide
theorem sd43 : stD 43 = 0 ∧ stK 43 = 1 ∧ stE 43 = 1 := by decide
theorem sd126 : stD 126 = 2 ∧ stK 126 = 2 ∧ stE 126 = 1 := by decide

theorem cand_congr {g g' : List UInt8 → List UInt8 → Int} {w t : List UInt8} {n : Nat} (hn : w.length + t.length ≤ n + 1) (h : ∀ w' t', w'.length + t'.length ≤ n → g w' t' = g' w' t') (c : UInt8) (hc : c ∈ steps5) : cand g w t c = cand g' w t c := by
  unfold cand
  by_cases ho : stO w t c = true
  · rw [if_pos ho, if_pos ho]
    have h1 : (w.drop (stD c)).length + (t.drop (stK c)).length ≤ n := by
      simp only [List.length_drop]
      simp only [steps5, List.mem_cons, List.not_mem_nil, or_false] at hc
      rcases hc with rfl | rfl | rfl | rfl | rfl
      · rw [o43] at ho
        rw [sd43.1, sd43.2.1]
        cases t with
        | nil => simp at ho
        | cons a t => simp at hn ⊢; omega
      · rw [o45] at ho
        rw [sd45.1, sd45.2.1]
        cases w with
        | nil => simp at ho
        | cons a t => simp at hn ⊢; omega
      · rw [o61] at ho
        rw [sd61.1, sd61.2.1]
        cases w with
        | nil => simp at ho
        | cons a w => simp at hn ⊢; omega
      · rw [o120] at ho
        rw [sd120.1, sd120.2.1]
        cases w with
        | nil => simp at ho
        | cons a w => simp at hn ⊢; omega
      · rw [o126] at ho
        rw [sd126.1, sd126.2.1]
        cases w with
        | nil => simp at ho
        | cons a w => simp at hn ⊢; omega
    rw [h _ _ h1]
  · rw [if_neg ho, if_neg ho]
theorem lst_congr {g g' : List UInt8 → List UInt8 → Int} {w t : List UInt8} {n : Nat} (hn : w.length + t.length ≤ n + 1) (h : ∀ w' t', w'.length + t'.length ≤ n → g w' t' = g' w' t') : ∀ (cs : List UInt8), (∀ c ∈ cs, c ∈ steps5) → ∀ b, lst g w t cs b = lst g' w t cs b := by
  intro cs
  induction cs with
  | nil => intro _ b; rfl
  | cons c cs ih =>
    intro hc b
    rw [lst, lst, cand_congr hn h c (hc c (by simp))]
    exact ih (fun d hd => hc d (by simp [hd])) _
theorem cstF_more (f : Nat) : ∀ (w t : List UInt8), w.length + t.length ≤ f → cstF (f + 1) w t = cstF f w t := by
  induction f with
  | zero =>
    intro w t h
    have hw : w = [] := List.eq_nil_of_length_eq_zero (by omega)
    have ht : t = [] := List.eq_nil_of_length_eq_zero (by omega)
    subst hw ht
    rfl
  | succ f ih =>
    intro w t h
    rw [cstF, cstF, lst_congr (n := f) h (fun w' t' h' => ih w' t' h') steps5 (fun c hc => hc)]
theorem cstF_eq (f : Nat) (w t : List UInt8) (h : w.length + t.length ≤ f) : cstF f w t = cst w t := by
  obtain ⟨d, rfl⟩ : ∃ d, f = w.length + t.length + d := ⟨f - (w.length + t.length), by omega⟩
  clear h
  induction d with
  | zero => rfl
  | succ d ih => rw [← Nat.add_assoc, cstF_more _ _ _ (by omega), ih]
theorem cst_step (w t : List UInt8) : cst w t = max (lst cst w t steps5 (-1)) 0 := by
  rw [← cstF_eq (w.length + t.length + 1) w t (by omega), cstF]
  rw [lst_congr (n := w.length + t.length) (by omega) (fun w' t' h' => cstF_eq _ _ _ h') steps5 (fun c hc => hc)]
theorem cst_nonneg (w t : List UInt8) : 0 ≤ cst w t := by rw [cst_step]; exact Int.le_max_right _ _
theorem upd_le {b : Int} {o : Option Int} (hb : -1 ≤ b) (ho : ∀ v, o = some v → 0 ≤ v) : -1 ≤ upd b o ∧ (0 ≤ b → upd b o ≤ b) ∧ (∀ v, o = some v → upd b o ≤ v ∧ 0 ≤ upd b o) ∧ (0 ≤ b → 0 ≤ upd b o) := by
  unfold upd
  cases o with
  | none => simp; omega
  | some v =>
    have := ho v rfl
    dsimp only
    split <;> simp <;> omega
theorem cand_nonneg (w t : List UInt8) (c : UInt8) (v : Int) (h : cand cst w t c = some v) : 0 ≤ v := by
  unfold cand at h
  split at h
  · simp only [Option.some.injEq] at h
    have := cst_nonneg (w.drop (stD c)) (t.drop (stK c))
    omega
  · cases h
theorem lst_le (w t : List UInt8) (cs : List UInt8) : ∀ b : Int, -1 ≤ b → -1 ≤ lst cst w t cs b ∧ (0 ≤ b → lst cst w t cs b ≤ b ∧ 0 ≤ lst cst w t cs b) ∧ ∀ c v, c ∈ cs → cand cst w t c = some v → lst cst w t cs b ≤ v := by
  induction cs with
  | nil => intro b hb; simp [lst]; omega
  | cons c cs ih =>
    intro b hb
    obtain ⟨u1, u2, u3, u4⟩ := upd_le (o := cand cst w t c) hb (cand_nonneg w t c)
    obtain ⟨i1, i2, i3⟩ := ih (upd b (cand cst w t c)) u1
    rw [lst]
    refine ⟨i1, fun h => ⟨Int.le_trans (i2 (u4 h)).1 (u2 h), (i2 (u4 h)).2⟩, fun d v hd hv => ?_⟩
    rcases List.mem_cons.1 hd with rfl | hd
    · obtain ⟨a1, a2⟩ := u3 v hv
      exact Int.le_trans (i2 a2).1 a1
    · exact i3 d v hd hv
theorem cst_le_cand {w t : List UInt8} {c : UInt8} {v : Int} (hc : c ∈ steps5) (h : cand cst w t c = some v) : cst w t ≤ v := by
  have := (lst_le w t steps5 (-1) (by omega)).2.2 c v hc h
  have h2 := cand_nonneg w t c v h
  rw [cst_step]
  omega
theorem cst_le (w t : List UInt8) : cst w t ≤ (w.length : Int) + t.length := by
  obtain ⟨n, hn⟩ : ∃ n, w.length + t.length = n := ⟨_, rfl⟩
  induction n generalizing w t with
  | zero =>
    have hw : w = [] := List.eq_nil_of_length_eq_zero (by omega)
    have ht : t = [] := List.eq_nil_of_length_eq_zero (by omega)
    subst hw ht
    decide
  | succ n ih =>
    cases w with
    | nil =>
      cases t with
      | nil => simp at hn
      | cons b t =>
        have h := cst_le_cand (w := []) (t := b :: t) (c := 43) (by decide) (by rw [cand, o43, sd43.1, sd43.2.1, sd43.2.2]; simp; rfl)
        have h1 := ih [] t (by simp at hn ⊢; omega)
        simp at h h1 hn ⊢
        omega
    | cons a w =>
      have h := cst_le_cand (w := a :: w) (t := t) (c := 45) (by decide) (by rw [cand, o45, sd45.1, sd45.2.1, sd45.2.2]; simp; rfl)
      have h1 := ih w t (by simp at hn ⊢; omega)
      simp at h h1 hn ⊢
      omega
/-- The smaller of two numbers. -/
def mn (a b : Int) : Int := if a < b then a else b
theorem cst_nil : cst [] [] = 0 := by decide
theorem cst_t {b : UInt8} {t : List UInt8} {N : Int} (hN : ((b :: t).length : Int) ≤ N) : mn N (cst [] t + 1) = cst [] (b :: t) := by
  have h1 := cst_le [] t
  have h2 := cst_nonneg [] t
  rw [cst_step [] (b :: t)]
  simp only [lst, steps5, cand, o43, o45, o61, o120, o126, sd43, upd, mn, List.drop_succ_cons, List.drop_zero, Bool.false_eq_true, if_false, if_true]
  simp at hN h1 ⊢
  split <;> (try split) <;> omega
theorem cst_w {a : UInt8} {w : List UInt8} {N : Int} (hN : ((a :: w).length : Int) ≤ N) : mn N (cst w [] + 1) = cst (a :: w) [] := by
  have h1 := cst_le w []
  have h2 := cst_nonneg w []
  rw [cst_step (a :: w) []]
  simp only [lst, steps5, cand, o43, o45, o61, o120, o126, sd45, upd, mn, List.drop_succ_cons, List.drop_zero, Bool.false_eq_true, if_false, if_true]
  simp at hN h1 ⊢
  split <;> (try split) <;> omega
theorem cst_eq {a b : UInt8} {w t : List UInt8} {N : Int} (hN : ((a :: w).length : Int) + (b :: t).length ≤ N) (h : (a == b) = true) (ho : stO (a :: w) (b :: t) 126 = false) : mn (mn (mn N (cst w t)) (cst w (b :: t) + 1)) (cst (a :: w) t + 1) = cst (a :: w) (b :: t) := by
  have h1 := cst_le w t
  have h2 := cst_nonneg w t
  have h3 := cst_nonneg w (b :: t)
  have h4 := cst_nonneg (a :: w) t
  rw [cst_step (a :: w) (b :: t)]
  simp only [lst, steps5, cand, o43, o45, o61, o120, ho, sd43, sd45, sd61, sd120, h, upd, mn, List.drop_succ_cons, List.drop_zero, Bool.false_eq_true, Bool.not_true, if_false, if_true]
  simp at hN h1 ⊢
  generalize cst w t = x at *
  generalize cst w (b :: t) = y at *
  generalize cst (a :: w) t = z at *
  repeat' split
  all_goals omega
theorem cst_ne {a b : UInt8} {w t : List UInt8} {N : Int} (hN : ((a :: w).length : Int) + (b :: t).length ≤ N) (h : (a == b) = false) (ho : stO (a :: w) (b :: t) 126 = false) : mn (mn (mn N (cst w t + 1)) (cst w (b :: t) + 1)) (cst (a :: w) t + 1) = cst (a :: w) (b :: t) := by
  have h1 := cst_le w t
  have h2 := cst_nonneg w t
  have h3 := cst_nonneg w (b :: t)
  have h4 := cst_nonneg (a :: w) t
  rw [cst_step (a :: w) (b :: t)]
  simp only [lst, steps5, cand, o43, o45, o61, o120, ho, sd43, sd45, sd61, sd120, h, upd, mn, List.drop_succ_cons, List.drop_zero, Bool.false_eq_true, Bool.not_false, if_false, if_true]
  simp at hN h1 ⊢
  generalize cst w t = x at *
  generalize cst w (b :: t) = y at *
  generalize cst (a :: w) t = z at *
  repeat' split
  all_goals omega
theorem cst_sw {a b : UInt8} {w t : List UInt8} {N : Int} (hN : ((a :: w).length : Int) + (b :: t).length ≤ N) (ho : stO (a :: w) (b :: t) 126 = true) : mn (mn (mn (mn N (cst w t + 1)) (cst w (b :: t) + 1)) (cst (a :: w) t + 1)) (cst (w.drop 1) (t.drop 1) + 1) = cst (a :: w) (b :: t) ∧ (a == b) = false ∧ 1 ≤ w.length ∧ 1 ≤ t.length := by
  have h1 := cst_le w t
  have h2 := cst_nonneg w t
  have h3 := cst_nonneg w (b :: t)
  have h4 := cst_nonneg (a :: w) t
  have h5 := cst_nonneg (w.drop 1) (t.drop 1)
  have h : (a == b) = false ∧ 1 ≤ w.length ∧ 1 ≤ t.length := by
    rw [o126] at ho
    cases w with
    | nil => simp at ho
    | cons a1 w =>
      cases t with
      | nil => simp at ho
      | cons b1 t =>
        simp at ho
        refine ⟨?_, by simp, by simp⟩
        rw [beq_eq_false_iff_ne]
        rintro rfl
        exact ho.1 ho.2.2.symm
  refine ⟨?_, h⟩
  rw [cst_step (a :: w) (b :: t)]
  simp only [lst, steps5, cand, o43, o45, o61, o120, ho, sd43, sd45, sd61, sd120, sd126, h.1, upd, mn, List.drop_succ_cons, List.drop_zero, Bool.false_eq_true, Bool.not_false, if_false, if_true]
  simp at hN h1 ⊢
  simp at h5
  generalize cst w t = x at *
  generalize cst w (b :: t) = y at *
  generalize cst (a :: w) t = z at *
  generalize cst w.tail t.tail = u at *
  repeat' split
  all_goals omega
theorem lst_snoc (g : List UInt8 → List UInt8 → Int) (w t : List UInt8) (cs : List UInt8) (c : UInt8) : ∀ b, lst g w t (cs ++ [c]) b = upd (lst g w t cs b) (cand g w t c) := by
  induction cs with
  | nil => intro b; rfl
  | cons d cs ih => intro b; rw [List.cons_append, lst, ih, lst]
end Go.Proofs.Ythgoofjojanakaa
