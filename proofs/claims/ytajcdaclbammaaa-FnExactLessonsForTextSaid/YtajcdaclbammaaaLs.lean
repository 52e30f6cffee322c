/- What needs what: closures, circles, and the order in which all can be taken. Plain facts on lists, no program in sight. -/
import Derived.Test.YtajcdaclbammaaaBase
namespace Go.Proofs.Ytajcdaclbammaaa
/-- How many of 0 .. n - 1 are not yet in a list. -/
def outN (S : List Int) : Nat → Nat
  | 0 => 0
  | n + 1 => outN S n + if (n : Int) ∈ S then 0 else 1
theorem outN_le (S : List Int) (n : Nat) : outN S n ≤ n := by
  induction n with
  | zero => exact Nat.le_refl 0
  | succ n ih => simp only [outN]; split <;> omega
theorem outN_mono {S S' : List Int} (h : ∀ x, x ∈ S → x ∈ S') (n : Nat) : outN S' n ≤ outN S n := by
  induction n with
  | zero => exact Nat.le_refl 0
  | succ n ih =>
    simp only [outN]
    by_cases h1 : (n : Int) ∈ S
    · rw [if_pos h1, if_pos (h _ h1)]; omega
    · rw [if_neg h1]; split <;> omega
theorem outN_new {S : List Int} {x : Int} {n : Nat} (h0 : 0 ≤ x) (hn : x < n) (hx : x ∉ S) : outN (S ++ [x]) n + 1 ≤ outN S n := by
  induction n with
  | zero => omega
  | succ n ih =>
    simp only [outN]
    by_cases e : x = n
    · subst e
      rw [if_pos (by simp), if_neg hx]
      have := outN_mono (S := S) (S' := S ++ [(n : Int)]) (fun y hy => by simp [hy]) n
      omega
    · have h1 := ih (by omega)
      by_cases h2 : (n : Int) ∈ S
      · rw [if_pos (by simp [h2]), if_pos h2]; omega
      · rw [if_neg (by simp [h2]; exact fun h => e h.symm), if_neg h2]; omega
section
variable (N : Int → List Int)
/-- What a lesson needs, directly or through others. -/
inductive Rch (i : Int) : Int → Prop
  | base {x : Int} : x ∈ N i → Rch i x
  | step {y x : Int} : Rch i y → x ∈ N y → Rch i x
end
section
variable {N : Int → List Int}
theorem Rch.trans {i j k : Int} (h : Rch N i j) (h' : Rch N j k) : Rch N i k := by
  induction h' with
  | base hx => exact .step h hx
  | step _ hx ih => exact .step ih hx
theorem Rch.bd {n : Nat} (hN : ∀ i x, x ∈ N i → (0 : Int) ≤ x ∧ x < n) {i x : Int} (h : Rch N i x) : 0 ≤ x ∧ x < n := by
  cases h with
  | base h => exact hN _ _ h
  | step _ h => exact hN _ _ h
/-- What is closed under needs and holds the first needs holds all. -/
theorem Rch.closed {i : Int} {S : Int → Prop} (h0 : ∀ x ∈ N i, S x) (h1 : ∀ y, S y → ∀ x ∈ N y, S x) {x : Int} (h : Rch N i x) : S x := by
  induction h with
  | base hx => exact h0 _ hx
  | step _ hx ih => exact h1 _ ih _ hx
/-- In a list that is not empty there is one that needs none of the others, if none needs itself. -/
theorem exists_min (hac : ∀ i, ¬ Rch N i i) : ∀ C : List Int, C ≠ [] → ∃ m ∈ C, ∀ y ∈ C, ¬ Rch N m y := by
  intro C
  induction C with
  | nil => intro h; exact absurd rfl h
  | cons c C ih =>
    intro _
    by_cases hC : C = []
    · subst hC
      exact ⟨c, by simp, fun y hy => by rw [List.mem_singleton.1 hy]; exact hac c⟩
    · obtain ⟨m, hm, hmin⟩ := ih hC
      by_cases hmc : Rch N m c
      · refine ⟨c, by simp, fun y hy hcy => ?_⟩
        rcases List.mem_cons.1 hy with rfl | hy
        · exact hac _ hcy
        · exact hmin y hy (hmc.trans hcy)
      · refine ⟨m, by simp [hm], fun y hy => ?_⟩
        rcases List.mem_cons.1 hy with rfl | hy
        · exact hmc
        · exact hmin y hy
end
/-- Those of 0 .. n - 1 that are not in a list. -/
def restN (S : List Int) (n : Nat) : List Int := ((List.range n).map fun (i : Nat) => (i : Int)).filter fun x => decide (x ∉ S)
theorem restN_mem {S : List Int} {n : Nat} {x : Int} : x ∈ restN S n ↔ (0 ≤ x ∧ x < n) ∧ x ∉ S := by
  simp only [restN, List.mem_filter, List.mem_map, List.mem_range, decide_eq_true_eq]
  constructor
  · rintro ⟨⟨i, hi, rfl⟩, h⟩
    exact ⟨⟨by omega, by omega⟩, h⟩
  · rintro ⟨⟨h1, h2⟩, h⟩
    exact ⟨⟨x.toNat, by omega, by omega⟩, h⟩
/-- All that a lesson needs is in a list, and the lesson is not. -/
def canB (N : Int → List Int) (S : List Int) (k : Int) : Bool := decide (k ∉ S) && (N k).all fun x => decide (x ∈ S)
theorem can_exists {N : Int → List Int} {n : Nat} {S : List Int} (hN : ∀ i x, x ∈ N i → (0 : Int) ≤ x ∧ x < n) (hac : ∀ i, ¬ Rch N i i) (hS : ∃ x : Int, 0 ≤ x ∧ x < n ∧ x ∉ S) : ∃ k : Int, 0 ≤ k ∧ k < n ∧ canB N S k = true := by
  obtain ⟨x, h0, h1, h2⟩ := hS
  have hx : x ∈ restN S n := restN_mem.2 ⟨⟨h0, h1⟩, h2⟩
  obtain ⟨m, hm, hmin⟩ := exists_min hac (restN S n) (fun e => by rw [e] at hx; cases hx)
  obtain ⟨⟨m0, m1⟩, m2⟩ := restN_mem.1 hm
  refine ⟨m, m0, m1, ?_⟩
  simp only [canB, Bool.and_eq_true, decide_eq_true_eq, List.all_eq_true]
  refine ⟨m2, fun y hy => ?_⟩
  by_cases e : y ∈ S
  · exact e
  · exact absurd (.base hy) (hmin y (restN_mem.2 ⟨hN _ _ hy, e⟩))
/-- The first of 0 .. k - 1 with the least hours among those that can be taken; -1 if there is none. -/
def bestL (can : Int → Bool) (hr : Int → Int) : Nat → Int
  | 0 => -1
  | k + 1 => if can (k : Int) = true ∧ (bestL can hr k < 0 ∨ hr (k : Int) < hr (bestL can hr k)) then (k : Int) else bestL can hr k
section
variable {can : Int → Bool} {hr : Int → Int}
theorem bestL_bd (k : Nat) : -1 ≤ bestL can hr k ∧ bestL can hr k < k := by
  induction k with
  | zero => exact ⟨by simp [bestL], by simp [bestL]⟩
  | succ k ih => simp only [bestL]; split <;> omega
theorem bestL_some {k : Nat} {x : Int} (h0 : 0 ≤ x) (hx : x < k) (hc : can x = true) : 0 ≤ bestL can hr k := by
  induction k with
  | zero => omega
  | succ k ih =>
    simp only [bestL]
    split
    · omega
    · rename_i h
      by_cases e : x = k
      · subst e
        by_cases h1 : bestL can hr k < 0
        · exact absurd ⟨hc, .inl h1⟩ h
        · omega
      · exact ih (by omega)
theorem bestL_can {k : Nat} (h : 0 ≤ bestL can hr k) : can (bestL can hr k) = true := by
  induction k with
  | zero => simp [bestL] at h
  | succ k ih =>
    simp only [bestL] at h ⊢
    split
    · rename_i h1; exact h1.1
    · rename_i h1; rw [if_neg h1] at h; exact ih h
end
/-- The first k lessons in the order in which they are taken. -/
def ordL (N : Int → List Int) (hr : Int → Int) (n : Nat) : Nat → List Int
  | 0 => []
  | k + 1 => ordL N hr n k ++ [bestL (canB N (ordL N hr n k)) hr n]
theorem ordL_len (N : Int → List Int) (hr : Int → Int) (n k : Nat) : (ordL N hr n k).length = k := by
  induction k with
  | zero => rfl
  | succ k ih => simp [ordL, ih]
theorem nodup_short {n : Nat} : ∀ {S : List Int}, S.Nodup → (∀ x ∈ S, (0 : Int) ≤ x ∧ x < n) → outN S n + S.length = n := by
  intro S
  induction S with
  | nil =>
    intro _ _
    have : ∀ m, outN [] m = m := by
      intro m
      induction m with
      | zero => rfl
      | succ m ih => simp [outN, ih]
    simp [this]
  | cons x S ih =>
    intro hd hb
    rw [List.nodup_cons] at hd
    have h1 := ih hd.2 (fun y hy => hb y (by simp [hy]))
    obtain ⟨b0, b1⟩ := hb x (by simp)
    have key : ∀ m : Nat, outN (x :: S) m + (if x < m then 1 else 0) = outN S m := by
      intro m
      induction m with
      | zero => simp [outN]; omega
      | succ m ihm =>
        simp only [outN]
        by_cases e : x = m
        · subst e
          rw [if_pos (by simp), if_neg hd.1, if_pos (by omega)]
          rw [if_neg (by omega)] at ihm
          omega
        · have e' : (m : Int) ∈ x :: S ↔ (m : Int) ∈ S := by simp; exact fun h => absurd h.symm e
          by_cases hm : (m : Int) ∈ S
          · rw [if_pos hm, if_pos (e'.2 hm)]
            by_cases hx : x < m
            · rw [if_pos (by omega)]; rw [if_pos hx] at ihm; omega
            · rw [if_neg (by omega)]; rw [if_neg hx] at ihm; omega
          · rw [if_neg hm, if_neg (fun h => hm (e'.1 h))]
            by_cases hx : x < m
            · rw [if_pos (by omega)]; rw [if_pos hx] at ihm; omega
            · rw [if_neg (by omega)]; rw [if_neg hx] at ihm; omega
    have h2 := key n
    rw [if_pos b1] at h2
    simp only [List.length_cons]
    omega
theorem outN_pos {S : List Int} {n : Nat} (h : 0 < outN S n) : ∃ x : Int, 0 ≤ x ∧ x < n ∧ x ∉ S := by
  induction n with
  | zero => simp [outN] at h
  | succ n ih =>
    by_cases e : (n : Int) ∈ S
    · simp only [outN, if_pos e] at h
      obtain ⟨x, h0, h1, h2⟩ := ih h
      exact ⟨x, h0, by omega, h2⟩
    · exact ⟨n, by omega, by omega, e⟩
/-- Without a circle there is always one more lesson to take. -/
theorem ordL_good {N : Int → List Int} {hr : Int → Int} {n : Nat} (hN : ∀ i x, x ∈ N i → (0 : Int) ≤ x ∧ x < n) (hac : ∀ i, ¬ Rch N i i) : ∀ k, k ≤ n → (ordL N hr n k).Nodup ∧ ∀ x ∈ ordL N hr n k, (0 : Int) ≤ x ∧ x < n := by
  intro k
  induction k with
  | zero => intro _; exact ⟨List.nodup_nil, fun x hx => by cases hx⟩
  | succ k ih =>
    intro hk
    obtain ⟨h1, h2⟩ := ih (by omega)
    have h3 := nodup_short h1 h2
    rw [ordL_len] at h3
    obtain ⟨x, x0, x1, hx⟩ := can_exists hN hac (outN_pos (S := ordL N hr n k) (n := n) (by omega))
    have h4 := bestL_some (hr := hr) x0 x1 hx
    have h5 := bestL_can h4
    have h6 := bestL_bd (can := canB N (ordL N hr n k)) (hr := hr) n
    simp only [canB, Bool.and_eq_true, decide_eq_true_eq] at h5
    simp only [ordL]
    refine ⟨List.nodup_append.2 ⟨h1, by simp, fun a ha b hb e => ?_⟩, fun y hy => ?_⟩
    · rw [List.mem_singleton.1 hb] at e
      exact h5.1 (e ▸ ha)
    · rcases List.mem_append.1 hy with hy | hy
      · exact h2 y hy
      · rw [List.mem_singleton.1 hy]; exact ⟨h4, h6.2⟩
theorem ordL_best {N : Int → List Int} {hr : Int → Int} {n k : Nat} (hN : ∀ i x, x ∈ N i → (0 : Int) ≤ x ∧ x < n) (hac : ∀ i, ¬ Rch N i i) (hk : k < n) : 0 ≤ bestL (canB N (ordL N hr n k)) hr n := by
  have h := (ordL_good (hr := hr) hN hac (k + 1) (by omega)).2 (bestL (canB N (ordL N hr n k)) hr n) (by simp [ordL])
  exact h.1
end Go.Proofs.Ytajcdaclbammaaa
