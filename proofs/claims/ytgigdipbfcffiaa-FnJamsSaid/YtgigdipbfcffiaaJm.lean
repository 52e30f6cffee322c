/- Plain: pairs that jam: the first one, how many there are, which ones are left if each that jams with one that is left is taken out. No program in sight. -/
import Derived.Test.YtgigdipbfcffiaaBase
namespace Go.Proofs.Ytgigdipbfcffiaa

section
variable {p : Nat → Bool} {q : Nat → Nat → Bool}
/-- The first number below m. -/
def rowF (p : Nat → Bool) : Nat → Option Nat
  | 0 => none
  | m + 1 => match rowF p m with
    | some k => some k
    | none => if p m then some m else none
theorem rowF_yes {m k : Nat} (h : rowF p m = some k) : rowF p (m + 1) = some k := by simp [rowF, h]
theorem rowF_hit {m : Nat} (h : rowF p m = none) (hp : p m = true) : rowF p (m + 1) = some m := by simp [rowF, h, hp]
theorem rowF_miss {m : Nat} (hp : p m = false) : rowF p (m + 1) = rowF p m := by
  simp only [rowF, hp]
  cases rowF p m <;> rfl
theorem rowF_mono {m k : Nat} (h : rowF p m = some k) : ∀ m', m ≤ m' → rowF p m' = some k := by
  intro m' hm
  induction hm with
  | refl => exact h
  | step _ ih => exact rowF_yes ih
theorem rowF_lt {m k : Nat} (h : rowF p m = some k) : k < m ∧ p k = true := by
  induction m with
  | zero => simp [rowF] at h
  | succ m ih =>
    cases hr : rowF p m with
    | some j =>
      rw [rowF_yes hr] at h
      have := ih (hr.trans h)
      exact ⟨by omega, this.2⟩
    | none =>
      cases hp : p m with
      | true => rw [rowF_hit hr hp] at h; simp only [Option.some.injEq] at h; subst h; exact ⟨by omega, hp⟩
      | false => rw [rowF_miss hp, hr] at h; cases h
/-- The first pair, row by row. -/
def fjx (q : Nat → Nat → Bool) : Nat → Option (Nat × Nat)
  | 0 => none
  | n + 1 => match fjx q n with
    | some z => some z
    | none => (rowF (q n) n).map (fun k => (n, k))
theorem fjx_yes {n : Nat} {z : Nat × Nat} (h : fjx q n = some z) : fjx q (n + 1) = some z := by simp [fjx, h]
theorem fjx_none {n : Nat} (h : fjx q n = none) : fjx q (n + 1) = (rowF (q n) n).map (fun k => (n, k)) := by simp [fjx, h]
theorem fjx_mono {n : Nat} {z : Nat × Nat} (h : fjx q n = some z) : ∀ n', n ≤ n' → fjx q n' = some z := by
  intro n' hn
  induction hn with
  | refl => exact h
  | step _ ih => exact fjx_yes ih
theorem fjx_hit {n N k : Nat} (h : fjx q n = none) (hr : rowF (q n) k = none) (hk : k < n) (hq : q n k = true) (hn : n < N) : fjx q N = some (n, k) := by
  refine fjx_mono (n := n + 1) ?_ N (by omega)
  rw [fjx_none h, rowF_mono (rowF_hit hr hq) n (by omega)]
  rfl
theorem fjx_lt {n : Nat} {z : Nat × Nat} (h : fjx q n = some z) : z.1 < n ∧ z.2 < z.1 := by
  induction n with
  | zero => simp [fjx] at h
  | succ n ih =>
    cases hr : fjx q n with
    | some j =>
      rw [fjx_yes hr] at h
      have := ih (hr.trans h)
      exact ⟨by omega, this.2⟩
    | none =>
      rw [fjx_none hr] at h
      cases hk : rowF (q n) n with
      | none => rw [hk] at h; cases h
      | some k =>
        rw [hk] at h
        simp only [Option.map_some, Option.some.injEq] at h
        subst h
        exact ⟨by simp, (rowF_lt hk).1⟩
/-- What a walk over the pairs has found so far: in the rows ahead of x, and below y in row x. -/
def fj2 (q : Nat → Nat → Bool) (x y : Nat) : Option (Nat × Nat) :=
  match fjx q x with
  | some z => some z
  | none => (rowF (q x) y).map (fun k => (x, k))
theorem fj2_zero (x : Nat) : fj2 q x 0 = fjx q x := by
  unfold fj2
  cases fjx q x <;> rfl
theorem fj2_end (x : Nat) : fj2 q x x = fjx q (x + 1) := rfl
theorem fj2_miss {x y : Nat} (h : q x y = false) : fj2 q x (y + 1) = fj2 q x y := by
  unfold fj2
  rw [rowF_miss h]
theorem fj2_yes {x y : Nat} {z : Nat × Nat} (h : fj2 q x y = some z) : fj2 q x (y + 1) = some z := by
  unfold fj2 at *
  cases hf : fjx q x with
  | some j => rw [hf] at h; exact h
  | none =>
    rw [hf] at h
    cases hr : rowF (q x) y with
    | none => rw [hr] at h; cases h
    | some k => rw [hr] at h; rw [rowF_yes hr]; exact h
theorem fj2_hit {x y : Nat} (h : fj2 q x y = none) (hq : q x y = true) : fj2 q x (y + 1) = some (x, y) := by
  unfold fj2 at *
  cases hf : fjx q x with
  | some j => rw [hf] at h; cases h
  | none =>
    rw [hf] at h
    cases hr : rowF (q x) y with
    | some k => rw [hr] at h; cases h
    | none => rw [rowF_hit hr hq]; rfl
theorem fj2_lt {x y : Nat} {z : Nat × Nat} (h : fj2 q x y = some z) (hy : y ≤ x) : z.1 ≤ x ∧ z.2 ≤ x := by
  unfold fj2 at h
  cases hf : fjx q x with
  | some j =>
    rw [hf] at h
    simp only [Option.some.injEq] at h
    subst h
    have := fjx_lt hf
    omega
  | none =>
    rw [hf] at h
    cases hr : rowF (q x) y with
    | none => rw [hr] at h; cases h
    | some k =>
      rw [hr] at h
      simp only [Option.map_some, Option.some.injEq] at h
      subst h
      have := (rowF_lt hr).1
      exact ⟨by simp, by simp; omega⟩

/-- How many. -/
def cntR (p : Nat → Bool) : Nat → Nat
  | 0 => 0
  | m + 1 => cntR p m + (if p m then 1 else 0)
def cntX (q : Nat → Nat → Bool) : Nat → Nat
  | 0 => 0
  | n + 1 => cntX q n + cntR (q n) n
theorem cntR_hit {m : Nat} (h : p m = true) : cntR p (m + 1) = cntR p m + 1 := by simp [cntR, h]
theorem cntR_miss {m : Nat} (h : p m = false) : cntR p (m + 1) = cntR p m := by simp [cntR, h]
theorem cntR_le (p : Nat → Bool) (m : Nat) : cntR p m ≤ m := by
  induction m with
  | zero => simp [cntR]
  | succ m ih => simp only [cntR]; split <;> omega
theorem cntX_le (q : Nat → Nat → Bool) (n N : Nat) (h : n ≤ N) : cntX q n ≤ n * N := by
  induction n with
  | zero => simp [cntX]
  | succ n ih =>
    have := cntR_le (q n) n
    have := ih (by omega)
    simp only [cntX]
    rw [Nat.succ_mul]
    omega
theorem cntR_zero (p : Nat → Bool) (m : Nat) : cntR p m = 0 ↔ rowF p m = none := by
  induction m with
  | zero => simp [cntR, rowF]
  | succ m ih =>
    cases hp : p m with
    | true =>
      rw [cntR_hit hp]
      cases hr : rowF p m with
      | some k => rw [rowF_yes hr]; simp
      | none => rw [rowF_hit hr hp]; simp
    | false => rw [cntR_miss hp, rowF_miss hp]; exact ih
theorem cntX_zero (q : Nat → Nat → Bool) (n : Nat) : cntX q n = 0 ↔ fjx q n = none := by
  induction n with
  | zero => simp [cntX, fjx]
  | succ n ih =>
    have h := cntR_zero (q n) n
    simp only [cntX]
    cases hf : fjx q n with
    | some z =>
      rw [fjx_yes hf]
      have : cntX q n ≠ 0 := fun e => by rw [ih.1 e] at hf; cases hf
      simp
      omega
    | none =>
      rw [fjx_none hf]
      have e := ih.2 hf
      rw [e, Nat.zero_add, h]
      cases rowF (q n) n <;> simp

/-- Those that are left. -/
def prL (q : Nat → Nat → Bool) : Nat → List Nat
  | 0 => []
  | n + 1 => if (prL q n).all (fun k => !q n k) then prL q n ++ [n] else prL q n
theorem prL_in (n : Nat) (h : (prL q n).all (fun k => !q n k) = true) : prL q (n + 1) = prL q n ++ [n] := by simp only [prL, h, if_pos]
theorem prL_out (n : Nat) (h : (prL q n).all (fun k => !q n k) = false) : prL q (n + 1) = prL q n := by simp [prL, h]
theorem prL_len (n : Nat) : (prL q n).length ≤ n := by
  induction n with
  | zero => simp [prL]
  | succ n ih =>
    simp only [prL]
    split
    · rw [List.length_append]; simp; omega
    · omega
theorem prL_lt {n x : Nat} (h : x ∈ prL q n) : x < n := by
  induction n with
  | zero => simp [prL] at h
  | succ n ih =>
    simp only [prL] at h
    split at h
    · rcases List.mem_append.1 h with h | h
      · have := ih h; omega
      · simp at h; omega
    · have := ih h; omega
theorem prL_at {N : Nat} : ∀ {n x : Nat}, n ≤ N → x < n → (x ∈ prL q N ↔ x ∈ prL q n) := by
  intro n x hn hx
  induction hn with
  | refl => rfl
  | step hm ih =>
    rename_i m
    rw [← ih]
    simp only [prL]
    split
    · have : x ≠ m := by have : n ≤ m := hm; omega
      simp [this]
    · rfl
theorem prL_mem {N x : Nat} (hx : x < N) : x ∈ prL q N ↔ ∀ y, y < x → y ∈ prL q N → q x y = false := by
  rw [prL_at (n := x + 1) (by omega) (by omega)]
  have e : ∀ y, y < x → (y ∈ prL q N ↔ y ∈ prL q x) := fun y hy => prL_at (by omega) hy
  cases hc : (prL q x).all (fun k => !q x k) with
  | true =>
    rw [prL_in x hc]
    simp only [List.mem_append, List.mem_singleton, or_true, true_iff]
    intro y hy hm
    rw [e y hy] at hm
    simpa using (List.all_eq_true.1 hc) y hm
  | false =>
    rw [prL_out x hc]
    constructor
    · intro h; have := prL_lt h; omega
    · intro h
      obtain ⟨y, hy, hn⟩ := List.all_eq_false.1 hc
      have hlt := prL_lt hy
      rw [h y hlt ((e y hlt).2 hy)] at hn
      simp at hn
/-- Whether one of those left stands in the way. -/
def blkB (q : Nat → Nat → Bool) (N x : Nat) : Nat → Bool
  | 0 => false
  | y + 1 => blkB q N x y || (q x y && decide (y ∈ prL q N))
theorem blkB_miss {N x y : Nat} (h : q x y = false) : blkB q N x (y + 1) = blkB q N x y := by simp [blkB, h]
theorem blkB_hit {N x y : Nat} (h : q x y = true) : blkB q N x (y + 1) = (blkB q N x y || decide (y ∈ prL q N)) := by simp [blkB, h]
theorem blkB_true {N x m : Nat} : blkB q N x m = true ↔ ∃ y, y < m ∧ q x y = true ∧ y ∈ prL q N := by
  induction m with
  | zero => simp [blkB]
  | succ m ih =>
    simp only [blkB, Bool.or_eq_true, ih, Bool.and_eq_true, decide_eq_true_eq]
    constructor
    · rintro (⟨y, h1, h2⟩ | h)
      · exact ⟨y, by omega, h2⟩
      · exact ⟨m, by omega, h⟩
    · rintro ⟨y, h1, h2⟩
      rcases Nat.lt_or_ge y m with h | h
      · exact .inl ⟨y, h, h2⟩
      · obtain rfl : y = m := by omega
        exact .inr h2
theorem blk_end {N x : Nat} (hx : x < N) : blkB q N x x = !decide (x ∈ prL q N) := by
  cases h : blkB q N x x with
  | true =>
    obtain ⟨y, h1, h2, h3⟩ := blkB_true.1 h
    have : ¬ x ∈ prL q N := fun hm => by
      have := (prL_mem hx).1 hm y h1 h3
      rw [h2] at this
      cases this
    simp [this]
  | false =>
    have : x ∈ prL q N := (prL_mem hx).2 fun y h1 h2 => by
      cases hq : q x y with
      | false => rfl
      | true =>
        have := blkB_true.2 ⟨y, h1, hq, h2⟩
        rw [h] at this
        cases this
    simp [this]
theorem both_not {N x y : Nat} (hx : x < N) (hy : y < x) (h : q x y = true) : (decide (x ∈ prL q N) && decide (y ∈ prL q N)) = false := by
  cases h1 : decide (x ∈ prL q N) with
  | false => rfl
  | true =>
    cases h2 : decide (y ∈ prL q N) with
    | false => rfl
    | true =>
      have := (prL_mem hx).1 (of_decide_eq_true h1) y hy (of_decide_eq_true h2)
      rw [h] at this
      cases this
theorem zero_left {N : Nat} (h : 0 < N) : 0 ∈ prL q N := (prL_mem h).2 fun y hy => by omega
/-- Those left rise. -/
theorem prL_rise (n : Nat) : ∀ i a b, (prL q n)[i]? = some a → (prL q n)[i + 1]? = some b → a < b := by
  induction n with
  | zero => intro i a b h; simp [prL] at h
  | succ n ih =>
    cases hc : (prL q n).all (fun k => !q n k) with
    | false => rw [prL_out n hc]; exact ih
    | true =>
      rw [prL_in n hc]
      intro i a b ha hb
      by_cases h1 : i + 1 < (prL q n).length
      · rw [List.getElem?_append_left (by omega)] at ha
        rw [List.getElem?_append_left h1] at hb
        exact ih i a b ha hb
      · by_cases h2 : i < (prL q n).length
        · rw [List.getElem?_append_left h2] at ha
          rw [List.getElem?_append_right (by omega), show i + 1 - (prL q n).length = 0 by omega] at hb
          simp at hb
          subst hb
          exact prL_lt (List.mem_of_getElem? ha)
        · rw [List.getElem?_append_right (by omega)] at hb
          rw [List.getElem?_eq_none (by simp; omega)] at hb
          cases hb
end
end Go.Proofs.Ytgigdipbfcffiaa
