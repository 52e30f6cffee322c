/- Rising lists of indices: the least one by length and number by number; sets as the bits of a number; the walk through all sets in their order. Plain facts on lists, no program in sight. -/
import Derived.Test.YtajcdaclbammaaaBase
namespace Go.Proofs.Ytajcdaclbammaaa

/-- Rising numbers from lo on, below n. -/
def Rsg (n : Int) : Int → List Int → Prop
  | _, [] => True
  | lo, x :: t => lo ≤ x ∧ x < n ∧ Rsg n (x + 1) t
/-- Compared number by number: -1, 0 or 1. -/
def cmpZ : List Int → List Int → Int
  | [], [] => 0
  | [], _ :: _ => -1
  | _ :: _, [] => 1
  | a :: s, b :: t => if a < b then -1 else if b < a then 1 else cmpZ s t
theorem cmpZ_self (s : List Int) : cmpZ s s = 0 := by
  induction s with
  | nil => rfl
  | cons a s ih => simp [cmpZ, ih]
theorem cmpZ_swap : ∀ s t : List Int, cmpZ t s = - cmpZ s t
  | [], [] => rfl
  | [], _ :: _ => rfl
  | _ :: _, [] => rfl
  | a :: s, b :: t => by
    simp only [cmpZ]
    by_cases h1 : a < b
    · rw [if_pos h1, if_neg (by omega), if_pos h1]; rfl
    · by_cases h2 : b < a
      · rw [if_pos h2, if_neg h1, if_pos h2]
      · rw [if_neg h1, if_neg h2, if_neg h2, if_neg h1]; exact cmpZ_swap s t
theorem cmpZ_eq : ∀ s t : List Int, cmpZ s t = 0 → s = t
  | [], [], _ => rfl
  | [], _ :: _, h => by simp [cmpZ] at h
  | _ :: _, [], h => by simp [cmpZ] at h
  | a :: s, b :: t, h => by
    simp only [cmpZ] at h
    by_cases h1 : a < b
    · rw [if_pos h1] at h; omega
    · rw [if_neg h1] at h
      by_cases h2 : b < a
      · rw [if_pos h2] at h; omega
      · rw [if_neg h2] at h
        rw [cmpZ_eq s t h, show a = b by omega]
theorem cmpZ_trans : ∀ r s t : List Int, cmpZ r s ≤ 0 → cmpZ s t ≤ 0 → cmpZ r t ≤ 0
  | [], _, [], _, _ => by simp [cmpZ]
  | [], _, _ :: _, _, _ => by simp [cmpZ]
  | _ :: _, [], _, h, _ => by simp [cmpZ] at h
  | _ :: _, _ :: _, [], _, h => by simp [cmpZ] at h
  | a :: r, b :: s, c :: t, h1, h2 => by
    simp only [cmpZ] at *
    by_cases a1 : a < b
    · by_cases a2 : b < c
      · rw [if_pos (by omega)]; omega
      · rw [if_neg a2] at h2
        by_cases a3 : c < b
        · rw [if_pos a3] at h2; omega
        · rw [if_pos (by omega)]; omega
    · rw [if_neg a1] at h1
      by_cases a4 : b < a
      · rw [if_pos a4] at h1; omega
      · rw [if_neg a4] at h1
        by_cases a2 : b < c
        · rw [if_pos (by omega)]; omega
        · rw [if_neg a2] at h2
          by_cases a3 : c < b
          · rw [if_pos a3] at h2; omega
          · rw [if_neg a3] at h2
            rw [if_neg (by omega), if_neg (by omega)]
            exact cmpZ_trans r s t h1 h2
theorem cmpZ_app (s a b : List Int) : cmpZ (s ++ a) (s ++ b) = cmpZ a b := by
  induction s with
  | nil => rfl
  | cons x s ih => simp [cmpZ, ih]
theorem cmpZ_pre (s : List Int) (x : Int) (t : List Int) : cmpZ s (s ++ x :: t) = -1 := by
  have := cmpZ_app s [] (x :: t)
  rw [List.append_nil] at this
  exact this
theorem Rsg_len {n : Int} : ∀ {lo : Int} {t : List Int}, Rsg n lo t → lo ≤ n → lo + t.length ≤ n
  | _, [], _, h => by simpa using h
  | lo, x :: t, h, _ => by
    have := Rsg_len h.2.2 (by have := h.2.1; omega)
    have := h.1
    simp only [List.length_cons]
    omega
theorem Rsg_mono {n m : Int} (hm : n ≤ m) : ∀ {lo : Int} {t : List Int}, Rsg n lo t → Rsg m lo t
  | _, [], _ => trivial
  | _, _ :: _, h => ⟨h.1, by have := h.2.1; omega, Rsg_mono hm h.2.2⟩
theorem Rsg_lo {n a b : Int} (hab : a ≤ b) {t : List Int} (h : Rsg n b t) : Rsg n a t := by
  cases t with
  | nil => trivial
  | cons x t => exact ⟨by have := h.1; omega, h.2⟩
theorem Rsg_snoc {k : Int} : ∀ {lo : Int} {t : List Int}, Rsg k lo t → lo ≤ k → Rsg (k + 1) lo (t ++ [k])
  | _, [], _, h => ⟨h, by omega, trivial⟩
  | lo, x :: t, h, _ => ⟨h.1, by have := h.2.1; omega, Rsg_snoc h.2.2 (by have := h.2.1; omega)⟩
theorem Rsg_split {k : Int} : ∀ {lo : Int} {t : List Int}, Rsg (k + 1) lo t → Rsg k lo t ∨ ∃ t0, t = t0 ++ [k] ∧ Rsg k lo t0
  | _, [], _ => .inl trivial
  | lo, x :: t, h => by
    by_cases hx : x = k
    · subst hx
      right
      refine ⟨[], ?_, trivial⟩
      cases t with
      | nil => rfl
      | cons y t => have := h.2.2.1; have := h.2.2.2.1; omega
    · rcases Rsg_split h.2.2 with h1 | ⟨t0, rfl, h1⟩
      · exact .inl ⟨h.1, by have := h.2.1; omega, h1⟩
      · exact .inr ⟨x :: t0, rfl, h.1, by have := h.2.1; omega, h1⟩
theorem Rsg_mem {n : Int} : ∀ {lo : Int} {t : List Int}, Rsg n lo t → ∀ x ∈ t, lo ≤ x ∧ x < n
  | _, [], _, _, hx => by cases hx
  | lo, y :: t, h, x, hx => by
    rcases List.mem_cons.1 hx with rfl | hx
    · exact ⟨h.1, h.2.1⟩
    · have := Rsg_mem h.2.2 x hx
      have := h.1
      omega
/-- The first of f 0, f 1, .. f (k - 1) that is there. -/
def fstS {α : Type} (f : Nat → Option α) : Nat → Option α
  | 0 => none
  | k + 1 => (fstS f k).or (f k)
section
variable {α : Type} {f : Nat → Option α} {k m : Nat} {r : α}
theorem fstS_none (h : fstS f k = none) : ∀ i, i < k → f i = none := by
  induction k with
  | zero => intro i hi; omega
  | succ k ih =>
    intro i hi
    simp only [fstS, Option.or_eq_none_iff] at h
    by_cases e : i = k
    · subst e; exact h.2
    · exact ih h.1 i (by omega)
theorem fstS_some (h : fstS f k = some r) : ∃ j, j < k ∧ f j = some r ∧ ∀ i, i < j → f i = none := by
  induction k with
  | zero => cases h
  | succ k ih =>
    simp only [fstS] at h
    cases g : fstS f k with
    | some v =>
      rw [g] at h
      obtain ⟨j, h1, h2, h3⟩ := ih (g.trans h)
      exact ⟨j, by omega, h2, h3⟩
    | none =>
      rw [g] at h
      exact ⟨k, by omega, h, fstS_none g⟩
theorem fstS_step (h : fstS f k = none) (h2 : f k = none) : fstS f (k + 1) = none := by simp [fstS, h, h2]
theorem fstS_hit (h : fstS f k = none) (h2 : f k = some r) (hk : k < m) : fstS f m = some r := by
  induction m with
  | zero => omega
  | succ m ih =>
    by_cases e : k = m
    · subst e; simp [fstS, h, h2]
    · simp [fstS, ih (by omega)]
end
/-- The first list that goes on from s by m rising numbers from lo on. -/
def fw (P : List Int → Bool) (n : Nat) : Nat → List Int → Int → Option (List Int)
  | 0, s, _ => if P s = true then some s else none
  | m + 1, s, lo => fstS (fun j => fw P n m (s ++ [lo + (j : Int)]) (lo + (j : Int) + 1)) ((n : Int) - m - lo).toNat
theorem fw_spec (P : List Int → Bool) (n : Nat) : ∀ (m : Nat) (s : List Int) (lo : Int),
    (∀ r, fw P n m s lo = some r → ∃ t, r = s ++ t ∧ Rsg n lo t ∧ t.length = m ∧ P r = true ∧ ∀ t', Rsg n lo t' → t'.length = m → P (s ++ t') = true → cmpZ t t' ≤ 0) ∧
    (fw P n m s lo = none → ∀ t', Rsg n lo t' → t'.length = m → P (s ++ t') = false) := by
  intro m
  induction m with
  | zero =>
    intro s lo
    simp only [fw]
    by_cases h : P s = true
    · rw [if_pos h]
      refine ⟨fun r hr => ⟨[], ?_, trivial, rfl, ?_, ?_⟩, fun h => by cases h⟩
      · simpa using hr.symm
      · rw [← Option.some.inj hr]; exact h
      · intro t' _ ht _
        rw [List.eq_nil_of_length_eq_zero ht]
        exact Int.le_refl 0
    · rw [if_neg h]
      refine ⟨fun r hr => (by cases hr), fun _ t' _ ht => ?_⟩
      rw [List.eq_nil_of_length_eq_zero ht, List.append_nil]
      exact Bool.eq_false_iff.2 h
  | succ m ih =>
    intro s lo
    simp only [fw]
    constructor
    · intro r hr
      obtain ⟨j, hj, hf, hn⟩ := fstS_some hr
      obtain ⟨t, h1, h2, h3, h4, h5⟩ := (ih _ _).1 r hf
      refine ⟨(lo + j) :: t, by rw [h1]; simp, ⟨by omega, by omega, h2⟩, by simp [h3], h4, ?_⟩
      intro t' ht hl hP
      cases t' with
      | nil => simp at hl
      | cons x t' =>
        obtain ⟨g1, g2, g3⟩ := ht
        simp only [List.length_cons, Nat.add_right_cancel_iff] at hl
        simp only [cmpZ]
        by_cases a1 : lo + (j : Int) < x
        · rw [if_pos a1]; omega
        · rw [if_neg a1]
          by_cases a2 : x < lo + (j : Int)
          · exfalso
            have hi := hn (x - lo).toNat (by omega)
            have e : lo + ((x - lo).toNat : Int) = x := by omega
            rw [e] at hi
            have := (ih _ _).2 hi t' g3 hl
            rw [List.append_assoc] at this
            rw [show s ++ x :: t' = s ++ ([x] ++ t') from rfl, this] at hP
            cases hP
          · rw [if_neg a2]
            have e : x = lo + (j : Int) := by omega
            subst e
            exact h5 t' g3 hl (by rw [List.append_assoc]; exact hP)
    · intro hr t' ht hl
      cases t' with
      | nil => simp at hl
      | cons x t' =>
        obtain ⟨g1, g2, g3⟩ := ht
        simp only [List.length_cons, Nat.add_right_cancel_iff] at hl
        have h6 := Rsg_len g3 (by omega)
        have hi := fstS_none hr (x - lo).toNat (by omega)
        have e : lo + ((x - lo).toNat : Int) = x := by omega
        rw [e] at hi
        have := (ih _ _).2 hi t' g3 hl
        rw [List.append_assoc] at this
        exact this
/-- As good as another one: shorter, or as long and not behind it. -/
def Sle (a b : List Int) : Prop := a.length < b.length ∨ a.length = b.length ∧ cmpZ a b ≤ 0
theorem Sle.refl (a : List Int) : Sle a a := .inr ⟨rfl, by rw [cmpZ_self]; omega⟩
theorem Sle.trans {a b c : List Int} (h : Sle a b) (h' : Sle b c) : Sle a c := by
  rcases h with h | ⟨h, g⟩ <;> rcases h' with h' | ⟨h', g'⟩
  · exact .inl (by omega)
  · exact .inl (by omega)
  · exact .inl (by omega)
  · exact .inr ⟨by omega, cmpZ_trans _ _ _ g g'⟩
theorem Sle.anti {a b : List Int} (h : Sle a b) (h' : Sle b a) : a = b := by
  rcases h with h | ⟨h, g⟩ <;> rcases h' with h' | ⟨h', g'⟩
  · omega
  · omega
  · omega
  · have := cmpZ_swap a b
    exact cmpZ_eq a b (by omega)
def lessLn (a b : List Int) : Bool := decide (a.length < b.length) || (decide (a.length = b.length) && decide (cmpZ a b < 0))
theorem lessLn_yes {a b : List Int} (h : lessLn a b = true) : Sle a b := by
  simp only [lessLn, Bool.or_eq_true, Bool.and_eq_true, decide_eq_true_eq] at h
  rcases h with h | ⟨h, g⟩
  · exact .inl h
  · exact .inr ⟨h, by omega⟩
theorem lessLn_no {a b : List Int} (h : lessLn a b = false) : Sle b a := by
  have h1 : ¬ (a.length < b.length ∨ (a.length = b.length ∧ cmpZ a b < 0)) := by
    intro h2
    have : lessLn a b = true := by
      simp only [lessLn, Bool.or_eq_true, Bool.and_eq_true, decide_eq_true_eq]; exact h2
    rw [h] at this; cases this
  have := cmpZ_swap a b
  by_cases h2 : b.length < a.length
  · exact .inl h2
  · refine .inr ⟨by omega, ?_⟩
    by_cases h3 : cmpZ a b < 0
    · exact absurd (.inr ⟨by omega, h3⟩) h1
    · omega
def LeastS (P : List Int → Bool) (n : Nat) (r : List Int) : Prop := Rsg n 0 r ∧ P r = true ∧ ∀ t, Rsg n 0 t → P t = true → Sle r t
theorem LeastS.uniq {P : List Int → Bool} {n : Nat} {r r' : List Int} (h : LeastS P n r) (h' : LeastS P n r') : r = r' := (h.2.2 _ h'.1 h'.2.1).anti (h'.2.2 _ h.1 h.2.1)
def fewO (P : List Int → Bool) (n : Nat) : Option (List Int) := fstS (fun m => fw P n m [] 0) (n + 1)
theorem fewO_some {P : List Int → Bool} {n : Nat} {r : List Int} (h : fewO P n = some r) : LeastS P n r := by
  obtain ⟨m, hm, hf, hn⟩ := fstS_some h
  obtain ⟨t, h1, h2, h3, h4, h5⟩ := (fw_spec P n m [] 0).1 r hf
  rw [List.nil_append] at h1
  subst h1
  refine ⟨h2, h4, fun t ht hP => ?_⟩
  by_cases a1 : t.length < m
  · have := (fw_spec P n t.length [] 0).2 (hn _ a1) t ht rfl
    rw [List.nil_append, hP] at this
    cases this
  · by_cases a2 : t.length = m
    · exact .inr ⟨by omega, h5 t ht a2 hP⟩
    · exact .inl (by omega)
theorem fewO_none {P : List Int → Bool} {n : Nat} (h : fewO P n = none) (t : List Int) (ht : Rsg n 0 t) : P t = false := by
  have h1 := Rsg_len ht (by omega)
  exact (fw_spec P n t.length [] 0).2 (fstS_none h _ (by omega)) t ht rfl
theorem fewO_eq {P : List Int → Bool} {n : Nat} {r : List Int} (h : LeastS P n r) : fewO P n = some r := by
  cases g : fewO P n with
  | none => have := fewO_none g r h.1; rw [h.2.1] at this; cases this
  | some r' => rw [(fewO_some g).uniq h]
/-- The indices of the bits of a number, below k. -/
def chsN (set : Nat) : Nat → List Int
  | 0 => []
  | k + 1 => if set.testBit k = true then chsN set k ++ [(k : Int)] else chsN set k
theorem chsN_rsg (set k : Nat) : Rsg k 0 (chsN set k) := by
  induction k with
  | zero => trivial
  | succ k ih =>
    simp only [chsN]
    split
    · exact Rsg_snoc ih (by omega)
    · exact Rsg_mono (by omega) ih
theorem chsN_congr {a b k : Nat} (h : ∀ i, i < k → a.testBit i = b.testBit i) : chsN a k = chsN b k := by
  induction k with
  | zero => rfl
  | succ k ih => simp only [chsN, h k (by omega), ih (fun i hi => h i (by omega))]
theorem chsN_onto (k : Nat) : ∀ t, Rsg k 0 t → ∃ set, set < 2 ^ k ∧ chsN set k = t := by
  induction k with
  | zero =>
    intro t ht
    cases t with
    | nil => exact ⟨0, by simp, rfl⟩
    | cons x t => have h1 := ht.1; have h2 := ht.2.1; omega
  | succ k ih =>
    intro t ht
    rcases Rsg_split (k := (k : Int)) ht with h | ⟨t0, rfl, h⟩
    · obtain ⟨set, h1, h2⟩ := ih t h
      refine ⟨set, by rw [Nat.pow_succ]; omega, ?_⟩
      simp only [chsN, Nat.testBit_lt_two_pow h1]
      simpa using h2
    · obtain ⟨set, h1, h2⟩ := ih t0 h
      refine ⟨2 ^ k + set, by rw [Nat.pow_succ]; omega, ?_⟩
      simp only [chsN, Nat.testBit_two_pow_add_eq, Nat.testBit_lt_two_pow h1, Bool.not_false, if_true]
      rw [chsN_congr (b := set) fun i hi => Nat.testBit_two_pow_add_gt hi set, h2]
/-- The best set so far. -/
def fewI (P : List Int → Bool) (n : Nat) : Nat → Option (List Int)
  | 0 => none
  | k + 1 => if P (chsN k n) = true then (match fewI P n k with | none => some (chsN k n) | some b => if lessLn (chsN k n) b = true then some (chsN k n) else some b) else fewI P n k
theorem fewI_inv (P : List Int → Bool) (n k : Nat) : (∀ r, fewI P n k = some r → Rsg n 0 r ∧ P r = true ∧ ∀ j, j < k → P (chsN j n) = true → Sle r (chsN j n)) ∧ (fewI P n k = none → ∀ j, j < k → P (chsN j n) = false) := by
  induction k with
  | zero => exact ⟨fun r h => (by cases h), fun _ j hj => (by omega)⟩
  | succ k ih =>
    simp only [fewI]
    cases g : P (chsN k n)
    · simp only [Bool.false_eq_true, if_false]
      refine ⟨fun r h => ⟨(ih.1 r h).1, (ih.1 r h).2.1, fun j hj hP => ?_⟩, fun h j hj => ?_⟩
      · by_cases e : j = k
        · subst e; rw [g] at hP; cases hP
        · exact (ih.1 r h).2.2 j (by omega) hP
      · by_cases e : j = k
        · subst e; exact g
        · exact ih.2 h j (by omega)
    · simp only [if_true]
      cases g2 : fewI P n k with
      | none =>
        simp only
        refine ⟨fun r h => ?_, fun h => (by cases h)⟩
        rw [← Option.some.inj h]
        refine ⟨chsN_rsg k n, g, fun j hj hP => ?_⟩
        by_cases e : j = k
        · subst e; exact Sle.refl _
        · rw [ih.2 g2 j (by omega)] at hP; cases hP
      | some b =>
        simp only
        obtain ⟨h1, h2, h3⟩ := ih.1 b g2
        cases g3 : lessLn (chsN k n) b
        · simp only [Bool.false_eq_true, if_false]
          refine ⟨fun r h => ?_, fun h => (by cases h)⟩
          rw [← Option.some.inj h]
          refine ⟨h1, h2, fun j hj hP => ?_⟩
          by_cases e : j = k
          · subst e; exact lessLn_no g3
          · exact h3 j (by omega) hP
        · simp only [if_true]
          refine ⟨fun r h => ?_, fun h => (by cases h)⟩
          rw [← Option.some.inj h]
          refine ⟨chsN_rsg k n, g, fun j hj hP => ?_⟩
          by_cases e : j = k
          · subst e; exact Sle.refl _
          · exact (lessLn_yes g3).trans (h3 j (by omega) hP)
theorem fewI_eq (P : List Int → Bool) (n : Nat) : fewI P n (2 ^ n) = fewO P n := by
  cases g : fewI P n (2 ^ n) with
  | none =>
    cases g2 : fewO P n with
    | none => rfl
    | some r =>
      obtain ⟨h1, h2, _⟩ := fewO_some g2
      obtain ⟨set, h3, rfl⟩ := chsN_onto n r h1
      rw [(fewI_inv P n (2 ^ n)).2 g set h3] at h2
      cases h2
  | some r =>
    obtain ⟨h1, h2, h3⟩ := (fewI_inv P n (2 ^ n)).1 r g
    refine (fewO_eq ⟨h1, h2, fun t ht hP => ?_⟩).symm
    obtain ⟨set, h4, rfl⟩ := chsN_onto n t ht
    exact h3 set h4 hP
/-- The state of a search: the best set, what it covers, its minutes. -/
abbrev TBest := List Int × Int × Int
section
variable (cov mi : List Int → Int) (lim : Int)
/-- Set a is as good as set b. -/
def Bet (a b : List Int) : Prop := cov b < cov a ∨ cov a = cov b ∧ (mi a < mi b ∨ mi a = mi b ∧ cmpZ a b ≤ 0)
def IsBest (V : List Int → Prop) (st : TBest) : Prop :=
  (∀ v, V v → lim < mi v) ∧ st = ([], -1, 0) ∨ ∃ b, st = (b, cov b, mi b) ∧ V b ∧ mi b ≤ lim ∧ ∀ t, V t → mi t ≤ lim → Bet cov mi b t
/-- What a set of the walk does to the state. -/
def updS (st : TBest) (s : List Int) : TBest := if st.2.1 < cov s ∨ cov s = st.2.1 ∧ mi s < st.2.2 then (s, cov s, mi s) else st
/-- What a set of the program's loop does to the state. -/
def updI (st : TBest) (s : List Int) : TBest :=
  if st.2.1 < cov s ∨ cov s = st.2.1 ∧ (mi s < st.2.2 ∨ mi s = st.2.2 ∧ cmpZ s st.1 < 0) then (s, cov s, mi s) else st
/-- st, then g 0, g 1, .. g (k - 1). -/
def iterS {α : Type} (g : Nat → α → α) : Nat → α → α
  | 0, st => st
  | k + 1, st => g k (iterS g k st)
def loOf (s : List Int) : Int := match s.getLast? with | none => 0 | some x => x + 1
def dfs (n : Nat) : Nat → List Int → TBest → TBest
  | 0, s, st => if lim < mi s then st else updS cov mi st s
  | f + 1, s, st => if lim < mi s then st else iterS (fun j st => dfs n f (s ++ [loOf s + (j : Int)]) st) ((n : Int) - loOf s).toNat (updS cov mi st s)
def bestI (n : Nat) : Nat → TBest
  | 0 => ([], -1, 0)
  | k + 1 => if lim < mi (chsN k n) then bestI n k else updI cov mi (bestI n k) (chsN k n)
end
theorem loOf_snoc (s : List Int) (x : Int) : loOf (s ++ [x]) = x + 1 := by simp [loOf]
section
variable {cov mi : List Int → Int} {lim : Int} {V V' : List Int → Prop} {st : TBest} {s : List Int}
theorem Bet.refl (a : List Int) : Bet cov mi a a := .inr ⟨rfl, .inr ⟨rfl, by rw [cmpZ_self]; omega⟩⟩
theorem Bet.trans {a b c : List Int} (h : Bet cov mi a b) (h' : Bet cov mi b c) : Bet cov mi a c := by
  rcases h with h | ⟨h, g | ⟨g, k⟩⟩ <;> rcases h' with h' | ⟨h', g' | ⟨g', k'⟩⟩
  · exact .inl (by omega)
  · exact .inl (by omega)
  · exact .inl (by omega)
  · exact .inl (by omega)
  · exact .inr ⟨by omega, .inl (by omega)⟩
  · exact .inr ⟨by omega, .inl (by omega)⟩
  · exact .inl (by omega)
  · exact .inr ⟨by omega, .inl (by omega)⟩
  · exact .inr ⟨by omega, .inr ⟨by omega, cmpZ_trans _ _ _ k k'⟩⟩
theorem Bet.anti {a b : List Int} (h : Bet cov mi a b) (h' : Bet cov mi b a) : a = b := by
  rcases h with h | ⟨h, g | ⟨g, k⟩⟩ <;> rcases h' with h' | ⟨h', g' | ⟨g', k'⟩⟩ <;> try omega
  have := cmpZ_swap a b
  exact cmpZ_eq a b (by omega)
theorem IsBest.ext (h : IsBest cov mi lim V st) (he : ∀ v, V v ↔ V' v) : IsBest cov mi lim V' st := by
  rcases h with ⟨h1, h2⟩ | ⟨b, h1, h2, h3, h4⟩
  · exact .inl ⟨fun v hv => h1 v ((he v).2 hv), h2⟩
  · exact .inr ⟨b, h1, (he b).1 h2, h3, fun t ht => h4 t ((he t).2 ht)⟩
theorem IsBest.over (h : IsBest cov mi lim V st) (hV : ∀ v, V v → V' v) (he : ∀ v, V' v → V v ∨ lim < mi v) : IsBest cov mi lim V' st := by
  rcases h with ⟨h1, h2⟩ | ⟨b, h1, h2, h3, h4⟩
  · exact .inl ⟨fun v hv => (he v hv).elim (h1 v) id, h2⟩
  · exact .inr ⟨b, h1, hV b h2, h3, fun t ht hm => (he t ht).elim (fun h => h4 t h hm) (fun h => by omega)⟩
theorem IsBest.uniq {st' : TBest} {e : List Int} (h : IsBest cov mi lim V st) (h' : IsBest cov mi lim V st') (he : V e) (hm : mi e ≤ lim) : st = st' := by
  rcases h with ⟨h1, _⟩ | ⟨b, h1, h2, h3, h4⟩
  · have := h1 e he; omega
  rcases h' with ⟨h1', _⟩ | ⟨b', h1', h2', h3', h4'⟩
  · have := h1' e he; omega
  have : b = b' := (h4 b' h2' h3').anti (h4' b h2 h3)
  subst this
  rw [h1, h1']
theorem IsBest.stepS (h : IsBest cov mi lim V st) (hm : mi s ≤ lim) (hc : 0 ≤ cov s) (hl : ∀ v, V v → cmpZ v s ≤ 0) : IsBest cov mi lim (fun v => V v ∨ v = s) (updS cov mi st s) := by
  right
  rcases h with ⟨h1, rfl⟩ | ⟨b, rfl, h2, h3, h4⟩
  · have e : updS cov mi ([], -1, 0) s = (s, cov s, mi s) := if_pos (.inl (by dsimp only; omega))
    rw [e]
    refine ⟨s, rfl, .inr rfl, hm, fun t ht hmt => ?_⟩
    rcases ht with ht | rfl
    · have := h1 t ht; omega
    · exact Bet.refl _
  · unfold updS
    dsimp only
    split
    · rename_i hu
      refine ⟨s, rfl, .inr rfl, hm, fun t ht hmt => ?_⟩
      rcases ht with ht | rfl
      · refine Bet.trans ?_ (h4 t ht hmt)
        rcases hu with hu | hu
        · exact .inl hu
        · exact .inr ⟨hu.1, .inl hu.2⟩
      · exact Bet.refl _
    · rename_i hu
      refine ⟨b, rfl, .inl h2, h3, fun t ht hmt => ?_⟩
      rcases ht with ht | rfl
      · exact h4 t ht hmt
      · have := hl b h2
        by_cases a1 : cov t < cov b
        · exact .inl a1
        · have a2 : cov b = cov t := by
            by_cases a3 : cov b < cov t
            · exact absurd (.inl a3) hu
            · omega
          refine .inr ⟨a2, ?_⟩
          by_cases a3 : mi t < mi b
          · exact absurd (.inr ⟨a2.symm, a3⟩) hu
          · by_cases a4 : mi b < mi t
            · exact .inl a4
            · exact .inr ⟨by omega, this⟩
theorem IsBest.stepI (h : IsBest cov mi lim V st) (hm : mi s ≤ lim) (hc : 0 ≤ cov s) : IsBest cov mi lim (fun v => V v ∨ v = s) (updI cov mi st s) := by
  right
  rcases h with ⟨h1, rfl⟩ | ⟨b, rfl, h2, h3, h4⟩
  · have e : updI cov mi ([], -1, 0) s = (s, cov s, mi s) := if_pos (.inl (by dsimp only; omega))
    rw [e]
    refine ⟨s, rfl, .inr rfl, hm, fun t ht hmt => ?_⟩
    rcases ht with ht | rfl
    · have := h1 t ht; omega
    · exact Bet.refl _
  · unfold updI
    dsimp only
    split
    · rename_i hu
      refine ⟨s, rfl, .inr rfl, hm, fun t ht hmt => ?_⟩
      rcases ht with ht | rfl
      · refine Bet.trans ?_ (h4 t ht hmt)
        rcases hu with hu | ⟨hu, hv | ⟨hv, hw⟩⟩
        · exact .inl hu
        · exact .inr ⟨hu, .inl hv⟩
        · exact .inr ⟨hu, .inr ⟨hv, by omega⟩⟩
      · exact Bet.refl _
    · rename_i hu
      refine ⟨b, rfl, .inl h2, h3, fun t ht hmt => ?_⟩
      rcases ht with ht | rfl
      · exact h4 t ht hmt
      · have := cmpZ_swap b t
        by_cases a1 : cov t < cov b
        · exact .inl a1
        · have a2 : cov b = cov t := by
            by_cases a3 : cov b < cov t
            · exact absurd (.inl a3) hu
            · omega
          refine .inr ⟨a2, ?_⟩
          by_cases a3 : mi t < mi b
          · exact absurd (.inr ⟨a2.symm, .inl a3⟩) hu
          · by_cases a4 : mi b < mi t
            · exact .inl a4
            · refine .inr ⟨by omega, ?_⟩
              by_cases a5 : cmpZ t b < 0
              · exact absurd (.inr ⟨a2.symm, .inr ⟨by omega, a5⟩⟩) hu
              · omega
theorem bestI_best (n : Nat) (hc : ∀ s, 0 ≤ cov s) (k : Nat) : IsBest cov mi lim (fun v => ∃ j, j < k ∧ v = chsN j n) (bestI cov mi lim n k) := by
  induction k with
  | zero => exact .inl ⟨fun v ⟨j, hj, _⟩ => by omega, rfl⟩
  | succ k ih =>
    unfold bestI
    split
    · rename_i hm
      refine ih.over (fun v ⟨j, hj, hv⟩ => ⟨j, by omega, hv⟩) fun v ⟨j, hj, hv⟩ => ?_
      by_cases e : j = k
      · subst e; subst hv; exact .inr hm
      · exact .inl ⟨j, by omega, hv⟩
    · rename_i hm
      refine (ih.stepI (s := chsN k n) (by omega) (hc _)).ext fun v => ⟨?_, ?_⟩
      · rintro (⟨j, hj, hv⟩ | hv)
        · exact ⟨j, by omega, hv⟩
        · exact ⟨k, by omega, hv⟩
      · rintro ⟨j, hj, hv⟩
        by_cases e : j = k
        · subst e; exact .inr hv
        · exact .inl ⟨j, by omega, hv⟩
theorem dfs_best (n : Nat) (hc : ∀ s, 0 ≤ cov s) (hmono : ∀ s t, mi s ≤ mi (s ++ t)) : ∀ (f : Nat) (s : List Int) (st : TBest) (V : List Int → Prop), ((n : Int) - loOf s).toNat ≤ f → IsBest cov mi lim V st →
    (∀ v, V v → ∀ t, Rsg n (loOf s) t → cmpZ v (s ++ t) ≤ 0) → IsBest cov mi lim (fun v => V v ∨ ∃ t, Rsg n (loOf s) t ∧ v = s ++ t) (dfs cov mi lim n f s st) := by
  intro f
  induction f with
  | zero =>
    intro s st V hf h hV
    unfold dfs
    have hnil : ∀ t, Rsg n (loOf s) t → t = [] := by
      intro t ht
      cases t with
      | nil => rfl
      | cons x t => have := ht.1; have := ht.2.1; omega
    split
    · rename_i hm
      refine h.over (fun v hv => .inl hv) ?_
      rintro v (hv | ⟨t, ht, rfl⟩)
      · exact .inl hv
      · rw [hnil t ht, List.append_nil]; exact .inr hm
    · rename_i hm
      refine (h.stepS (s := s) (by omega) (hc s) (fun v hv => by have := hV v hv [] trivial; rwa [List.append_nil] at this)).ext fun v => ⟨?_, ?_⟩
      · rintro (hv | rfl)
        · exact .inl hv
        · exact .inr ⟨[], trivial, by simp⟩
      · rintro (hv | ⟨t, ht, rfl⟩)
        · exact .inl hv
        · rw [hnil t ht, List.append_nil]; exact .inr rfl
  | succ f ih =>
    intro s st V hf h hV
    unfold dfs
    split
    · rename_i hm
      refine h.over (fun v hv => .inl hv) ?_
      rintro v (hv | ⟨t, ht, rfl⟩)
      · exact .inl hv
      · exact .inr (by have := hmono s t; omega)
    · rename_i hm
      have h0 := h.stepS (s := s) (by omega) (hc s) (fun v hv => by have := hV v hv [] trivial; rwa [List.append_nil] at this)
      have key : ∀ k : Nat, k ≤ ((n : Int) - loOf s).toNat → IsBest cov mi lim (fun v => V v ∨ v = s ∨ ∃ i : Nat, i < k ∧ ∃ t, Rsg n (loOf s + (i : Int) + 1) t ∧ v = s ++ (loOf s + (i : Int)) :: t)
          (iterS (fun j st => dfs cov mi lim n f (s ++ [loOf s + (j : Int)]) st) k (updS cov mi st s)) := by
        intro k
        induction k with
        | zero =>
          intro _
          refine h0.ext fun v => ⟨?_, ?_⟩
          · rintro (hv | hv)
            · exact .inl hv
            · exact .inr (.inl hv)
          · rintro (hv | hv | ⟨i, hi, _⟩)
            · exact .inl hv
            · exact .inr hv
            · omega
        | succ k ihk =>
          intro hk
          have h1 := ih (s ++ [loOf s + (k : Int)]) _ _ (by rw [loOf_snoc]; omega) (ihk (by omega)) (by
            rintro v (hv | rfl | ⟨i, hi, t', ht', rfl⟩) t ht
            · rw [loOf_snoc] at ht
              rw [List.append_assoc]
              exact hV v hv ((loOf s + (k : Int)) :: t) ⟨by omega, by omega, ht⟩
            · rw [List.append_assoc, List.singleton_append, cmpZ_pre]
              omega
            · rw [List.append_assoc, List.singleton_append, cmpZ_app]
              simp only [cmpZ]
              rw [if_pos (by omega)]
              omega)
          refine h1.ext fun v => ⟨?_, ?_⟩
          · rintro ((hv | hv | ⟨i, hi, t, ht, hv⟩) | ⟨t, ht, hv⟩)
            · exact .inl hv
            · exact .inr (.inl hv)
            · exact .inr (.inr ⟨i, by omega, t, ht, hv⟩)
            · rw [loOf_snoc] at ht
              exact .inr (.inr ⟨k, by omega, t, ht, by rw [hv, List.append_assoc]; rfl⟩)
          · rintro (hv | hv | ⟨i, hi, t, ht, hv⟩)
            · exact .inl (.inl hv)
            · exact .inl (.inr (.inl hv))
            · by_cases e : i = k
              · subst e
                exact .inr ⟨t, by rw [loOf_snoc]; exact ht, by rw [hv, List.append_assoc]; rfl⟩
              · exact .inl (.inr (.inr ⟨i, by omega, t, ht, hv⟩))
      refine (key _ (Nat.le_refl _)).ext fun v => ⟨?_, ?_⟩
      · rintro (hv | rfl | ⟨i, hi, t, ht, hv⟩)
        · exact .inl hv
        · exact .inr ⟨[], trivial, by simp⟩
        · exact .inr ⟨_ :: t, ⟨by omega, by omega, ht⟩, hv⟩
      · rintro (hv | ⟨t, ht, rfl⟩)
        · exact .inl hv
        · cases t with
          | nil => rw [List.append_nil]; exact .inr (.inl rfl)
          | cons x t =>
            have h1 := ht.1
            have h2 := ht.2.1
            have e : loOf s + (((x - loOf s).toNat : Nat) : Int) = x := by omega
            exact .inr (.inr ⟨(x - loOf s).toNat, by omega, t, by rw [e]; exact ht.2.2, by rw [e]⟩)
theorem dfs_eq (n : Nat) (hc : ∀ s, 0 ≤ cov s) (hmono : ∀ s t, mi s ≤ mi (s ++ t)) (h0 : mi [] ≤ lim) : bestI cov mi lim n (2 ^ n) = dfs cov mi lim n n [] ([], -1, 0) := by
  have h1 := dfs_best (cov := cov) (mi := mi) (lim := lim) n hc hmono n [] ([], -1, 0) (fun _ => False) (by simp [loOf]) (.inl ⟨fun _ h => h.elim, rfl⟩) (fun _ h => h.elim)
  have h2 := bestI_best (cov := cov) (mi := mi) (lim := lim) n hc (2 ^ n)
  refine (h2.ext fun v => ⟨?_, ?_⟩).uniq h1 (e := []) (.inr ⟨[], trivial, rfl⟩) h0
  · rintro ⟨j, _, rfl⟩
    exact .inr ⟨_, chsN_rsg j n, rfl⟩
  · rintro (h | ⟨t, ht, hv⟩)
    · exact h.elim
    · obtain ⟨set, h3, h4⟩ := chsN_onto n t ht
      exact ⟨set, h3, by rw [hv, h4]; rfl⟩
end
end Go.Proofs.Ytajcdaclbammaaa
