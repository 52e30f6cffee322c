/- The merging of Go's stable sort (SymMerge, rotations, exchanged ranges) in plain Lean: what the rows hold. No program in sight. -/
import Derived.Sort.LotA
namespace Go.Proofs.Ytjigkogopmebeaa
open Go.Sort
section
variable {α : Type} [Inhabited α]

/-- Two ranges exchanged, k places of them so far. -/
def swR (d : Array α) (a b : Nat) : Nat → Array α
  | 0 => d
  | k + 1 => swp (swR d a b k) (a + k) (b + k)
theorem swR_size (d : Array α) (a b k : Nat) : (swR d a b k).size = d.size := by
  induction k with
  | zero => rfl
  | succ k ih => rw [swR, size_swp, ih]
theorem swR_get (d : Array α) (a b k : Nat) (hab : a + k ≤ b) (hb : b + k ≤ d.size) (t : Nat) :
    (swR d a b k)[t]! = if a ≤ t ∧ t < a + k then d[t + (b - a)]! else if b ≤ t ∧ t < b + k then d[t - (b - a)]! else d[t]! := by
  induction k generalizing t with
  | zero => rw [swR, if_neg (by omega), if_neg (by omega)]
  | succ k ih =>
    rw [swR, swp_get _ (by rw [swR_size]; omega) (by rw [swR_size]; omega), ih (by omega) (by omega), ih (by omega) (by omega), ih (by omega) (by omega)]
    by_cases h1 : t = b + k
    · subst h1
      rw [if_pos rfl, if_neg (by omega), if_neg (by omega), if_neg (by omega), if_pos (by omega)]
      congr 1; omega
    · rw [if_neg h1]
      by_cases h2 : t = a + k
      · subst h2
        rw [if_pos rfl, if_neg (by omega), if_neg (by omega), if_pos (by omega)]
        congr 1; omega
      · rw [if_neg h2]
        by_cases h3 : a ≤ t ∧ t < a + k
        · rw [if_pos h3, if_pos (by omega)]
        · rw [if_neg h3, if_neg (show ¬ (a ≤ t ∧ t < a + (k + 1)) by omega)]
          by_cases h4 : b ≤ t ∧ t < b + k
          · rw [if_pos h4, if_pos (by omega)]
          · rw [if_neg h4, if_neg (by omega)]
theorem swR_perm (d : Array α) (a b k lo hi : Nat) (h1 : lo ≤ a) (h2 : b + k ≤ hi) (hab : a ≤ b) (hh : hi ≤ d.size) : PermIn lo hi d (swR d a b k) := by
  induction k with
  | zero => exact permIn_refl _ _ _
  | succ k ih => exact permIn_trans _ _ _ _ _ (ih (by omega)) (swp_permIn _ _ _ _ _ (by omega) (by omega) (by omega) (by omega) (by rw [swR_size]; omega))

/-- The row with [lo, m) and [m, hi) exchanged as wholes. -/
def rotF (f : Nat → α) (lo m hi t : Nat) : α := if lo ≤ t ∧ t < lo + (hi - m) then f (t + (m - lo)) else if lo + (hi - m) ≤ t ∧ t < hi then f (t - (hi - m)) else f t

/-- The loop of the rotation: i places left of m and j right of it are still to be exchanged. -/
def rotL (d : Array α) (m i j : Nat) : Array α :=
  if _h : 0 < i ∧ 0 < j then
    if i = j then swR d (m - i) m i
    else if j < i then rotL (swR d (m - i) m j) m (i - j) j
    else rotL (swR d (m - i) (m + j - i) i) m i (j - i)
  else d
termination_by i + j
theorem rotL_eq (d : Array α) (m i : Nat) (h : 0 < i) : rotL d m i i = swR d (m - i) m i := by rw [rotL, dif_pos ⟨h, h⟩, if_pos rfl]
theorem rotL_gt (d : Array α) (m i j : Nat) (h : 0 < j) (hij : j < i) : rotL d m i j = rotL (swR d (m - i) m j) m (i - j) j := by rw [rotL, dif_pos ⟨by omega, h⟩, if_neg (by omega), if_pos hij]
theorem rotL_lt (d : Array α) (m i j : Nat) (h : 0 < i) (hij : i < j) : rotL d m i j = rotL (swR d (m - i) (m + j - i) i) m i (j - i) := by rw [rotL, dif_pos ⟨h, by omega⟩, if_neg (by omega), if_neg (by omega)]
theorem rotL_spec (s : Nat) : ∀ (d : Array α) (m i j : Nat), i + j ≤ s → 0 < i → 0 < j → i ≤ m → m + j ≤ d.size →
    PermIn (m - i) (m + j) d (rotL d m i j) ∧ ∀ t, (rotL d m i j)[t]! = rotF (fun t => d[t]!) (m - i) m (m + j) t := by
  induction s with
  | zero => intro d m i j hs hi hj; omega
  | succ s ih =>
    intro d m i j hs hi hj him hmj
    rcases Nat.lt_trichotomy i j with h | h | h
    · rw [rotL_lt d m i j hi h]
      obtain ⟨h1, h2⟩ := ih (swR d (m - i) (m + j - i) i) m i (j - i) (by omega) hi (by omega) him (by rw [swR_size]; omega)
      refine ⟨permIn_trans _ _ _ _ _ (swR_perm _ _ _ _ _ _ (Nat.le_refl _) (by omega) (by omega) hmj) (permIn_mono _ _ _ _ _ _ (Nat.le_refl _) (by omega) (by rw [swR_size]; omega) h1), fun t => ?_⟩
      rw [h2]
      unfold rotF
      simp only [swR_get d (m - i) (m + j - i) i (by omega) (by omega)]
      (repeat' split) <;> first | rfl | (congr 1; omega) | (exfalso; omega)
    · subst h
      rw [rotL_eq d m i hi]
      refine ⟨swR_perm _ _ _ _ _ _ (Nat.le_refl _) (by omega) (by omega) hmj, fun t => ?_⟩
      rw [swR_get d (m - i) m i (by omega) hmj]
      unfold rotF
      (repeat' split) <;> first | rfl | (congr 1; omega) | (exfalso; omega)
    · rw [rotL_gt d m i j hj h]
      obtain ⟨h1, h2⟩ := ih (swR d (m - i) m j) m (i - j) j (by omega) (by omega) hj (by omega) (by rw [swR_size]; omega)
      refine ⟨permIn_trans _ _ _ _ _ (swR_perm _ _ _ _ _ _ (Nat.le_refl _) (by omega) (by omega) hmj) (permIn_mono _ _ _ _ _ _ (by omega) (Nat.le_refl _) (by rw [swR_size]; omega) h1), fun t => ?_⟩
      rw [h2]
      unfold rotF
      simp only [swR_get d (m - i) m j (by omega) (by omega)]
      (repeat' split) <;> first | rfl | (congr 1; omega) | (exfalso; omega)
theorem rotL_perm (d : Array α) (m i j : Nat) (hi : 0 < i) (hj : 0 < j) (him : i ≤ m) (hmj : m + j ≤ d.size) : PermIn (m - i) (m + j) d (rotL d m i j) := (rotL_spec _ d m i j (Nat.le_refl _) hi hj him hmj).1
theorem rotL_get (d : Array α) (m i j : Nat) (hi : 0 < i) (hj : 0 < j) (him : i ≤ m) (hmj : m + j ≤ d.size) (t : Nat) : (rotL d m i j)[t]! = rotF (fun t => d[t]!) (m - i) m (m + j) t := (rotL_spec _ d m i j (Nat.le_refl _) hi hj him hmj).2 t

/-- What lies at a, moved up to k by exchanges of neighbours. -/
def shU (d : Array α) (a : Nat) : Nat → Array α
  | 0 => d
  | k + 1 => swp (shU d a k) (a + k) (a + k + 1)
theorem shU_size (d : Array α) (a k : Nat) : (shU d a k).size = d.size := by
  induction k with
  | zero => rfl
  | succ k ih => rw [shU, size_swp, ih]
theorem shU_get (d : Array α) (a k : Nat) (hb : a + k < d.size) (t : Nat) : (shU d a k)[t]! = if t = a + k then d[a]! else if a ≤ t ∧ t < a + k then d[t + 1]! else d[t]! := by
  induction k generalizing t with
  | zero =>
    rw [shU, Nat.add_zero]
    by_cases h : t = a
    · rw [if_pos h, h]
    · rw [if_neg h, if_neg (by omega)]
  | succ k ih =>
    rw [shU, swp_get _ (by rw [shU_size]; omega) (by rw [shU_size]; omega), ih (by omega), ih (by omega), ih (by omega)]
    by_cases h1 : t = a + k + 1
    · rw [if_pos h1, if_pos rfl, if_pos (by omega)]
    · rw [if_neg h1, if_neg (show ¬ t = a + (k + 1) by omega)]
      by_cases h2 : t = a + k
      · rw [if_pos h2, if_neg (by omega), if_neg (by omega), if_pos (by omega), h2]
      · rw [if_neg h2, if_neg h2]
        by_cases h3 : a ≤ t ∧ t < a + k
        · rw [if_pos h3, if_pos (by omega)]
        · rw [if_neg h3, if_neg (by omega)]
theorem shU_perm (d : Array α) (a k lo hi : Nat) (h1 : lo ≤ a) (h2 : a + k < hi) (hh : hi ≤ d.size) : PermIn lo hi d (shU d a k) := by
  induction k with
  | zero => exact permIn_refl _ _ _
  | succ k ih => exact permIn_trans _ _ _ _ _ (ih (by omega)) (swp_permIn _ _ _ _ _ (by omega) (by omega) (by omega) (by omega) (by rw [shU_size]; omega))
/-- What lies at m, moved down k places. -/
def shD (d : Array α) (m : Nat) : Nat → Array α
  | 0 => d
  | k + 1 => swp (shD d m k) (m - k) (m - k - 1)
theorem shD_size (d : Array α) (a k : Nat) : (shD d a k).size = d.size := by
  induction k with
  | zero => rfl
  | succ k ih => rw [shD, size_swp, ih]
theorem shD_get (d : Array α) (m k : Nat) (hk : k ≤ m) (hb : m < d.size) (t : Nat) : (shD d m k)[t]! = if t = m - k then d[m]! else if m - k < t ∧ t ≤ m then d[t - 1]! else d[t]! := by
  induction k generalizing t with
  | zero =>
    rw [shD, Nat.sub_zero]
    by_cases h : t = m
    · rw [if_pos h, h]
    · rw [if_neg h, if_neg (by omega)]
  | succ k ih =>
    rw [shD, swp_get _ (by rw [shD_size]; omega) (by rw [shD_size]; omega), ih (by omega), ih (by omega), ih (by omega)]
    by_cases h1 : t = m - k - 1
    · rw [if_pos h1, if_pos rfl, if_pos (by omega)]
    · rw [if_neg h1, if_neg (show ¬ t = m - (k + 1) by omega)]
      by_cases h2 : t = m - k
      · rw [if_pos h2, if_neg (by omega), if_neg (by omega), if_pos (by omega), h2]
      · rw [if_neg h2, if_neg h2]
        by_cases h3 : m - k < t ∧ t ≤ m
        · rw [if_pos h3, if_pos (by omega)]
        · rw [if_neg h3, if_neg (by omega)]
theorem shD_perm (d : Array α) (m k lo hi : Nat) (h1 : lo + k ≤ m) (h2 : m < hi) (hh : hi ≤ d.size) : PermIn lo hi d (shD d m k) := by
  induction k with
  | zero => exact permIn_refl _ _ _
  | succ k ih => exact permIn_trans _ _ _ _ _ (ih (by omega)) (swp_permIn _ _ _ _ _ (by omega) (by omega) (by omega) (by omega) (by rw [shD_size]; omega))

/-- [a, b) ascends in the strict order R. -/
def Srt (R : α → α → Bool) (a b : Nat) (d : Array α) : Prop := ∀ s t, a ≤ s → s < t → t < b → R d[s]! d[t]! = true
/-- What 'less' says between the left part and the right one is R. -/
def Crs (lt R : α → α → Bool) (a m b : Nat) (d : Array α) : Prop := ∀ s t, a ≤ s → s < m → m ≤ t → t < b → (lt d[t]! d[s]! = true → R d[t]! d[s]! = true) ∧ (lt d[t]! d[s]! = false → R d[s]! d[t]! = true)
/-- A strict order. -/
structure Ord (R : α → α → Bool) : Prop where
  irr : ∀ x, R x x = false
  tr : ∀ x y z, R x y = true → R y z = true → R x z = true
omit [Inhabited α] in
theorem Ord.asymm {R : α → α → Bool} (h : Ord R) {x y : α} (h1 : R x y = true) (h2 : R y x = true) : False := by
  have := h.tr _ _ _ h1 h2
  rw [h.irr] at this
  cases this

variable {lt R : α → α → Bool}
theorem Crs.no {a m b : Nat} {d : Array α} (hO : Ord R) (h : Crs lt R a m b d) {s t : Nat} (h1 : a ≤ s) (h2 : s < m) (h3 : m ≤ t) (h4 : t < b) (hr : R d[t]! d[s]! = true) : lt d[t]! d[s]! = true := by
  cases e : lt d[t]! d[s]!
  · exact (hO.asymm ((h s t h1 h2 h3 h4).2 e) hr).elim
  · rfl
theorem Crs.yes {a m b : Nat} {d : Array α} (hO : Ord R) (h : Crs lt R a m b d) {s t : Nat} (h1 : a ≤ s) (h2 : s < m) (h3 : m ≤ t) (h4 : t < b) (hr : R d[s]! d[t]! = true) : lt d[t]! d[s]! = false := by
  cases e : lt d[t]! d[s]!
  · rfl
  · exact (hO.asymm ((h s t h1 h2 h3 h4).1 e) hr).elim

/-- One element on the left: the row with it moved in front of the first that is not less. -/
theorem one_left {a b i : Nat} {d : Array α} (hb : b ≤ d.size) (hai : a + 1 ≤ i) (hib : i ≤ b) (hr : Srt R (a + 1) b d) (hc : Crs lt R a (a + 1) b d)
    (h1 : ∀ t, a + 1 ≤ t → t < i → lt d[t]! d[a]! = true) (h2 : ∀ t, i ≤ t → t < b → lt d[t]! d[a]! = false) : Srt R a b (shU d a (i - 1 - a)) := by
  intro s t hs hst ht
  rw [shU_get d a _ (by omega), shU_get d a _ (by omega)]
  by_cases c1 : s = a + (i - 1 - a)
  · rw [if_pos c1, if_neg (by omega), if_neg (by omega)]
    exact (hc a t (Nat.le_refl _) (by omega) (by omega) ht).2 (h2 t (by omega) ht)
  · rw [if_neg c1]
    by_cases c2 : t = a + (i - 1 - a)
    · rw [if_pos c2, if_pos (by omega)]
      exact (hc a (s + 1) (Nat.le_refl _) (by omega) (by omega) (by omega)).1 (h1 (s + 1) (by omega) (by omega))
    · rw [if_neg c2]
      by_cases c3 : a ≤ s ∧ s < a + (i - 1 - a)
      · rw [if_pos c3]
        by_cases c4 : a ≤ t ∧ t < a + (i - 1 - a)
        · rw [if_pos c4]; exact hr _ _ (by omega) (by omega) (by omega)
        · rw [if_neg c4]; exact hr _ _ (by omega) (by omega) (by omega)
      · rw [if_neg c3, if_neg (by omega)]; exact hr _ _ (by omega) (by omega) (by omega)
/-- One element on the right. -/
theorem one_right {a m i : Nat} {d : Array α} (hb : m + 1 ≤ d.size) (hai : a ≤ i) (hib : i ≤ m) (hr : Srt R a m d) (hc : Crs lt R a m (m + 1) d)
    (h1 : ∀ t, a ≤ t → t < i → lt d[m]! d[t]! = false) (h2 : ∀ t, i ≤ t → t < m → lt d[m]! d[t]! = true) : Srt R a (m + 1) (shD d m (m - i)) := by
  intro s t hs hst ht
  rw [shD_get d m _ (by omega) (by omega), shD_get d m _ (by omega) (by omega)]
  by_cases c1 : s = m - (m - i)
  · rw [if_pos c1, if_neg (by omega), if_pos (by omega)]
    exact (hc (t - 1) m (by omega) (by omega) (Nat.le_refl _) (by omega)).1 (h2 (t - 1) (by omega) (by omega))
  · rw [if_neg c1]
    by_cases c2 : t = m - (m - i)
    · rw [if_pos c2, if_neg (by omega)]
      exact (hc s m (by omega) (by omega) (Nat.le_refl _) (by omega)).2 (h1 s (by omega) (by omega))
    · rw [if_neg c2]
      by_cases c3 : m - (m - i) < s ∧ s ≤ m
      · rw [if_pos c3, if_pos (by omega)]; exact hr _ _ (by omega) (by omega) (by omega)
      · rw [if_neg c3]
        by_cases c4 : m - (m - i) < t ∧ t ≤ m
        · rw [if_pos c4]; exact hr _ _ (by omega) (by omega) (by omega)
        · rw [if_neg c4]; exact hr _ _ (by omega) (by omega) (by omega)

/-- A search by halves: q is false below i, true from j on. -/
structure Bis (q : Nat → Bool) (lo hi i j : Nat) : Prop where
  li : lo ≤ i
  ij : i ≤ j
  jh : j ≤ hi
  no : ∀ t, lo ≤ t → t < i → q t = false
  yes : ∀ t, j ≤ t → t < hi → q t = true
def Upw (q : Nat → Bool) (lo hi : Nat) : Prop := ∀ s t, lo ≤ s → s ≤ t → t < hi → q s = true → q t = true
omit [Inhabited α] in
theorem Bis.start (q : Nat → Bool) {lo hi : Nat} (h : lo ≤ hi) : Bis q lo hi lo hi := ⟨Nat.le_refl _, h, Nat.le_refl _, fun t h1 h2 => by omega, fun t h1 h2 => by omega⟩
omit [Inhabited α] in
theorem Bis.hit {q : Nat → Bool} {lo hi i j c : Nat} (h : Bis q lo hi i j) (hu : Upw q lo hi) (h1 : i ≤ c) (h2 : c < j) (hq : q c = true) : Bis q lo hi i c :=
  ⟨h.li, h1, by have := h.jh; omega, h.no, fun t ht1 ht2 => hu c t (by have := h.li; omega) ht1 ht2 hq⟩
omit [Inhabited α] in
theorem Bis.miss {q : Nat → Bool} {lo hi i j c : Nat} (h : Bis q lo hi i j) (hu : Upw q lo hi) (h1 : i ≤ c) (h2 : c < j) (hq : q c = false) : Bis q lo hi (c + 1) j :=
  ⟨by have := h.li; omega, by omega, h.jh, fun t ht1 ht2 => Bool.eq_false_iff.2 fun e => (by
    have := hu t c ht1 (by omega) (by have := h.jh; omega) e
    rw [hq] at this; exact Bool.noConfusion this), h.yes⟩

theorem Srt.le {a b : Nat} {d : Array α} (h : Srt R a b d) {s t : Nat} (h1 : a ≤ s) (h2 : s ≤ t) (h3 : t < b) : d[s]! = d[t]! ∨ R d[s]! d[t]! = true := by
  rcases Nat.lt_or_ge s t with h4 | h4
  · exact .inr (h s t h1 h4 h3)
  · obtain rfl : s = t := by omega
    exact .inl rfl
omit [Inhabited α] in
theorem Ord.chain (hO : Ord R) {x y z u : α} (h1 : x = y ∨ R x y = true) (h2 : R y z = true) (h3 : z = u ∨ R z u = true) : R x u = true := by
  rcases h1 with rfl | h1
  · rcases h3 with rfl | h3
    · exact h2
    · exact hO.tr _ _ _ h2 h3
  · rcases h3 with rfl | h3
    · exact hO.tr _ _ _ h1 h2
    · exact hO.tr _ _ _ (hO.tr _ _ _ h1 h2) h3

theorem up_left {a b : Nat} {d : Array α} (hO : Ord R) (hr : Srt R (a + 1) b d) (hc : Crs lt R a (a + 1) b d) : Upw (fun t => !lt d[t]! d[a]!) (a + 1) b := by
  intro s t h1 h2 h3 hq
  simp only [Bool.not_eq_true'] at *
  refine hc.yes hO (Nat.le_refl _) (by omega) (by omega) h3 ?_
  have := (hc a s (Nat.le_refl _) (by omega) h1 (by omega)).2 hq
  exact hO.chain (.inl rfl) this (hr.le h1 h2 h3)
theorem up_right {a m : Nat} {d : Array α} (hO : Ord R) (hr : Srt R a m d) (hc : Crs lt R a m (m + 1) d) : Upw (fun t => lt d[m]! d[t]!) a m := by
  intro s t h1 h2 h3 hq
  refine hc.no hO (by omega) h3 (Nat.le_refl _) (by omega) ?_
  have := (hc s m h1 (by omega) (Nat.le_refl _) (by omega)).1 hq
  exact hO.chain (.inl rfl) this (hr.le h1 h2 h3)
theorem up_mid {a m b n lo hi : Nat} {d : Array α} (hO : Ord R) (hl : Srt R a m d) (hr : Srt R m b d) (hc : Crs lt R a m b d) (h1 : a ≤ lo) (h2 : hi ≤ m) (h3 : n - 1 - lo < b) (h4 : m + hi ≤ n) :
    Upw (fun t => lt d[n - 1 - t]! d[t]!) lo hi := by
  intro s t k1 k2 k3 hq
  refine hc.no hO (by omega) (by omega) (by omega) (by omega) ?_
  have := (hc s (n - 1 - s) (by omega) (by omega) (by omega) (by omega)).1 hq
  exact hO.chain (hr.le (by omega) (show n - 1 - t ≤ n - 1 - s by omega) (by omega)) this (hl.le (by omega) k2 (by omega))

/-- Behind the rotation: four ascending parts; all of the lower half are ahead of all of the upper one. -/
structure Halves (lt R : α → α → Bool) (a S mid E b : Nat) (D : Array α) : Prop where
  s1 : Srt R a S D
  s2 : Srt R S mid D
  c1 : Crs lt R a S mid D
  s3 : Srt R mid E D
  s4 : Srt R E b D
  c2 : Crs lt R mid E b D
  x : ∀ s t, a ≤ s → s < mid → mid ≤ t → t < b → R D[s]! D[t]! = true
theorem halves {a m b mid lo hi S : Nat} {d D : Array α} (hO : Ord R) (hl : Srt R a m d) (hr : Srt R m b d) (hc : Crs lt R a m b d) (ham : a < m) (hmb : m < b) (h1 : a ≤ mid) (h2 : mid ≤ b)
    (hB : Bis (fun t => lt d[mid + m - 1 - t]! d[t]!) lo hi S S) (hlo : (lo = mid + m - b ∧ mid < m ∧ hi = mid) ∨ (lo = a ∧ m ≤ mid ∧ hi = m)) (hmid : mid + m ≤ a + b ∨ lo = mid + m - b) (hal : a ≤ lo) (hE : mid + m - S ≤ b)
    (hD : ∀ t, D[t]! = rotF (fun t => d[t]!) S m (mid + m - S) t) : Halves lt R a S mid (mid + m - S) b D := by
  have hS1 := hB.li
  have hS2 := hB.jh
  have g1 : ∀ t, t < S → D[t]! = d[t]! := fun t ht => by rw [hD, rotF, if_neg (by omega), if_neg (by omega)]
  have g2 : ∀ t, S ≤ t → t < mid → D[t]! = d[t + (m - S)]! := fun t ht1 ht2 => by rw [hD, rotF, if_pos (by omega)]
  have g3 : ∀ t, mid ≤ t → t < mid + m - S → D[t]! = d[t - (mid - S)]! := fun t ht1 ht2 => by
    rw [hD, rotF, if_neg (by omega), if_pos (by omega)]; congr 1; omega
  have g4 : ∀ t, mid + m - S ≤ t → D[t]! = d[t]! := fun t ht => by rw [hD, rotF, if_neg (by omega), if_neg (by omega)]
  refine ⟨?_, ?_, ?_, ?_, ?_, ?_, ?_⟩
  · intro s t k1 k2 k3
    rw [g1 s (by omega), g1 t k3]; exact hl s t k1 k2 (by omega)
  · intro s t k1 k2 k3
    rw [g2 s k1 (by omega), g2 t (by omega) k3]; exact hr _ _ (by omega) (by omega) (by omega)
  · intro s t k1 k2 k3 k4
    rw [g1 s k2, g2 t k3 k4]; exact hc _ _ k1 (by omega) (by omega) (by omega)
  · intro s t k1 k2 k3
    rw [g3 s k1 (by omega), g3 t (by omega) k3]; exact hl _ _ (by omega) (by omega) (by omega)
  · intro s t k1 k2 k3
    rw [g4 s k1, g4 t (by omega)]; exact hr _ _ (by omega) (by omega) (by omega)
  · intro s t k1 k2 k3 k4
    rw [g3 s k1 k2, g4 t k3]; exact hc _ _ (by omega) (by omega) (by omega) (by omega)
  · intro s t k1 k2 k3 k4
    by_cases c1 : s < S
    · rw [g1 s c1]
      by_cases c2 : t < mid + m - S
      · rw [g3 t k3 c2]; exact hl _ _ k1 (by omega) (by omega)
      · rw [g4 t (by omega)]
        have hSlo : lo < S := by omega
        have q := hB.no (S - 1) (by omega) (by omega)
        rw [show mid + m - 1 - (S - 1) = mid + m - S by omega] at q
        have q2 := (hc (S - 1) (mid + m - S) (by omega) (by omega) (by omega) (by omega)).2 q
        exact hO.chain (hl.le k1 (show s ≤ S - 1 by omega) (by omega)) q2 (hr.le (by omega) (show mid + m - S ≤ t by omega) k4)
    · rw [g2 s (by omega) k2]
      by_cases c2 : t < mid + m - S
      · rw [g3 t k3 c2]
        have q := hB.yes S (Nat.le_refl _) (by omega)
        have q2 := (hc S (mid + m - 1 - S) (by omega) (by omega) (by omega) (by omega)).1 q
        exact hO.chain (hr.le (by omega) (show s + (m - S) ≤ mid + m - 1 - S by omega) (by omega)) q2 (hl.le (by omega) (show S ≤ t - (mid - S) by omega) (by omega))
      · rw [g4 t (by omega)]; exact hr _ _ (by omega) (by omega) k4
/-- Both halves ascend, and so does the whole. -/
theorem Halves.join {a S mid E b : Nat} {D D1 D2 : Array α} (h : Halves lt R a S mid E b D) (h1 : a ≤ mid) (h2 : mid ≤ b) (hb : b ≤ D.size) (p1 : PermIn a mid D D1) (q1 : Srt R a mid D1) (p2 : PermIn mid b D1 D2) (q2 : Srt R mid b D2) :
    PermIn a b D D2 ∧ Srt R a b D2 := by
  have z1 := p1.1
  refine ⟨permIn_trans _ _ _ _ _ (permIn_mono _ _ _ _ _ _ (Nat.le_refl _) h2 hb p1) (permIn_mono _ _ _ _ _ _ h1 (Nat.le_refl _) (by omega) p2), ?_⟩
  intro s t k1 k2 k3
  by_cases c1 : t < mid
  · rw [p2.2.1 s (by omega), p2.2.1 t (by omega)]; exact q1 s t k1 k2 c1
  · by_cases c2 : mid ≤ s
    · exact q2 s t c2 k2 k3
    · rw [p2.2.1 s (by omega)]
      have u1 : ∀ y, a ≤ y → y < mid → ∀ x, mid ≤ x → x < b → R D1[y]! D[x]! = true := fun y hy1 hy2 x hx1 hx2 =>
        permIn_all D D1 a mid (fun e => R e D[x]! = true) (by omega) p1 (fun i hi1 hi2 => h.x i x hi1 hi2 hx1 hx2) y hy1 hy2
      have u2 : ∀ x, mid ≤ x → x < b → R D1[s]! D1[x]! = true := fun x hx1 hx2 => by
        rw [p1.2.1 x (by omega)]; exact u1 s k1 (by omega) x hx1 hx2
      exact permIn_all D1 D2 mid b (fun e => R D1[s]! e = true) (by omega) p2 (fun i hi1 hi2 => u2 i hi1 hi2) t (by omega) k3
theorem halves_low {a S mid E b : Nat} {D : Array α} (h : Halves lt R a S mid E b D) (hs : ¬ (a < S ∧ S < mid)) (h1 : a ≤ S) (h2 : S ≤ mid) : Srt R a mid D := by
  intro s t k1 k2 k3
  by_cases c : S = a
  · subst c; exact h.s2 s t k1 k2 k3
  · exact h.s1 s t k1 k2 (by omega)
theorem halves_high {a S mid E b : Nat} {D : Array α} (h : Halves lt R a S mid E b D) (hs : ¬ (mid < E ∧ E < b)) (h1 : mid ≤ E) (h2 : E ≤ b) : Srt R mid b D := by
  intro s t k1 k2 k3
  by_cases c : E = mid
  · subst c; exact h.s4 s t k1 k2 k3
  · exact h.s3 s t k1 k2 (by omega)
/-- A part that the permutation has not touched. -/
theorem Srt.keep {a b lo hi : Nat} {d d' : Array α} (h : Srt R lo hi d) (p : PermIn a b d d') (hb : b ≤ lo ∨ hi ≤ a) : Srt R lo hi d' := fun s t h1 h2 h3 => by
  rw [p.2.1 s (by omega), p.2.1 t (by omega)]; exact h s t h1 h2 h3
theorem Crs.keep {a b lo m hi : Nat} {d d' : Array α} (h : Crs lt R lo m hi d) (p : PermIn a b d d') (hb : b ≤ lo ∨ hi ≤ a) : Crs lt R lo m hi d' := fun s t h1 h2 h3 h4 => by
  rw [p.2.1 s (by omega), p.2.1 t (by omega)]; exact h s t h1 h2 h3 h4

/-! The insertion sort under 'less' is that under R. -/
theorem ins_inner (a : Nat) : ∀ (j : Nat) (d : Array α), j < d.size → (∀ k, a ≤ k → k < j → lt d[j]! d[k]! = R d[j]! d[k]!) → insInner lt a j d = insInner R a j d := by
  intro j
  induction j with
  | zero => intro d _ _; rfl
  | succ j ih =>
    intro d hj h
    rw [insInner.eq_def lt, insInner.eq_def R]
    dsimp only
    by_cases c : a ≤ j
    · rw [h j c (by omega)]
      cases e : R d[j + 1]! d[j]!
      · simp
      · rw [if_pos (by simp; omega), if_pos (by simp; omega)]
        refine ih _ (by rw [size_swp]; omega) fun k hk1 hk2 => ?_
        rw [swp_right _ _ _ (by omega), swp_other _ _ _ _ (by omega) (by omega)]
        exact h k hk1 (by omega)
    · rw [if_neg (by simp; omega), if_neg (by simp; omega)]
theorem insInner_perm (a : Nat) : ∀ (j : Nat) (d : Array α), j < d.size → PermIn a (j + 1) d (insInner R a j d) := by
  intro j
  induction j with
  | zero => intro d _; exact permIn_refl _ _ _
  | succ j ih =>
    intro d hj
    rw [insInner]
    by_cases c : (decide (j + 1 > a) && R d[j + 1]! d[j]!) = true
    · rw [if_pos c]
      simp only [Bool.and_eq_true, decide_eq_true_eq] at c
      have := ih (swp d (j + 1) j) (by rw [size_swp]; omega)
      exact permIn_trans _ _ _ _ _ (swp_permIn _ _ _ _ _ (by omega) (by omega) (by omega) (by omega) (by omega)) (permIn_mono _ _ _ _ _ _ (Nat.le_refl _) (by omega) (by rw [size_swp]; omega) this)
    · rw [if_neg c]; exact permIn_refl _ _ _
theorem ins_outer (a b : Nat) (s : Nat) : ∀ (i : Nat) (d : Array α), b - i ≤ s → a ≤ i → b ≤ d.size → (∀ t k, i ≤ t → t < b → a ≤ k → k < t → lt d[t]! d[k]! = R d[t]! d[k]!) → insOuter lt a b i d = insOuter R a b i d := by
  induction s with
  | zero =>
    intro i d hs _ _ _
    have c : ¬ i < b := by omega
    rw [insOuter.eq_def lt, insOuter.eq_def R, if_neg c, if_neg c]
  | succ s ih =>
    intro i d hs hai hb h
    rw [insOuter.eq_def lt, insOuter.eq_def R]
    by_cases c : i < b
    · rw [if_pos c, if_pos c, ins_inner a i d (by omega) (fun k h1 h2 => h i k (Nat.le_refl _) c h1 h2)]
      have hp := insInner_perm (R := R) a i d (by omega)
      refine ih (i + 1) _ (by omega) (by omega) (by rw [hp.1]; exact hb) fun t k h1 h2 h3 h4 => ?_
      rw [hp.2.1 t (by omega)]
      by_cases hk : k < i + 1
      · exact permIn_all d _ a (i + 1) (fun e => lt d[t]! e = R d[t]! e) (by omega) hp (fun y hy1 hy2 => h t y (by omega) h2 hy1 (by omega)) k h3 hk
      · rw [hp.2.1 k (by omega)]; exact h t k (by omega) h2 h3 h4
    · rw [if_neg c, if_neg c]
theorem ins_sort {a b : Nat} {d : Array α} (hb : b ≤ d.size) (h : ∀ t k, a ≤ k → k < t → t < b → lt d[t]! d[k]! = R d[t]! d[k]!) : insertionSort lt d a b = insertionSort R d a b :=
  ins_outer a b _ (a + 1) d (Nat.le_refl _) (by omega) hb fun t k h1 h2 h3 h4 => h t k h3 h4 h2
/-- A strict order in which any two different elements are ordered. -/
structure Tot (R : α → α → Bool) : Prop extends Ord R where
  tot : ∀ x y, R x y = false → R y x = false → x = y
omit [Inhabited α] in
theorem Tot.swo (h : Tot R) : SWO R := ⟨h.irr, h.tr, fun x y z h1 h2 => by
  cases e : R x z
  · rfl
  · cases e1 : R y x
    · rw [h.tot _ _ h1 e1] at e; rw [h2] at e; cases e
    · rw [h.tr _ _ _ e1 e] at h2; cases h2⟩
/-- The insertion sort of a part whose elements are all different. -/
theorem ins_srt {a b : Nat} {d : Array α} (hT : Tot R) (hab : a ≤ b) (hb : b ≤ d.size) (hn : (d.extract a b).toList.Nodup) (h : ∀ t k, a ≤ k → k < t → t < b → lt d[t]! d[k]! = R d[t]! d[k]!) :
    PermIn a b d (insertionSort lt d a b) ∧ Srt R a b (insertionSort lt d a b) := by
  rw [ins_sort hb h]
  obtain ⟨h1, h2⟩ := insertionSort_holds hT.swo d a b hab hb
  refine ⟨h1, fun s t k1 k2 k3 => ?_⟩
  have h3 := h2 s t k1 k2 k3
  cases e : R (insertionSort R d a b)[s]! (insertionSort R d a b)[t]!
  · exfalso
    have heq := hT.tot _ _ e h3
    have hnd : List.Pairwise (· ≠ ·) ((insertionSort R d a b).extract a b).toList := h1.2.2.nodup_iff.2 hn
    have hsz := h1.1
    have gs : ∀ u, a ≤ u → u < b → ∀ h, ((insertionSort R d a b).extract a b).toList[u - a]'h = (insertionSort R d a b)[u]! := fun u hu1 hu2 h => by
      rw [Array.getElem_toList, Array.getElem_extract, getElem!_pos (insertionSort R d a b) u (by omega)]
      congr 1; omega
    have hl : ((insertionSort R d a b).extract a b).toList.length = b - a := by simp; omega
    have := List.pairwise_iff_getElem.1 hnd (s - a) (t - a) (by omega) (by omega) (by omega)
    rw [gs s k1 (by omega), gs t (by omega) k3] at this
    exact this heq
  · rfl
end
end Go.Proofs.Ytjigkogopmebeaa
