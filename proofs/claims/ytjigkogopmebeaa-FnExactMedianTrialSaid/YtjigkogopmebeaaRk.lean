/- Rankings: places in order, better ones first, equal ones as they stood; groups of equal ones. No program in sight. -/
import Derived.Test.YtjigkogopmebeaaTw
namespace Go.Proofs.Ytjigkogopmebeaa
section
variable {lt : Nat → Nat → Bool} {n k i : Nat} {o o' : List Nat}

/-- A strict weak order. -/
structure Wk (lt : Nat → Nat → Bool) : Prop where
  irr : ∀ a, lt a a = false
  tr : ∀ a b c, lt a b = true → lt b c = true → lt a c = true
  ntr : ∀ a b c, lt a b = false → lt b c = false → lt a c = false
theorem Wk.asymm (h : Wk lt) {a b : Nat} (h1 : lt a b = true) : lt b a = false := by
  cases e : lt b a
  · rfl
  · have := h.tr _ _ _ h1 e
    rw [h.irr] at this; cases this
theorem Wk.lt_of (h : Wk lt) {a b c : Nat} (h1 : lt a b = true) (h2 : lt c b = false) : lt a c = true := by
  cases e : lt a c
  · have := h.ntr _ _ _ e h2
    rw [h1] at this; cases this
  · rfl
theorem Wk.of_lt (h : Wk lt) {a b c : Nat} (h1 : lt b a = false) (h2 : lt b c = true) : lt a c = true := by
  cases e : lt a c
  · have := h.ntr _ _ _ h1 e
    rw [h2] at this; cases this
  · rfl

/-- Ahead: better, or equal and earlier. -/
def tieB (lt : Nat → Nat → Bool) (i k : Nat) : Bool := lt i k || (!lt k i && decide (i < k))
theorem tie_iff {i k : Nat} : tieB lt i k = true ↔ lt i k = true ∨ (lt k i = false ∧ i < k) := by simp [tieB]
theorem tie_irr (h : Wk lt) (a : Nat) : tieB lt a a = false := by simp [tieB, h.irr]
theorem tie_tr (h : Wk lt) {a b c : Nat} (h1 : tieB lt a b = true) (h2 : tieB lt b c = true) : tieB lt a c = true := by
  rw [tie_iff] at *
  rcases h1 with h1 | ⟨h1, k1⟩ <;> rcases h2 with h2 | ⟨h2, k2⟩
  · exact .inl (h.tr _ _ _ h1 h2)
  · exact .inl (h.lt_of h1 h2)
  · exact .inl (h.of_lt h1 h2)
  · exact .inr ⟨h.ntr _ _ _ h2 h1, by omega⟩
theorem tie_tot {a b : Nat} (h1 : tieB lt a b = false) (h2 : tieB lt b a = false) : a = b := by
  simp only [tieB, Bool.or_eq_false_iff, Bool.and_eq_false_iff, Bool.not_eq_false', decide_eq_false_iff_not] at h1 h2
  have e1 : ¬ a < b := by
    rcases h1.2 with h | h
    · rw [h2.1] at h; cases h
    · exact h
  have e2 : ¬ b < a := by
    rcases h2.2 with h | h
    · rw [h1.1] at h; cases h
    · exact h
  omega
theorem tie_not (h : Wk lt) {a b : Nat} (h1 : tieB lt a b = true) : lt b a = false := by
  rw [tie_iff] at h1
  rcases h1 with h1 | h1
  · exact h.asymm h1
  · exact h1.1

/-- A ranking of the places below n. -/
def IsRk (lt : Nat → Nat → Bool) (n : Nat) (o : List Nat) : Prop := o.Perm (List.range n) ∧ o.Pairwise (fun a b => tieB lt a b = true)
theorem IsRk.uniq (h : Wk lt) (h1 : IsRk lt n o) (h2 : IsRk lt n o') : o = o' :=
  List.Perm.eq_of_pairwise (fun a b _ _ x y => by have := tie_tr h x y; rw [tie_irr h] at this; cases this) h1.2 h2.2 (h1.1.trans h2.1.symm)
theorem IsRk.len (h : IsRk lt n o) : o.length = n := by rw [h.1.length_eq]; simp
theorem IsRk.lt_ (h : IsRk lt n o) {x : Nat} (hx : x ∈ o) : x < n := by
  have := h.1.mem_iff.1 hx
  simpa using this
theorem IsRk.mem (h : IsRk lt n o) {x : Nat} (hx : x < n) : x ∈ o := h.1.mem_iff.2 (by simpa using hx)
theorem IsRk.nodup (h : IsRk lt n o) : o.Nodup := h.1.nodup_iff.2 List.nodup_range

/-- Where i goes among the first k of o. -/
def posA (lt : Nat → Nat → Bool) (i : Nat) (o : List Nat) : Nat → Nat
  | 0 => 0
  | k + 1 => if lt i (o.getD k 0) = true then posA lt i o k else k + 1
def insR (lt : Nat → Nat → Bool) (i : Nat) (o : List Nat) : List Nat := o.take (posA lt i o o.length) ++ i :: o.drop (posA lt i o o.length)
def rkL (lt : Nat → Nat → Bool) : Nat → List Nat
  | 0 => []
  | n + 1 => insR lt n (rkL lt n)
theorem posA_le : posA lt i o k ≤ k := by
  induction k with
  | zero => exact Nat.le_refl _
  | succ k ih =>
    rw [posA]
    split
    · omega
    · exact Nat.le_refl _
theorem posA_ge : ∀ j, posA lt i o k ≤ j → j < k → lt i (o.getD j 0) = true := by
  induction k with
  | zero => intro j _ h; omega
  | succ k ih =>
    intro j h1 h2
    rw [posA] at h1
    split at h1
    · rename_i h
      by_cases e : j = k
      · subst e; exact h
      · exact ih j h1 (by omega)
    · omega
theorem posA_low (h : 0 < posA lt i o k) : lt i (o.getD (posA lt i o k - 1) 0) = false := by
  induction k with
  | zero => rw [posA] at h; omega
  | succ k ih =>
    rw [posA] at h ⊢
    split
    · rename_i h1
      rw [if_pos h1] at h
      exact ih h
    · rename_i h1
      simpa using h1
theorem insR_ok (h : Wk lt) (ho : IsRk lt n o) : IsRk lt (n + 1) (insR lt n o) := by
  generalize hp : posA lt n o o.length = p
  have hle : p ≤ o.length := hp ▸ posA_le
  have hge : ∀ j, p ≤ j → j < o.length → lt n (o.getD j 0) = true := hp ▸ posA_ge
  have hlow : 0 < p → lt n (o.getD (p - 1) 0) = false := hp ▸ posA_low
  rw [insR, hp]
  refine ⟨?_, ?_⟩
  · refine List.perm_middle.trans ?_
    rw [List.take_append_drop, List.range_succ]
    exact (ho.1.cons n).trans (List.perm_append_comm (l₁ := [n]) (l₂ := List.range n))
  · have hpw := ho.2
    rw [← List.take_append_drop p o] at hpw
    obtain ⟨h1, h2, h3⟩ := List.pairwise_append.1 hpw
    refine List.pairwise_append.2 ⟨h1, List.pairwise_cons.2 ⟨?_, h2⟩, ?_⟩
    · intro x hx
      obtain ⟨j, hj, rfl⟩ := List.getElem_of_mem hx
      rw [List.length_drop] at hj
      rw [tie_iff]
      left
      have := hge (p + j) (by omega) (by omega)
      rw [List.getD_eq_getElem?_getD, List.getElem?_eq_getElem (by omega)] at this
      simpa using this
    · intro x hx y hy
      rcases List.mem_cons.1 hy with hyn | hy
      · rw [hyn]
        obtain ⟨j, hj, rfl⟩ := List.getElem_of_mem hx
        rw [List.length_take] at hj
        have hjp : j < p := by omega
        have hl := hlow (by omega)
        rw [List.getD_eq_getElem?_getD, List.getElem?_eq_getElem (by omega), Option.getD_some] at hl
        rw [List.getElem_take]
        have hxn : o[j] < n := ho.lt_ (List.getElem_mem _)
        rw [tie_iff]
        right
        refine ⟨?_, hxn⟩
        by_cases e : j = p - 1
        · subst e; exact hl
        · have := List.pairwise_iff_getElem.1 ho.2 j (p - 1) (by omega) (by omega) (by omega)
          exact h.ntr _ _ _ hl (tie_not h this)
      · exact h3 x hx y hy
theorem rkL_ok (h : Wk lt) (n : Nat) : IsRk lt n (rkL lt n) := by
  induction n with
  | zero => exact ⟨List.Perm.refl _, List.Pairwise.nil⟩
  | succ n ih => exact insR_ok h ih

/-- Groups of equal ones, in the order of a ranking. -/
def grpA (lt : Nat → Nat → Bool) (gs : List (List Nat)) (i : Nat) : List (List Nat) :=
  match gs.getLast? with
  | none => [[i]]
  | some g => if lt (g.headD 0) i = true then gs ++ [[i]] else gs.dropLast ++ [g ++ [i]]
def grpL (lt : Nat → Nat → Bool) (o : List Nat) : List (List Nat) := o.foldl (grpA lt) []
structure GOK (lt : Nat → Nat → Bool) (gs : List (List Nat)) : Prop where
  ne : ∀ g ∈ gs, g ≠ []
  inn : ∀ g ∈ gs, ∀ x ∈ g, ∀ y ∈ g, lt x y = false
  out : gs.Pairwise (fun g g' => ∀ x ∈ g, ∀ y ∈ g', lt x y = true)
theorem headD_mem {g : List Nat} (h : g ≠ []) : g.headD 0 ∈ g := by
  cases g with
  | nil => exact absurd rfl h
  | cons a g => simp
theorem grpA_nil (i : Nat) : grpA lt [] i = [[i]] := rfl
theorem grpA_new {gs : List (List Nat)} {g : List Nat} (h : lt (g.headD 0) i = true) : grpA lt (gs ++ [g]) i = gs ++ [g] ++ [[i]] := by
  simp only [grpA, List.getLast?_concat, h, if_true]
theorem grpA_old {gs : List (List Nat)} {g : List Nat} (h : lt (g.headD 0) i = false) : grpA lt (gs ++ [g]) i = gs ++ [g ++ [i]] := by
  simp only [grpA, List.getLast?_concat, h, List.dropLast_concat]
  rfl
theorem grpA_ok (h : Wk lt) {gs : List (List Nat)} (hg : GOK lt gs) (hi : ∀ x ∈ gs.flatten, lt i x = false) : GOK lt (grpA lt gs i) ∧ (grpA lt gs i).flatten = gs.flatten ++ [i] := by
  rcases List.eq_nil_or_concat gs with rfl | ⟨gs, g, rfl⟩
  rotate_left
  rw [List.concat_eq_append] at *
  rotate_left
  · refine ⟨⟨?_, ?_, ?_⟩, by simp [grpA_nil]⟩
    · intro g hg2; simp [grpA_nil] at hg2; subst hg2; simp
    · intro g hg2 x hx y hy; simp [grpA_nil] at hg2; subst hg2; simp at hx hy; subst hx; subst hy; exact h.irr _
    · simp [grpA_nil]
  · have hgm : g ∈ gs ++ [g] := by simp
    have hh := headD_mem (hg.ne g hgm)
    obtain ⟨p1, p2, p3⟩ := List.pairwise_append.1 hg.out
    cases e : lt (g.headD 0) i
    · rw [grpA_old e]
      have hi2 : ∀ x ∈ g, lt i x = false := fun x hx => hi x (by simp; exact .inr hx)
      refine ⟨⟨?_, ?_, ?_⟩, by simp⟩
      · intro g' h'
        rcases List.mem_append.1 h' with h' | h'
        · exact hg.ne g' (by simp [h'])
        · simp at h'; subst h'; simp
      · intro g' h' x hx y hy
        rcases List.mem_append.1 h' with h' | h'
        · exact hg.inn g' (by simp [h']) x hx y hy
        · simp only [List.mem_singleton] at h'
          subst h'
          rcases List.mem_append.1 hx with k1 | k1 <;> rcases List.mem_append.1 hy with k2 | k2
          · exact hg.inn g hgm x k1 y k2
          · rw [List.mem_singleton.1 k2]
            exact h.ntr _ _ _ (hg.inn g hgm x k1 _ hh) e
          · rw [List.mem_singleton.1 k1]
            exact hi2 y k2
          · rw [List.mem_singleton.1 k1, List.mem_singleton.1 k2]; exact h.irr _
      · refine List.pairwise_append.2 ⟨p1, by simp, ?_⟩
        intro g1 h1 g2 h2 x hx y hy
        simp only [List.mem_singleton] at h2
        subst h2
        have q := p3 g1 h1 g (by simp) x hx
        rcases List.mem_append.1 hy with hy | hy
        · exact q y hy
        · simp at hy; subst hy
          exact h.lt_of (q _ hh) (hi2 _ hh)
    · rw [grpA_new e]
      refine ⟨⟨?_, ?_, ?_⟩, by simp⟩
      · intro g' h'
        rcases List.mem_append.1 h' with h' | h'
        · exact hg.ne g' h'
        · simp at h'; subst h'; simp
      · intro g' h' x hx y hy
        rcases List.mem_append.1 h' with h' | h'
        · exact hg.inn g' h' x hx y hy
        · simp only [List.mem_singleton] at h'
          subst h'
          simp at hx hy; subst hx; subst hy; exact h.irr _
      · refine List.pairwise_append.2 ⟨hg.out, by simp, ?_⟩
        intro g1 h1 g2 h2 x hx y hy
        simp only [List.mem_singleton] at h2
        subst h2
        simp only [List.mem_singleton] at hy
        subst hy
        rcases List.mem_append.1 h1 with h1 | h1
        · exact h.tr _ _ _ (p3 g1 h1 g (by simp) x hx _ hh) e
        · simp only [List.mem_singleton] at h1
          subst h1
          exact h.of_lt (hg.inn g1 hgm _ hh x hx) e
theorem grpL_succ {x : Nat} (hx : o[k]? = some x) : grpL lt (o.take (k + 1)) = grpA lt (grpL lt (o.take k)) x := by
  rw [List.take_add_one, hx, grpL, grpL, List.foldl_append]; rfl
theorem grpL_take (h : Wk lt) (ho : IsRk lt n o) : ∀ k, k ≤ n → GOK lt (grpL lt (o.take k)) ∧ (grpL lt (o.take k)).flatten = o.take k := by
  intro k
  induction k with
  | zero => intro _; exact ⟨⟨by simp [grpL], by simp [grpL], by simp [grpL]⟩, by simp [grpL]⟩
  | succ k ih =>
    intro hk
    obtain ⟨h1, h2⟩ := ih (by omega)
    have hl := ho.len
    have hx : o[k]? = some o[k] := List.getElem?_eq_getElem (by omega)
    rw [grpL_succ hx]
    obtain ⟨g1, g2⟩ := grpA_ok (i := o[k]) h h1 (fun x hxm => by
      rw [h2] at hxm
      obtain ⟨j, hj, rfl⟩ := List.getElem_of_mem hxm
      rw [List.length_take] at hj
      rw [List.getElem_take]
      exact tie_not h (List.pairwise_iff_getElem.1 ho.2 j k (by omega) (by omega) (by omega)))
    exact ⟨g1, by rw [g2, h2, List.take_add_one, hx]; rfl⟩
theorem grpL_ok (h : Wk lt) (ho : IsRk lt n o) : GOK lt (grpL lt o) ∧ (grpL lt o).flatten = o := by
  have := grpL_take h ho n (Nat.le_refl _)
  rwa [List.take_of_length_le (by rw [ho.len]; exact Nat.le_refl _)] at this
/-- The one before is equal just if the group's first is. -/
theorem grp_prev (h : Wk lt) (ho : IsRk lt n o) {gs : List (List Nat)} {g : List Nat} {k x y : Nat} (hk : k + 1 < n + 1) (hg : grpL lt (o.take (k + 1)) = gs ++ [g]) (hx : o[k]? = some x) (_hy : o[k + 1]? = some y) : lt (g.headD 0) y = lt x y := by
  obtain ⟨h1, h2⟩ := grpL_take h ho (k + 1) (by omega)
  rw [hg] at h1 h2
  have hgm : g ∈ gs ++ [g] := by simp
  have hxg : x ∈ g := by
    have hne := h1.ne g hgm
    have e : (gs ++ [g]).flatten.getLast? = some x := by rw [h2, List.take_add_one, hx]; simp
    rw [List.flatten_append] at e
    simp only [List.flatten_cons, List.flatten_nil, List.append_nil] at e
    rw [List.getLast?_append, show g.getLast?.or gs.flatten.getLast? = g.getLast? by cases g with | nil => exact absurd rfl hne | cons a g => simp [List.getLast?_cons]] at e
    exact List.mem_of_getLast? e
  have hh := headD_mem (h1.ne g hgm)
  have e1 := h1.inn g hgm _ hh x hxg
  have e2 := h1.inn g hgm x hxg _ hh
  cases e3 : lt x y
  · exact h.ntr _ _ _ e1 e3
  · exact h.of_lt e2 e3

/-- The place of the j-th group. -/
def plc (gs : List (List Nat)) (j : Nat) : Nat := (gs.take j).flatten.length
theorem plc_succ {gs : List (List Nat)} {j : Nat} {g : List Nat} (hg : gs[j]? = some g) : plc gs (j + 1) = plc gs j + g.length := by
  simp [plc, List.take_add_one, hg]
theorem plc_all (gs : List (List Nat)) : plc gs gs.length = gs.flatten.length := by simp [plc]
theorem plc_le (gs : List (List Nat)) (j : Nat) : plc gs j ≤ gs.flatten.length := by
  have e : gs.flatten = (gs.take j).flatten ++ (gs.drop j).flatten := by rw [← List.flatten_append, List.take_append_drop]
  rw [plc, e, List.length_append]; omega
/-- How many are better. -/
def btrN (lt : Nat → Nat → Bool) (n i : Nat) : Nat := (List.range n).countP (fun q => lt q i)
theorem btrN_plc (h : Wk lt) (ho : IsRk lt n o) {gs : List (List Nat)} (hg : GOK lt gs) (hf : gs.flatten = o) {j : Nat} {g : List Nat} (hj : gs[j]? = some g) (hi : i ∈ g) : btrN lt n i = plc gs j := by
  rw [btrN, ← ho.1.countP_eq, ← hf]
  have hjl : j < gs.length := (List.getElem?_eq_some_iff.1 hj).1
  have e : gs = gs.take j ++ g :: gs.drop (j + 1) := by
    conv => lhs; rw [← List.take_append_drop j gs]
    rw [List.drop_eq_getElem_cons hjl, (List.getElem?_eq_some_iff.1 hj).2]
  have hp := hg.out
  rw [e] at hp
  obtain ⟨_, p2, p3⟩ := List.pairwise_append.1 hp
  obtain ⟨p4, _⟩ := List.pairwise_cons.1 p2
  have c1 : (gs.take j).flatten.countP (fun q => lt q i) = (gs.take j).flatten.length := by
    rw [List.countP_eq_length]
    intro a ha
    obtain ⟨g', h1, h2⟩ := List.mem_flatten.1 ha
    exact p3 g' h1 g (by simp) a h2 i hi
  have c2 : g.countP (fun q => lt q i) = 0 := by
    rw [List.countP_eq_zero]
    intro a ha
    rw [hg.inn g (List.mem_of_getElem? hj) a ha i hi]
    simp
  have c3 : (gs.drop (j + 1)).flatten.countP (fun q => lt q i) = 0 := by
    rw [List.countP_eq_zero]
    intro a ha
    obtain ⟨g', h1, h2⟩ := List.mem_flatten.1 ha
    rw [h.asymm (p4 g' h1 i hi a h2)]
    simp
  conv => lhs; rw [e]
  rw [List.flatten_append, List.flatten_cons, List.countP_append, List.countP_append, c1, c2, c3]
  rfl
theorem btrN_succ : btrN lt (n + 1) i = btrN lt n i + if lt n i = true then 1 else 0 := by
  rw [btrN, List.range_succ, List.countP_append, List.countP_singleton]; rfl
theorem btrN_le : btrN lt n i ≤ n := by
  have := List.countP_le_length (p := fun q => lt q i) (l := List.range n)
  simpa [btrN] using this

/-- Values written one after another. -/
def putAll {α : Type} (out : List α) (ps : List (Nat × α)) : List α := ps.foldl (fun o p => o.set p.1 p.2) out
theorem putAll_len {α : Type} (out : List α) (ps : List (Nat × α)) : (putAll out ps).length = out.length := by
  induction ps generalizing out with
  | nil => rfl
  | cons p ps ih => rw [putAll, List.foldl_cons, ← putAll, ih]; simp
theorem putAll_snoc {α : Type} (out : List α) (ps : List (Nat × α)) (i : Nat) (v : α) : putAll out (ps ++ [(i, v)]) = (putAll out ps).set i v := by
  rw [putAll, List.foldl_append]; rfl
theorem putAll_take {α : Type} (out : List α) (ps : List (Nat × α)) {k i : Nat} {v : α} (h : ps[k]? = some (i, v)) : putAll out (ps.take (k + 1)) = (putAll out (ps.take k)).set i v := by
  rw [List.take_add_one, h]; exact putAll_snoc _ _ _ _
theorem putAll_get {α : Type} (out : List α) (f : Nat → α) (l : List Nat) (j : Nat) : (putAll out (l.map fun i => (i, f i)))[j]? = if j ∈ l ∧ j < out.length then some (f j) else out[j]? := by
  induction l generalizing out with
  | nil => simp [putAll]
  | cons a l ih =>
    rw [List.map_cons, putAll, List.foldl_cons, ← putAll, ih]
    simp only [List.length_set]
    by_cases h1 : j ∈ l ∧ j < out.length
    · rw [if_pos h1, if_pos ⟨List.mem_cons_of_mem _ h1.1, h1.2⟩]
    · rw [if_neg h1]
      by_cases h2 : j = a
      · subst h2
        by_cases h3 : j < out.length
        · rw [if_pos ⟨by simp, h3⟩, List.getElem?_set_self h3]
        · rw [if_neg (by simp [h3]), List.getElem?_eq_none (by simpa using h3), List.getElem?_eq_none (by simpa using h3)]
      · rw [List.getElem?_set_ne (fun h => h2 h.symm)]
        by_cases h3 : j < out.length
        · have : j ∉ l := fun h => h1 ⟨h, h3⟩
          rw [if_neg (by simp [h2, this])]
        · rw [if_neg (by simp [h3])]
/-- All places of a ranking have been written. -/
theorem putAll_rk {α : Type} (ho : IsRk lt n o) (f : Nat → α) (out : List α) (hl : out.length = n) : putAll out (o.map fun i => (i, f i)) = (List.range n).map f := by
  apply List.ext_getElem?
  intro j
  rw [putAll_get]
  by_cases h : j < n
  · rw [if_pos ⟨ho.mem h, by omega⟩]
    simp [h]
  · rw [if_neg (fun e => h (ho.lt_ e.1)), List.getElem?_eq_none (by omega)]
    simp [h]
end
end Go.Proofs.Ytjigkogopmebeaa
