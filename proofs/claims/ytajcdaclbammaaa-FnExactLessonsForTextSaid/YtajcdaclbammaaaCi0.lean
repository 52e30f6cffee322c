/- Lessons that need themselves: plain facts on closures. -/
import Derived.Test.YtajcdaclbammaaaLs
import Derived.Test.YtajcdaclbammaaaKn
import Derived.Test.YtajcdaclbammaaaMb
namespace Go.Proofs.Ytajcdaclbammaaa
open Go.RowKit

/-- What lesson k needs. -/
def needsL (l : List TLesson) (k : Int) : List Int := (l.getD k.toNat ledef).2.2.1
theorem needsL_at {l : List TLesson} {p : Nat} {x : TLesson} (h : l[p]? = some x) : needsL l (p : Int) = x.2.2.1 := by
  simp [needsL, List.getD_eq_getElem?_getD, h]
theorem rises_step {lo hi : Int} {z : List Int} (h : risesZ lo hi z = true) {i : Nat} {x y : Int} (hx : z[i]? = some x) (hy : z[i + 1]? = some y) : x < y := by
  have h1 := allN_at h (List.getElem?_eq_some_iff.1 hy).1
  simp only [riseZ, hx, hy, Bool.and_eq_true, decide_eq_true_eq] at h1
  exact h1.2
theorem rises_lt {lo hi : Int} {z : List Int} (h : risesZ lo hi z = true) : ∀ (j i : Nat) (x y : Int), i < j → z[i]? = some x → z[j]? = some y → x < y := by
  intro j
  induction j with
  | zero => intro i x y hi; omega
  | succ j ih =>
    intro i x y hi hx hy
    have hj := (List.getElem?_eq_some_iff.1 hy).1
    have hm : z[j]? = some z[j] := List.getElem?_eq_getElem (by omega)
    have h1 := rises_step h hm hy
    by_cases e : i = j
    · subst e
      rw [hm] at hx
      injection hx with hx
      omega
    · have := ih i x _ (by omega) hx hm
      omega
theorem rises_nodup {lo hi : Int} {z : List Int} (h : risesZ lo hi z = true) : z.Nodup := by
  rw [List.nodup_iff_pairwise_ne, List.pairwise_iff_getElem]
  intro i j hi hj hij
  have := rises_lt h j i _ _ hij (List.getElem?_eq_getElem hi) (List.getElem?_eq_getElem hj)
  omega
theorem rises_bd {lo hi : Int} {z : List Int} (h : risesZ lo hi z = true) {x : Int} (hx : x ∈ z) : lo ≤ x ∧ x ≤ hi := by
  obtain ⟨k, hk⟩ := List.getElem?_of_mem hx
  exact risesZ_bd h hk
theorem rises_len {n : Nat} {z : List Int} (h : risesZ 0 ((n : Int) - 1) z = true) : z.length ≤ n := by
  have := nodup_short (n := n) (rises_nodup h) (fun x hx => by have := rises_bd h hx; omega)
  omega
theorem les_rises {l : List TLesson} (h : lesB l = true) {p : Nat} {x : TLesson} (hx : l[p]? = some x) : risesZ 0 ((l.length : Int) - 1) x.2.2.1 = true := by
  have := les_item h hx
  simp only [okLe, Bool.and_eq_true] at this
  exact this.2.2.1
theorem needs_rises {l : List TLesson} (h : lesB l = true) (k : Int) : risesZ 0 ((l.length : Int) - 1) (needsL l k) = true := by
  unfold needsL
  rw [List.getD_eq_getElem?_getD]
  cases hx : l[k.toNat]? with
  | none => rfl
  | some x => exact les_rises h hx
theorem needs_bd {l : List TLesson} (h : lesB l = true) : ∀ i x, x ∈ needsL l i → (0 : Int) ≤ x ∧ x < l.length := fun i x hx => by
  have := rises_bd (needs_rises h i) hx; omega
theorem needs_len {l : List TLesson} (h : lesB l = true) (k : Int) : (needsL l k).length ≤ l.length := rises_len (needs_rises h k)
/-- A lesson needs itself. -/
noncomputable def selfB (N : Int → List Int) (k : Nat) : Bool := @decide (Rch N k k) (Classical.propDecidable _)
theorem selfB_iff {N : Int → List Int} {k : Nat} : selfB N k = true ↔ Rch N k k := by
  unfold selfB
  exact @decide_eq_true_iff _ (Classical.propDecidable _)
/-- The first number with a mark, -1 if there is none. -/
def firstI (p : Nat → Bool) : Nat → Int
  | 0 => -1
  | n + 1 => if 0 ≤ firstI p n then firstI p n else if p n = true then (n : Int) else -1
theorem firstI_none {p : Nat → Bool} {k : Nat} (h : allN (fun i => !p i) k = true) : firstI p k = -1 := by
  induction k with
  | zero => rfl
  | succ k ih =>
    have h1 := allN_at h (Nat.lt_succ_self k)
    have h2 : allN (fun i => !p i) k = true := by
      rw [allN, List.all_eq_true]
      intro i hi
      exact allN_at h (by simp at hi; omega)
    have h3 : p k = false := by simpa using h1
    rw [firstI, ih h2, h3]; simp
theorem firstI_some {p : Nat → Bool} {k n : Nat} (h : allN (fun i => !p i) k = true) (hk : k < n) (hp : p k = true) : firstI p n = k := by
  induction n with
  | zero => omega
  | succ n ih =>
    rw [firstI]
    by_cases e : k = n
    · subst e
      rw [firstI_none h, if_neg (by omega), if_pos hp]
    · rw [ih (by omega), if_pos (by omega)]
/-- What is reached from lesson i: S for good, Q not yet looked at. -/
structure BfsInv (N : Int → List Int) (n : Nat) (i : Int) (S Q : List Int) : Prop where
  up1 : ∀ x ∈ S, Rch N i x
  up2 : ∀ x ∈ Q, Rch N i x
  base : ∀ x ∈ N i, x ∈ S ∨ x ∈ Q
  step : ∀ y ∈ S, ∀ x ∈ N y, x ∈ S ∨ x ∈ Q
  nd : S.Nodup
  len : Q.length ≤ n * (S.length + 1)
section
variable {N : Int → List Int} {n : Nat} {i x : Int} {S T : List Int}
theorem BfsInv.start (hl : (N i).length ≤ n) : BfsInv N n i [] (N i) := ⟨by simp, fun x hx => .base hx, fun x hx => .inr hx, by simp, by simp, by simpa using hl⟩
theorem BfsInv.old (h : BfsInv N n i S (x :: T)) (hx : x ∈ S) : BfsInv N n i S T where
  up1 := h.up1
  up2 y hy := h.up2 y (by simp [hy])
  base y hy := (h.base y hy).elim .inl (fun h1 => (List.mem_cons.1 h1).elim (fun e => .inl (e ▸ hx)) .inr)
  step y hy z hz := (h.step y hy z hz).elim .inl (fun h1 => (List.mem_cons.1 h1).elim (fun e => .inl (e ▸ hx)) .inr)
  nd := h.nd
  len := by have := h.len; simp only [List.length_cons] at this; omega
theorem BfsInv.new (h : BfsInv N n i S (x :: T)) (hx : x ∉ S) (hl : (N x).length ≤ n) : BfsInv N n i (S ++ [x]) (T ++ N x) where
  up1 y hy := by
    rcases List.mem_append.1 hy with h1 | h1
    · exact h.up1 y h1
    · rw [List.mem_singleton.1 h1]; exact h.up2 x (by simp)
  up2 y hy := by
    rcases List.mem_append.1 hy with h1 | h1
    · exact h.up2 y (by simp [h1])
    · exact .step (h.up2 x (by simp)) h1
  base y hy := by
    rcases h.base y hy with h1 | h1
    · exact .inl (by simp [h1])
    · rcases List.mem_cons.1 h1 with rfl | h1
      · exact .inl (by simp)
      · exact .inr (by simp [h1])
  step y hy z hz := by
    rcases List.mem_append.1 hy with h1 | h1
    · rcases h.step y h1 z hz with h2 | h2
      · exact .inl (by simp [h2])
      · rcases List.mem_cons.1 h2 with rfl | h2
        · exact .inl (by simp)
        · exact .inr (by simp [h2])
    · rw [List.mem_singleton.1 h1] at hz
      exact .inr (by simp [hz])
  nd := List.nodup_append.2 ⟨h.nd, by simp, fun a ha b hb e => by rw [List.mem_singleton.1 hb] at e; exact hx (e ▸ ha)⟩
  len := by
    have := h.len
    simp only [List.length_cons, List.length_append, List.length_nil, Nat.mul_add, Nat.mul_one] at *
    omega
theorem BfsInv.done (h : BfsInv N n i S []) {x : Int} : x ∈ S ↔ Rch N i x :=
  ⟨h.up1 x, fun hr => hr.closed (S := fun x => x ∈ S) (fun y hy => (h.base y hy).elim id (fun h1 => by cases h1)) (fun y hy z hz => (h.step y hy z hz).elim id (fun h1 => by cases h1))⟩
theorem BfsInv.slen (h : BfsInv N n i S T) (hN : ∀ i x, x ∈ N i → (0 : Int) ≤ x ∧ x < n) : S.length ≤ n := by
  have := nodup_short (n := n) h.nd (fun x hx => (h.up1 x hx).bd hN)
  omega
theorem BfsInv.qlen (h : BfsInv N n i S T) (hN : ∀ i x, x ∈ N i → (0 : Int) ≤ x ∧ x < n) (h12 : n ≤ 12) : T.length ≤ 156 := by
  have h1 := h.slen hN
  have h2 := h.len
  have h3 : n * (S.length + 1) ≤ 12 * 13 := Nat.mul_le_mul h12 (by omega)
  omega
end
/-- What is added to z: zs so far, the first i of which have been looked at. -/
structure AllInv (N : Int → List Int) (n : Nat) (z zs : List Int) (i : Nat) : Prop where
  sub : ∀ x ∈ z, x ∈ zs
  up : ∀ x ∈ zs, x ∈ z ∨ ∃ y ∈ z, Rch N y x
  nd : zs.Nodup
  bd : ∀ x ∈ zs, (0 : Int) ≤ x ∧ x < n
  done : ∀ (j : Nat) (x : Int), j < i → zs[j]? = some x → ∀ y ∈ N x, y ∈ zs
  len : z.length ≤ zs.length
  le : i ≤ zs.length
section
variable {N : Int → List Int} {n i : Nat} {z zs : List Int}
theorem AllInv.start (hn : z.Nodup) (hb : ∀ x ∈ z, (0 : Int) ≤ x ∧ x < n) : AllInv N n z z 0 := ⟨fun _ h => h, fun _ h => .inl h, hn, hb, fun j x h => by omega, Nat.le_refl _, Nat.zero_le _⟩
theorem AllInv.zlen (h : AllInv N n z zs i) : zs.length ≤ n := by
  have := nodup_short (n := n) h.nd h.bd
  omega
theorem AllInv.skip (h : AllInv N n z zs i) {x : Int} (hx : zs[i]? = some x) (ha : ∀ y ∈ N x, y ∈ zs) : AllInv N n z zs (i + 1) :=
  ⟨h.sub, h.up, h.nd, h.bd, fun j y hj hy => by
    by_cases e : j = i
    · subst e
      rw [hx] at hy
      injection hy with hy
      subst hy
      exact ha
    · exact h.done j y (by omega) hy, h.len, by have := (List.getElem?_eq_some_iff.1 hx).1; omega⟩
theorem AllInv.put (h : AllInv N n z zs i) (hN : ∀ i x, x ∈ N i → (0 : Int) ≤ x ∧ x < n) {x y : Int} {k : Nat} (hx : zs[i]? = some x) (hy : y ∈ N x) (hn : y ∉ zs) (_hk : k ≤ zs.length) : AllInv N n z (zs.take k ++ y :: zs.drop k) 0 := by
  have hm : ∀ a, a ∈ zs.take k ++ y :: zs.drop k ↔ a = y ∨ a ∈ zs := by
    intro a
    conv => rhs; rw [← List.take_append_drop k zs]
    simp only [List.mem_append, List.mem_cons]
    constructor
    · rintro (h | h | h)
      · exact .inr (.inl h)
      · exact .inl h
      · exact .inr (.inr h)
    · rintro (h | h | h)
      · exact .inr (.inl h)
      · exact .inl h
      · exact .inr (.inr h)
  refine ⟨fun a ha => (hm a).2 (.inr (h.sub a ha)), fun a ha => ?_, ?_, fun a ha => ?_, fun j a hj => by omega, ?_, Nat.zero_le _⟩
  · rcases (hm a).1 ha with rfl | h1
    · rcases h.up x (List.mem_of_getElem? hx) with h2 | ⟨b, hb, h2⟩
      · exact .inr ⟨x, h2, .base hy⟩
      · exact .inr ⟨b, hb, .step h2 hy⟩
    · exact h.up a h1
  · have hp : (zs.take k ++ y :: zs.drop k).Perm (y :: zs) := by
      have := List.perm_middle (a := y) (l₁ := zs.take k) (l₂ := zs.drop k)
      rwa [List.take_append_drop] at this
    exact hp.nodup_iff.2 (List.nodup_cons.2 ⟨hn, h.nd⟩)
  · rcases (hm a).1 ha with rfl | h1
    · exact hN _ _ hy
    · exact h.bd a h1
  · have := h.len
    simp only [List.length_append, List.length_cons, List.length_take, List.length_drop]
    omega
theorem AllInv.end_ (h : AllInv N n z zs zs.length) {x : Int} : x ∈ zs ↔ x ∈ z ∨ ∃ y ∈ z, Rch N y x := by
  have hcl : ∀ a ∈ zs, ∀ b ∈ N a, b ∈ zs := fun a ha => by
    obtain ⟨j, hj⟩ := List.getElem?_of_mem ha
    exact h.done j a (List.getElem?_eq_some_iff.1 hj).1 hj
  refine ⟨h.up x, ?_⟩
  rintro (h1 | ⟨y, hy, h1⟩)
  · exact h.sub x h1
  · exact h1.closed (S := fun x => x ∈ zs) (hcl y (h.sub y hy)) hcl
/-- Nothing is added just if all that z needs stands in z. -/
theorem AllInv.same (h : AllInv N n z zs zs.length) (hz : z.Nodup) : zs.length = z.length ↔ ∀ y ∈ z, ∀ x ∈ N y, x ∈ z := by
  have hbz : ∀ x ∈ z, (0 : Int) ≤ x ∧ x < n := fun x hx => h.bd x (h.sub x hx)
  have e1 := nodup_short (n := n) h.nd h.bd
  have e2 := nodup_short (n := n) hz hbz
  constructor
  · intro he y hy x hx
    have h1 : x ∈ zs := h.end_.2 (.inr ⟨y, hy, .base hx⟩)
    by_cases hxz : x ∈ z
    · exact hxz
    · exfalso
      obtain ⟨b0, b1⟩ := h.bd x h1
      have e3 := outN_new (S := z) b0 b1 hxz
      have e4 := outN_mono (S := z ++ [x]) (S' := zs) (fun a ha => by
        rcases List.mem_append.1 ha with h2 | h2
        · exact h.sub a h2
        · rw [List.mem_singleton.1 h2]; exact h1) n
      omega
  · intro hc
    have e3 := outN_mono (S := zs) (S' := z) (fun a ha => by
      rcases h.up a ha with h1 | ⟨y, hy, h1⟩
      · exact h1
      · exact h1.closed (S := fun x => x ∈ z) (hc y hy) hc) n
    have := h.len
    omega
end
theorem cnt_out {w : World} {g n : Nat} {S : List Int} (h : RowB w g n (mkB n S)) : ∀ k, k ≤ n → cntF w g k = outN S k := by
  intro k
  induction k with
  | zero => intro _; rfl
  | succ k ih =>
    intro hk
    rw [cntF, outN, ih (by omega), h.cell (show k < n by omega), mkB_get S (by omega)]
    by_cases hm : (k : Int) ∈ S
    · simp [hm]
    · simp [hm]
end Go.Proofs.Ytajcdaclbammaaa
