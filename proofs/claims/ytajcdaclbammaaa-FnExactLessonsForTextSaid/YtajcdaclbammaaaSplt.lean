/- Texts split at a byte; words. Plain facts. No program in sight. -/
import Derived.Test.YtajcdaclbammaaaSb
namespace Go.Proofs.Ytajcdaclbammaaa
open Go.RowKit

/-- The parts between the bytes c. -/
def splL (c : UInt8) : List UInt8 → List (List UInt8)
  | [] => [[]]
  | x :: l => if x = c then [] :: splL c l else match splL c l with
    | [] => [[x]]
    | a :: r => (x :: a) :: r
theorem splL_ne (c : UInt8) (l : List UInt8) : splL c l ≠ [] := by
  cases l with
  | nil => simp [splL]
  | cons x l =>
    simp only [splL]
    split
    · simp
    · split <;> simp
theorem splL_end {c : UInt8} : ∀ {a : List UInt8}, c ∉ a → splL c a = [a] := by
  intro a
  induction a with
  | nil => intro _; rfl
  | cons x a ih =>
    intro h
    simp only [List.mem_cons, not_or] at h
    simp only [splL, if_neg (fun e => h.1 (e : x = c).symm), ih h.2]
theorem splL_cut {c : UInt8} {r : List UInt8} : ∀ {a : List UInt8}, c ∉ a → splL c (a ++ c :: r) = a :: splL c r := by
  intro a
  induction a with
  | nil => intro _; simp [splL]
  | cons x a ih =>
    intro h
    simp only [List.mem_cons, not_or] at h
    simp only [List.cons_append, splL, if_neg (fun e => h.1 (e : x = c).symm), ih h.2]
theorem splL_no {c : UInt8} : ∀ {l : List UInt8} {p : List UInt8}, p ∈ splL c l → c ∉ p := by
  intro l
  induction l with
  | nil => intro p hp; simp [splL] at hp; subst hp; simp
  | cons x l ih =>
    intro p hp
    simp only [splL] at hp
    split at hp
    · rcases List.mem_cons.1 hp with rfl | hp
      · simp
      · exact ih hp
    · rename_i hx
      cases hs : splL c l with
      | nil => exact absurd hs (splL_ne c l)
      | cons a r =>
        rw [hs] at hp
        rcases List.mem_cons.1 hp with rfl | hp
        · have := ih (p := a) (by rw [hs]; exact List.mem_cons_self ..)
          simp only [List.mem_cons, not_or]
          exact ⟨fun e => hx e.symm, this⟩
        · exact ih (by rw [hs]; exact List.mem_cons_of_mem _ hp)
/-- Parts put together again. -/
def joiL (c : UInt8) : List (List UInt8) → List UInt8
  | [] => []
  | [a] => a
  | a :: b :: r => a ++ c :: joiL c (b :: r)
theorem joi_spl (c : UInt8) : ∀ (l : List UInt8), joiL c (splL c l) = l := by
  intro l
  induction l with
  | nil => rfl
  | cons x l ih =>
    simp only [splL]
    cases hs : splL c l with
    | nil => exact absurd hs (splL_ne c l)
    | cons a r =>
      rw [hs] at ih
      split
      · rename_i hx
        subst hx
        simp only [joiL, List.nil_append, ih]
      · rename_i hx
        cases r with
        | nil => simp only [joiL] at ih ⊢; rw [ih]
        | cons b r => simp only [joiL, List.cons_append] at ih ⊢; rw [ih]
theorem spl_three {c : UInt8} {l x y z : List UInt8} (h : splL c l = [x, y, z]) : l = x ++ c :: (y ++ c :: z) := by
  have := joi_spl c l
  rw [h] at this
  exact this.symm
theorem spl_mk {c : UInt8} {x y z : List UInt8} (hx : c ∉ x) (hy : c ∉ y) (hz : c ∉ z) : splL c (x ++ c :: (y ++ c :: z)) = [x, y, z] := by
  rw [splL_cut hx, splL_cut hy, splL_end hz]
theorem splL_len (c : UInt8) : ∀ (l : List UInt8), (splL c l).length ≤ l.length + 1 := by
  intro l
  induction l with
  | nil => simp [splL]
  | cons x l ih =>
    simp only [splL]
    split
    · simp; omega
    · cases hs : splL c l with
      | nil => simp
      | cons a r => rw [hs] at ih; simp at ih ⊢; omega
/-- The words: parts that are not empty. -/
def wrdL (l : List UInt8) : List (List UInt8) := (splL 32 l).filter fun a => !a.isEmpty
theorem wrd_blank (l : List UInt8) : wrdL (32 :: l) = wrdL l := by simp [wrdL, splL]
theorem wrd_cut {a r : List UInt8} (h : (32 : UInt8) ∉ a) (ha : a ≠ []) : wrdL (a ++ 32 :: r) = a :: wrdL r := by
  unfold wrdL
  rw [splL_cut h, List.filter_cons_of_pos (by cases a <;> simp_all)]
theorem wrd_end {a : List UInt8} (h : (32 : UInt8) ∉ a) (ha : a ≠ []) : wrdL a = [a] := by
  unfold wrdL
  rw [splL_end h, List.filter_cons_of_pos (by cases a <;> simp_all)]; rfl
theorem wrd_no {l p : List UInt8} (h : p ∈ wrdL l) : (32 : UInt8) ∉ p := splL_no (List.mem_filter.1 h).1
theorem wrd_of_spl {l x y z : List UInt8} (h : splL 32 l = [x, y, z]) (hx : x ≠ []) (hy : y ≠ []) (hz : z ≠ []) : wrdL l = [x, y, z] := by
  unfold wrdL
  rw [h]
  cases x <;> cases y <;> cases z <;> simp_all
/-- l from k on, up to i, holds no c. -/
def noC (c : UInt8) (l : List UInt8) (k i : Nat) : Prop := c ∉ (l.drop k).take (i - k)
theorem noC.start (c : UInt8) (l : List UInt8) (k : Nat) : noC c l k k := by unfold noC; rw [Nat.sub_self]; simp
theorem noC.snoc {c x : UInt8} {l : List UInt8} {k i : Nat} (h : noC c l k i) (hk : k ≤ i) (hx : l[i]? = some x) (hne : x ≠ c) : noC c l k (i + 1) := by
  unfold noC at h ⊢
  rw [show i + 1 - k = (i - k) + 1 by omega, List.take_add_one, List.getElem?_drop, show k + (i - k) = i by omega, hx]
  simp only [Option.toList_some, List.mem_append, List.mem_singleton, not_or]
  exact ⟨h, fun e => hne e.symm⟩
theorem drop_cut {l : List UInt8} {k i : Nat} {x : UInt8} (hk : k ≤ i) (hx : l[i]? = some x) : l.drop k = (l.drop k).take (i - k) ++ x :: l.drop (i + 1) := by
  have hi := (List.getElem?_eq_some_iff.1 hx)
  obtain ⟨hi, hv⟩ := hi
  have h1 : l.drop i = x :: l.drop (i + 1) := by rw [List.drop_eq_getElem_cons hi, hv]
  rw [← h1]
  have h2 : l.drop i = (l.drop k).drop (i - k) := by rw [List.drop_drop]; congr 1; omega
  rw [h2, List.take_append_drop]
/-- The loop of a split: behind i bytes, a part begun at k. -/
structure SplInv (c : UInt8) (l : List UInt8) (L : List (List UInt8)) (k i : Nat) : Prop where
  le : k ≤ i
  no : noC c l k i
  sum : L ++ splL c (l.drop k) = splL c l
  len : L.length ≤ i
section
variable {c x : UInt8} {l : List UInt8} {L : List (List UInt8)} {k i : Nat}
theorem SplInv.start (c : UInt8) (l : List UInt8) : SplInv c l [] 0 0 := ⟨Nat.le_refl _, noC.start _ _ _, rfl, Nat.le_refl _⟩
theorem SplInv.other (h : SplInv c l L k i) (hx : l[i]? = some x) (hne : x ≠ c) : SplInv c l L k (i + 1) := ⟨by have := h.le; omega, h.no.snoc h.le hx hne, h.sum, by have := h.len; omega⟩
theorem SplInv.cut (h : SplInv c l L k i) (hx : l[i]? = some c) : SplInv c l (L ++ [(l.drop k).take (i - k)]) (i + 1) (i + 1) := by
  refine ⟨Nat.le_refl _, noC.start _ _ _, ?_, by have := h.len; simp; omega⟩
  have h1 := h.sum
  rw [drop_cut h.le hx, splL_cut h.no] at h1
  rw [← h1]; simp
theorem SplInv.done (h : SplInv c l L k i) (hi : l.length ≤ i) : L ++ [l.drop k] = splL c l := by
  have h1 := h.no
  unfold noC at h1
  rw [List.take_of_length_le (by rw [List.length_drop]; omega)] at h1
  rw [← h.sum, splL_end h1]
end
/-- The loop of the words: no word under way (none), or one begun at k. -/
structure WrdInv (l : List UInt8) (L : List (List UInt8)) (st : Option Nat) (i : Nat) : Prop where
  sum : match st with
    | none => L ++ wrdL (l.drop i) = wrdL l
    | some k => k < i ∧ noC 32 l k i ∧ L ++ wrdL (l.drop k) = wrdL l
  len : L.length ≤ i
section
variable {x : UInt8} {l : List UInt8} {L : List (List UInt8)} {k i : Nat}
theorem WrdInv.start (l : List UInt8) : WrdInv l [] none 0 := ⟨rfl, Nat.le_refl _⟩
theorem WrdInv.blank (h : WrdInv l L none i) (hx : l[i]? = some 32) : WrdInv l L none (i + 1) := by
  refine ⟨?_, by have := h.len; omega⟩
  have h1 : L ++ wrdL (l.drop i) = wrdL l := h.sum
  show L ++ wrdL (l.drop (i + 1)) = wrdL l
  rw [← h1]
  have := drop_cut (Nat.le_refl i) hx
  rw [Nat.sub_self] at this
  simp only [List.take_zero, List.nil_append] at this
  rw [this, wrd_blank]
theorem WrdInv.begin (h : WrdInv l L none i) (hx : l[i]? = some x) (hne : x ≠ 32) : WrdInv l L (some i) (i + 1) :=
  ⟨⟨by omega, (noC.start _ _ _).snoc (Nat.le_refl _) hx hne, h.sum⟩, by have := h.len; omega⟩
theorem WrdInv.more (h : WrdInv l L (some k) i) (hx : l[i]? = some x) (hne : x ≠ 32) : WrdInv l L (some k) (i + 1) := by
  obtain ⟨⟨h1, h2, h3⟩, h4⟩ := h
  exact ⟨⟨by omega, h2.snoc (by omega) hx hne, h3⟩, by omega⟩
theorem WrdInv.cut (h : WrdInv l L (some k) i) (hx : l[i]? = some 32) : WrdInv l (L ++ [(l.drop k).take (i - k)]) none (i + 1) := by
  obtain ⟨⟨h1, h2, h3⟩, h4⟩ := h
  have hi := (List.getElem?_eq_some_iff.1 hx).1
  refine ⟨?_, by simp; omega⟩
  show _ ++ wrdL (l.drop (i + 1)) = wrdL l
  have hne : (l.drop k).take (i - k) ≠ [] := by
    intro e
    have := congrArg List.length e
    simp only [List.length_take, List.length_drop, List.length_nil] at this
    omega
  have hw : wrdL (l.drop k) = (l.drop k).take (i - k) :: wrdL (l.drop (i + 1)) := by
    conv => lhs; rw [drop_cut (Nat.le_of_lt h1) hx]
    exact wrd_cut h2 hne
  rw [← h3, hw]
  simp
theorem WrdInv.done0 (h : WrdInv l L none i) (hi : l.length ≤ i) : L = wrdL l := by
  have h1 : L ++ wrdL (l.drop i) = wrdL l := h.sum
  rw [List.drop_eq_nil_of_le hi] at h1
  rw [← h1]; simp [wrdL, splL]
theorem WrdInv.done1 (h : WrdInv l L (some k) i) (hi : l.length ≤ i) (hil : i ≤ l.length) : L ++ [l.drop k] = wrdL l := by
  obtain ⟨⟨h1, h2, h3⟩, h4⟩ := h
  unfold noC at h2
  rw [List.take_of_length_le (by rw [List.length_drop]; omega)] at h2
  rw [← h3, wrd_end h2 (by
    intro e
    have := congrArg List.length e
    simp only [List.length_drop, List.length_nil] at this
    omega)]
end
/-- Part of a text. -/
theorem ext_sb (s : ByteArray) (k i : Nat) : s.extract k i = sb (((bl s).drop k).take (i - k)) := by
  apply sb_ext
  rw [bl_sb]
  simp [bl]
theorem ext_end (s : ByteArray) (k : Nat) : s.extract k s.size = sb ((bl s).drop k) := by
  rw [ext_sb, List.take_of_length_le (by rw [List.length_drop, bl_len]; omega)]
end Go.Proofs.Ytajcdaclbammaaa
