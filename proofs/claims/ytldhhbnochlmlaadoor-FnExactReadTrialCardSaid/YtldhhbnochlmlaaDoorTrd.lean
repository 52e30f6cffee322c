/- A test read from a text: the reference and the program agree. Plain. -/
import Derived.Test.YtldhhbnochlmlaaDoorNum
import Derived.Test.YtldhhbnochlmlaaDoorTt
namespace Go.Proofs.YtldhhbnochlmlaaDoor
open Go.RowKit

/-- The first place where sep stands: what is ahead of it, what is behind. -/
def cutL (sep : List UInt8) : List UInt8 → Option (List UInt8 × List UInt8)
  | [] => if sep.isPrefixOf [] then some ([], []) else none
  | c :: r => if sep.isPrefixOf (c :: r) then some ([], (c :: r).drop sep.length) else (cutL sep r).map fun x => (c :: x.1, x.2)
theorem cutL_some {sep : List UInt8} : ∀ {l a b : List UInt8}, cutL sep l = some (a, b) → l = a ++ (sep ++ b) := by
  intro l
  induction l with
  | nil =>
    intro a b h
    simp only [cutL] at h
    split at h
    · rename_i hp
      simp only [Option.some.injEq, Prod.mk.injEq] at h
      obtain ⟨rfl, rfl⟩ := h
      have := List.isPrefixOf_iff_prefix.1 hp
      simp at this
      simp [this]
    · cases h
  | cons c r ih =>
    intro a b h
    simp only [cutL] at h
    split at h
    · rename_i hp
      simp only [Option.some.injEq, Prod.mk.injEq] at h
      obtain ⟨rfl, rfl⟩ := h
      obtain ⟨t, ht⟩ := List.isPrefixOf_iff_prefix.1 hp
      rw [← ht]
      simp
    · obtain ⟨x, hx, he⟩ := Option.map_eq_some_iff.1 h
      simp only [Prod.mk.injEq] at he
      obtain ⟨rfl, rfl⟩ := he
      have := ih (a := x.1) (b := x.2) hx
      rw [List.cons_append, ← this]
theorem cutL_mk {s0 : UInt8} {sr b : List UInt8} : ∀ {a : List UInt8}, s0 ∉ a → cutL (s0 :: sr) (a ++ (s0 :: sr ++ b)) = some (a, b) := by
  intro a
  induction a with
  | nil =>
    intro _
    have hp : (s0 :: sr).isPrefixOf (s0 :: (sr ++ b)) = true := List.isPrefixOf_iff_prefix.2 ⟨b, rfl⟩
    simp only [List.nil_append, List.cons_append, cutL]
    rw [if_pos hp]
    simp
  | cons x a ih =>
    intro h
    simp only [List.mem_cons, not_or] at h
    simp only [List.cons_append, cutL]
    rw [if_neg, show a ++ s0 :: (sr ++ b) = a ++ (s0 :: sr ++ b) from rfl, ih h.2]
    · rfl
    · intro hp
      simp only [List.isPrefixOf, Bool.and_eq_true, beq_iff_eq] at hp
      exact h.1 hp.1
/-- What the program's cut returns. -/
def cutR (sep l : List UInt8) : List UInt8 × List UInt8 × Bool := match cutL sep l with
  | some (a, b) => (a, b, true)
  | none => (l, [], false)
theorem cutR_some {sep l a b : List UInt8} (h : cutR sep l = (a, b, true)) : l = a ++ (sep ++ b) := by
  unfold cutR at h
  split at h
  · rename_i hc
    simp only [Prod.mk.injEq, and_true] at h
    obtain ⟨rfl, rfl⟩ := h
    exact cutL_some hc
  · simp at h
theorem cutR_mk {s0 : UInt8} {sr a b : List UInt8} (h : s0 ∉ a) : cutR (s0 :: sr) (a ++ (s0 :: sr ++ b)) = (a, b, true) := by
  unfold cutR; rw [cutL_mk h]
/-- Without an s at the end. -/
def sufR (l : List UInt8) : List UInt8 × Bool := if l.getLast? = some 115 then (l.dropLast, true) else (l, false)
theorem sufR_some {l a : List UInt8} (h : sufR l = (a, true)) : l = a ++ [115] := by
  unfold sufR at h
  split at h
  · rename_i hl
    simp only [Prod.mk.injEq, and_true] at h
    subst h
    obtain ⟨ys, rfl⟩ := List.getLast?_eq_some_iff.1 hl
    simp
  · simp at h
theorem sufR_mk (a : List UInt8) : sufR (a ++ [115]) = (a, true) := by simp [sufR]
/-- The letters of a number. -/
theorem numV_no {l : List UInt8} {n : Int} (h : numV l = some n) {c : UInt8} (hc : c ∈ l) : c ≠ 32 ∧ c ≠ 47 := by
  have hd : ∀ x ∈ numD l, digB x = true := by
    unfold numV at h
    split at h
    · rename_i h1
      exact List.all_eq_true.1 h1.2.2
    · cases h
  have h2 : c = 45 ∨ c ∈ numD l := by
    cases l with
    | nil => cases hc
    | cons a r =>
      simp only [numD]
      split
      · rename_i ha
        rcases List.mem_cons.1 hc with rfl | hc
        · exact .inl ha
        · exact .inr hc
      · exact .inr hc
  rcases h2 with rfl | h2
  · decide
  · have := hd c h2
    constructor <;> (rintro rfl; exact absurd this (by decide))
/-- The three numbers of a text. -/
def trV (l : List UInt8) : Option (Int × Int × Int) := match splL 32 l with
  | [p, q, r] => if q = [105, 110] ∧ r.getLast? = some 115 then (match splL 47 p with
    | [x, y] => (numV x).bind fun a => (numV y).bind fun b => (numV r.dropLast).bind fun c => if vtr a b c then some (a, b, c) else none
    | _ => none) else none
  | _ => none
def trI (l : List UInt8) : Option (Int × Int × Int) :=
  if (cutR [47] l).2.2 = true ∧ (cutR [32, 105, 110, 32] (cutR [47] l).2.1).2.2 = true ∧ (sufR (cutR [32, 105, 110, 32] (cutR [47] l).2.1).2.1).2 = true then
    (numV (cutR [47] l).1).bind fun a => (numV (cutR [32, 105, 110, 32] (cutR [47] l).2.1).1).bind fun b => (numV (sufR (cutR [32, 105, 110, 32] (cutR [47] l).2.1).2.1).1).bind fun c => if vtr a b c then some (a, b, c) else none
  else none
/-- What both find. -/
def TrOf (l : List UInt8) (v : Int × Int × Int) : Prop := ∃ x y z, l = x ++ ([47] ++ (y ++ ([32, 105, 110, 32] ++ (z ++ [115])))) ∧ numV x = some v.1 ∧ numV y = some v.2.1 ∧ numV z = some v.2.2 ∧ vtr v.1 v.2.1 v.2.2 = true
theorem trV_of {l : List UInt8} {v : Int × Int × Int} (h : TrOf l v) : trV l = some v := by
  obtain ⟨x, y, z, rfl, hx, hy, hz, hv⟩ := h
  have e : x ++ ([47] ++ (y ++ ([32, 105, 110, 32] ++ (z ++ [115])))) = (x ++ 47 :: y) ++ 32 :: ([105, 110] ++ 32 :: (z ++ [115])) := by simp
  have h1 : (32 : UInt8) ∉ x ++ 47 :: y := by
    simp only [List.mem_append, List.mem_cons, not_or]
    exact ⟨fun h => (numV_no hx h).1 rfl, by decide, fun h => (numV_no hy h).1 rfl⟩
  have h2 : (32 : UInt8) ∉ z ++ [115] := by
    simp only [List.mem_append, List.mem_singleton, not_or]
    exact ⟨fun h => (numV_no hz h).1 rfl, by decide⟩
  unfold trV
  rw [e, spl_mk h1 (by decide) h2]
  simp only [true_and]
  rw [if_pos (by simp), splL_cut (fun h => (numV_no hx h).2 rfl), splL_end (fun h => (numV_no hy h).2 rfl)]
  simp [hx, hy, hz, hv]
theorem trI_of {l : List UInt8} {v : Int × Int × Int} (h : TrOf l v) : trI l = some v := by
  obtain ⟨x, y, z, rfl, hx, hy, hz, hv⟩ := h
  unfold trI
  rw [show ([47] ++ (y ++ ([32, 105, 110, 32] ++ (z ++ [115]))) : List UInt8) = (47 :: [] ++ (y ++ ([32, 105, 110, 32] ++ (z ++ [115])))) from rfl, cutR_mk (fun h => (numV_no hx h).2 rfl)]
  simp only
  rw [show ([32, 105, 110, 32] ++ (z ++ [115]) : List UInt8) = (32 :: [105, 110, 32] ++ (z ++ [115])) from rfl, cutR_mk (fun h => (numV_no hy h).1 rfl)]
  simp only
  rw [sufR_mk]
  simp [hx, hy, hz, hv]
theorem of_trV {l : List UInt8} {v : Int × Int × Int} (h : trV l = some v) : TrOf l v := by
  unfold trV at h
  split at h
  · rename_i p q r hs
    split at h
    · rename_i hq
      split at h
      · rename_i x y hs2
        obtain ⟨a, ha, h⟩ := Option.bind_eq_some_iff.1 h
        obtain ⟨b, hb, h⟩ := Option.bind_eq_some_iff.1 h
        obtain ⟨c, hc, h⟩ := Option.bind_eq_some_iff.1 h
        split at h
        · rename_i hv
          simp only [Option.some.injEq] at h
          subst h
          obtain ⟨ys, hr⟩ := List.getLast?_eq_some_iff.1 hq.2
          have hl := spl_three hs
          have hp := joi_spl 47 p
          rw [hs2] at hp
          simp only [joiL] at hp
          refine ⟨x, y, ys, ?_, ha, hb, ?_, hv⟩
          · rw [hl, ← hp, hq.1, hr]; simp
          · rw [hr, List.dropLast_concat] at hc; exact hc
        · cases h
      · cases h
    · cases h
  · cases h
theorem of_trI {l : List UInt8} {v : Int × Int × Int} (h : trI l = some v) : TrOf l v := by
  unfold trI at h
  split at h
  · rename_i hk
    obtain ⟨a, ha, h⟩ := Option.bind_eq_some_iff.1 h
    obtain ⟨b, hb, h⟩ := Option.bind_eq_some_iff.1 h
    obtain ⟨c, hc, h⟩ := Option.bind_eq_some_iff.1 h
    split at h
    · rename_i hv
      simp only [Option.some.injEq] at h
      subst h
      obtain ⟨k1, k2, k3⟩ := hk
      have e1 := cutR_some (sep := [47]) (l := l) (a := (cutR [47] l).1) (b := (cutR [47] l).2.1) (by rw [← k1])
      generalize (cutR [47] l).2.1 = rest at *
      have e2 := cutR_some (sep := [32, 105, 110, 32]) (l := rest) (a := (cutR [32, 105, 110, 32] rest).1) (b := (cutR [32, 105, 110, 32] rest).2.1) (by rw [← k2])
      generalize (cutR [32, 105, 110, 32] rest).2.1 = cc at *
      have e3 := sufR_some (l := cc) (a := (sufR cc).1) (by rw [← k3])
      exact ⟨_, _, _, by rw [← e3, ← e2]; exact e1, ha, hb, hc, hv⟩
    · cases h
  · cases h
theorem tr_eq (l : List UInt8) : trI l = trV l := by
  cases h : trI l with
  | some x => exact (trV_of (of_trI h)).symm
  | none =>
    cases h2 : trV l with
    | none => rfl
    | some y => rw [trI_of (of_trV h2)] at h; cases h
end Go.Proofs.YtldhhbnochlmlaaDoor
