/- Who goes on from heats: the plain law. No program in sight. -/
import Derived.Test.YtgdmiddiaogpaaaPt
import Derived.Test.YtgdmiddiaogpaaaRk6
namespace Go.Proofs.Ytgdmiddiaogpaaa

/-- The places below n that stand in S, rising. -/
def qset (n : Nat) (S : List Nat) : List Nat := (List.range n).filter fun i => decide (i ∈ S)
theorem qset_mem {n i : Nat} {S : List Nat} : i ∈ qset n S ↔ i < n ∧ i ∈ S := by simp [qset]
theorem qset_len (n : Nat) (S : List Nat) : (qset n S).length ≤ n := by
  have := List.length_filter_le (fun i => decide (i ∈ S)) (List.range n)
  simpa [qset] using this
theorem zl_mem {o : List Nat} {z : Int} : z ∈ zl o ↔ ∃ i ∈ o, (i : Int) = z := by simp [zl]
theorem qset_rise (n : Nat) (S : List Nat) : (zl (qset n S)).Pairwise (· < ·) := by
  unfold zl
  rw [List.pairwise_map]
  exact (List.Pairwise.filter _ List.pairwise_lt_range).imp fun h => by omega
theorem putL_qset {n p : Nat} {S : List Nat} (hp : p < n) : putL (p : Int) (zl (qset n S)) = zl (qset n (p :: S)) := by
  refine rise_eq (putL_rise (qset_rise n S)) (qset_rise n (p :: S)) fun y => ?_
  rw [putL_mem, zl_mem, zl_mem]
  constructor
  · rintro (rfl | ⟨i, h1, rfl⟩)
    · exact ⟨p, qset_mem.2 ⟨hp, by simp⟩, rfl⟩
    · obtain ⟨h2, h3⟩ := qset_mem.1 h1
      exact ⟨i, qset_mem.2 ⟨h2, by simp [h3]⟩, rfl⟩
  · rintro ⟨i, h1, rfl⟩
    obtain ⟨h2, h3⟩ := qset_mem.1 h1
    rcases List.mem_cons.1 h3 with rfl | h3
    · exact .inl rfl
    · exact .inr ⟨i, qset_mem.2 ⟨h2, h3⟩, rfl⟩
theorem qset_succ_in {k : Nat} {S : List Nat} (h : k ∈ S) : qset (k + 1) S = qset k S ++ [k] := by simp [qset, List.range_succ, List.filter_append, h]
theorem qset_succ_out {k : Nat} {S : List Nat} (h : k ∉ S) : qset (k + 1) S = qset k S := by simp [qset, List.range_succ, List.filter_append, h]
theorem qset_nil (n : Nat) : qset n [] = [] := by simp [qset]

/-- How many have gone on from each heat, how many more may, and who goes on. -/
abbrev QS := List Int × Int × List Nat
def qStep (hs : List Int) (each : Int) (st : QS) (p : Nat) : QS :=
  if st.1.getD (hs.getD p 0).toNat 0 < each then (st.1.set (hs.getD p 0).toNat (st.1.getD (hs.getD p 0).toNat 0 + 1), st.2.1, p :: st.2.2)
  else if 0 < st.2.1 then (st.1, st.2.1 - 1, p :: st.2.2) else st
def qFold (hs : List Int) (each rest : Int) (o : List Nat) (k : Nat) : QS := (o.take k).foldl (qStep hs each) (List.replicate 10 0, rest, [])
theorem qFold_succ {hs : List Int} {each rest : Int} {o : List Nat} {k p : Nat} (hp : o[k]? = some p) : qFold hs each rest o (k + 1) = qStep hs each (qFold hs each rest o k) p := by
  rw [qFold, List.take_add_one, hp, List.foldl_append]; rfl
theorem qStep_a {hs u : List Int} {each r : Int} {S : List Nat} {p q : Nat} (hq : hs[p]? = some (q : Int)) (h : u.getD q 0 < each) : qStep hs each (u, r, S) p = (u.set q (u.getD q 0 + 1), r, p :: S) := by
  have e : (hs.getD p 0).toNat = q := by simp [List.getD_eq_getElem?_getD, hq]
  simp only [qStep, e, h, if_true]
theorem qStep_b {hs u : List Int} {each r : Int} {S : List Nat} {p q : Nat} (hq : hs[p]? = some (q : Int)) (h : ¬ u.getD q 0 < each) (h2 : 0 < r) : qStep hs each (u, r, S) p = (u, r - 1, p :: S) := by
  have e : (hs.getD p 0).toNat = q := by simp [List.getD_eq_getElem?_getD, hq]
  simp only [qStep, e, h, h2, if_true, if_false]
theorem qStep_c {hs u : List Int} {each r : Int} {S : List Nat} {p q : Nat} (hq : hs[p]? = some (q : Int)) (h : ¬ u.getD q 0 < each) (h2 : ¬ 0 < r) : qStep hs each (u, r, S) p = (u, r, S) := by
  have e : (hs.getD p 0).toNat = q := by simp [List.getD_eq_getElem?_getD, hq]
  simp only [qStep, e, h, h2, if_false]
/-- Bounds of such a state. -/
structure QB (k : Nat) (st : QS) : Prop where
  len : st.1.length = 10
  lo : ∀ j, 0 ≤ st.1.getD j 0
  hi : ∀ j, st.1.getD j 0 ≤ k
  r0 : 0 ≤ st.2.1
  r1 : st.2.1 ≤ 40
theorem QB.start {rest : Int} (h : betw rest 0 40 = true) : QB 0 (List.replicate 10 0, rest, []) := by
  obtain ⟨h1, h2⟩ := betw_true h
  refine ⟨by simp, fun j => ?_, fun j => ?_, h1, h2⟩ <;>
  · simp only [List.getD_eq_getElem?_getD, List.getElem?_replicate]
    split <;> simp
theorem QB.step {hs : List Int} {each : Int} {st : QS} {k p : Nat} (h : QB k st) : QB (k + 1) (qStep hs each st p) := by
  unfold qStep
  split
  · refine ⟨by simpa using h.len, fun j => ?_, fun j => ?_, h.r0, h.r1⟩
    · simp only [List.getD_eq_getElem?_getD, List.getElem?_set]
      have := h.lo j
      have h2 := h.lo (hs.getD p 0).toNat
      simp only [List.getD_eq_getElem?_getD] at this h2
      split
      · split
        · simp only [Option.getD_some]; omega
        · simp
      · exact this
    · simp only [List.getD_eq_getElem?_getD, List.getElem?_set]
      have := h.hi j
      have h2 := h.hi (hs.getD p 0).toNat
      simp only [List.getD_eq_getElem?_getD] at this h2
      split
      · split
        · simp only [Option.getD_some]; omega
        · simp only [Option.getD_none]; omega
      · omega
  · split
    · exact ⟨h.len, h.lo, fun j => by have := h.hi j; dsimp only; omega, by dsimp only; omega, by have := h.r1; dsimp only; omega⟩
    · exact ⟨h.len, h.lo, fun j => by have := h.hi j; omega, h.r0, h.r1⟩

/-- Heats are numbers from 0 to 9, one for each. -/
def heatsB (hs : List Int) : Bool := hs.all fun z => betw z 0 9
theorem heatsB_at {hs : List Int} {k : Nat} {z : Int} (h : heatsB hs = true) (hz : hs[k]? = some z) : betw z 0 9 = true := by
  simp only [heatsB, List.all_eq_true] at h
  exact h z (List.mem_of_getElem? hz)
theorem heatsB_bad {hs : List Int} {k : Nat} {z : Int} (hz : hs[k]? = some z) (h : betw z 0 9 = false) : heatsB hs = false := by
  simp only [heatsB, List.all_eq_false]
  exact ⟨z, List.mem_of_getElem? hz, by simp [h]⟩
theorem heats_take {hs : List Int} {k : Nat} {z : Int} (hz : hs[k]? = some z) (h : heatsB (hs.take k) = true) (h2 : betw z 0 9 = true) : heatsB (hs.take (k + 1)) = true := by
  rw [heatsB, List.take_add_one, hz, List.all_append]
  rw [heatsB] at h
  simp [h, h2]
def qualB (l : List TResult) (hs : List Int) (each rest : Int) : Bool := heatsB hs && (decide (hs.length = l.length) && (betw each 0 40 && betw rest 0 40))
def qualC (l : List TResult) (hs : List Int) (each rest : Int) : Int := if ressB l = true then (if qualB l hs each rest = true then 0 else 2) else 1
def qualZ (l : List TResult) (hs : List Int) (each rest : Int) : List Int :=
  if ressB l = true then (if qualB l hs each rest = true then zl (qset l.length (qFold hs each rest (rkL (btr l) l.length) l.length).2.2) else []) else []
theorem qualZ_len (l : List TResult) (hs : List Int) (each rest : Int) : (qualZ l hs each rest).length ≤ 40 := by
  unfold qualZ
  split
  · rename_i h1
    split
    · rw [zl_len]; exact Nat.le_trans (qset_len _ _) (ress_len h1)
    · simp
  · simp
end Go.Proofs.Ytgdmiddiaogpaaa
