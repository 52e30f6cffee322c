/- The text of a lesson. Plain. -/
import Derived.Test.YtajcdaclbammaaaDoorLe2
import Derived.Test.YtajcdaclbammaaaDoorDc
import Derived.Lib.Join
namespace Go.Proofs.YtajcdaclbammaaaDoor
open Go.RowKit

def ledef : TLesson := (⟨#[]⟩, ⟨#[]⟩, [], 0)
theorem joinT_snoc (sep : List UInt8) (r : List (List UInt8)) (x : List UInt8) : Lib.joinTail sep (r ++ [x]) = Lib.joinTail sep r ++ (sep ++ x) := by simp [Lib.joinTail]
/-- Name k put behind the names ahead of it. -/
theorem joinS_step {sep : List UInt8} {L : List (List UInt8)} {k : Nat} {x : List UInt8} (h : L[k]? = some x) : Lib.join (L.take (k + 1)) sep = (if k = 0 then x else Lib.join (L.take k) sep ++ (sep ++ x)) := by
  rw [List.take_add_one, h, Option.toList_some]
  cases k with
  | zero => simp [Lib.join_one]
  | succ k =>
    cases L with
    | nil => simp at h
    | cons a r =>
      rw [if_neg (by omega), List.take_succ_cons, List.cons_append, Lib.join_cons, Lib.join_cons, joinT_snoc, List.append_assoc]
theorem joinS_size {sep : List UInt8} {L : List (List UInt8)} {b : Nat} (hb : ∀ x ∈ L, x.length ≤ b) : ∀ k, (Lib.join (L.take k) sep).length ≤ k * (b + sep.length) := by
  intro k
  induction k with
  | zero => simp [Lib.join_nil]
  | succ k ih =>
    cases h : L[k]? with
    | none =>
      have hk : L.length ≤ k := List.getElem?_eq_none_iff.1 h
      rw [List.take_of_length_le (by omega)]
      rw [List.take_of_length_le hk] at ih
      rw [Nat.succ_mul]; omega
    | some x =>
      have hx := hb x (List.mem_of_getElem? h)
      rw [joinS_step h, Nat.succ_mul]
      split
      · omega
      · simp only [List.length_append]; omega
def headL (nm lt : ByteArray) (hr : Int) : List UInt8 := bl nm ++ ([32] ++ (Lib.itoa hr ++ ([104, 32, 91] ++ (bl lt ++ [93]))))
def aftL (L : List (List UInt8)) : List UInt8 := if L = [] then [] else [32, 97, 102, 116, 101, 114, 32] ++ Lib.join L [44]
def nmL (l : List TLesson) (z : List Int) : List (List UInt8) := z.map fun k => bl (l.getD k.toNat ledef).1
def ltV (l : List TLesson) (k : Int) : ByteArray :=
  if lesB l = true then (if betw k 0 ((l.length : Int) - 1) = true then sb (headL (l.getD k.toNat ledef).1 (l.getD k.toNat ledef).2.1 (l.getD k.toNat ledef).2.2.2 ++ aftL (nmL l (l.getD k.toNat ledef).2.2.1)) else ⟨#[]⟩) else ⟨#[]⟩
theorem aft_nil : aftL [] = [] := rfl
theorem aft_step {L : List (List UInt8)} {k : Nat} {x : List UInt8} (h : L[k]? = some x) : aftL (L.take (k + 1)) = (if k = 0 then [32, 97, 102, 116, 101, 114, 32] ++ x else aftL (L.take k) ++ ([44] ++ x)) := by
  have hk := (List.getElem?_eq_some_iff.1 h).1
  have h1 : L.take (k + 1) ≠ [] := by intro e; have := congrArg List.length e; rw [List.length_take, List.length_nil] at this; omega
  rw [aftL, if_neg h1, joinS_step h]
  split
  · rfl
  · have h2 : L.take k ≠ [] := by intro e; have := congrArg List.length e; rw [List.length_take, List.length_nil] at this; omega
    rw [aftL, if_neg h2, List.append_assoc]
theorem nameB_12 {s : ByteArray} (h : nameB (bl s) = true) : s.size ≤ 12 := by
  simp only [nameB, Bool.and_eq_true, decide_eq_true_eq, bl_len] at h
  exact h.1
theorem les_bounds {l : List TLesson} (h : lesB l = true) {k : Nat} {x : TLesson} (hx : l[k]? = some x) : x.1.size ≤ 12 ∧ x.2.1.size ≤ 100 ∧ (0 ≤ x.2.2.2 ∧ x.2.2.2 ≤ 100) ∧ risesZ 0 ((l.length : Int) - 1) x.2.2.1 = true := by
  have h1 := les_item h hx
  simp only [okLe, Bool.and_eq_true] at h1
  obtain ⟨a1, a2, a3, _, a5, _⟩ := h1
  refine ⟨nameB_12 a1, ?_, betw_true a5, a3⟩
  simp only [textB, Bool.and_eq_true, decide_eq_true_eq, bl_len] at a2
  omega
theorem nmL_at {l : List TLesson} {z : List Int} {i p : Nat} {x : TLesson} (hz : z[i]? = some (p : Int)) (hx : l[p]? = some x) : (nmL l z)[i]? = some (bl x.1) := by
  simp [nmL, hz, List.getD_eq_getElem?_getD, hx]
theorem nmL_bd {l : List TLesson} (h : lesB l = true) (z : List Int) : ∀ x ∈ nmL l z, x.length ≤ 12 := by
  intro x hx
  obtain ⟨k, _, rfl⟩ := List.mem_map.1 hx
  rw [List.getD_eq_getElem?_getD]
  cases hk : l[k.toNat]? with
  | none => simp [ledef]
  | some y => rw [Option.getD_some, bl_len]; exact (les_bounds h hk).1
theorem aft_size {L : List (List UInt8)} (hb : ∀ x ∈ L, x.length ≤ 12) (k : Nat) : (aftL (L.take k)).length ≤ 7 + k * 13 := by
  unfold aftL
  split
  · simp
  · have := joinS_size (sep := [44]) hb k
    simp only [List.length_append, List.length_cons, List.length_nil] at *
    omega
theorem head_size {nm lt : ByteArray} {hr : Int} (h1 : nm.size ≤ 12) (h2 : lt.size ≤ 100) (h3 : 0 ≤ hr ∧ hr ≤ 100) : (headL nm lt hr).length ≤ 150 := by
  have := Lib.itoa_length_le hr (by omega) (by omega)
  simp only [headL, List.length_append, bl_len, List.length_cons, List.length_nil]
  omega
theorem head_sb (nm lt : ByteArray) (hr : Int) : nm ++ ⟨#[32]⟩ ++ sb (Lib.itoa hr) ++ ⟨#[104, 32, 91]⟩ ++ lt ++ ⟨#[93]⟩ = sb (headL nm lt hr) := by
  conv => lhs; rw [← sb_bl nm, ← sb_bl lt]
  rw [show (⟨#[32]⟩ : ByteArray) = sb [32] from rfl, show (⟨#[104, 32, 91]⟩ : ByteArray) = sb [104, 32, 91] from rfl, show (⟨#[93]⟩ : ByteArray) = sb [93] from rfl]
  simp only [sb_apd, headL, List.append_assoc]
theorem rises_lenZ {n : Nat} {z : List Int} (h : risesZ 0 ((n : Int) - 1) z = true) (hn : n ≤ 12) : z.length ≤ 12 := by
  -- number i is at least i
  have key : ∀ (i : Nat) (x : Int), z[i]? = some x → (i : Int) ≤ x := by
    intro i
    induction i with
    | zero => intro x hx; have := (risesZ_bd h hx).1; omega
    | succ i ih =>
      intro x hx
      have hi := (List.getElem?_eq_some_iff.1 hx).1
      have hy : z[i]? = some z[i] := List.getElem?_eq_getElem (by omega)
      have h1 := allN_at h hi
      simp only [riseZ, hy, hx, Bool.and_eq_true, decide_eq_true_eq] at h1
      have := ih _ hy
      omega
  by_cases h0 : z.length = 0
  · omega
  · have hx : z[z.length - 1]? = some z[z.length - 1] := List.getElem?_eq_getElem (by omega)
    have h1 := key _ _ hx
    have h2 := (risesZ_bd h hx).2
    omega
end Go.Proofs.YtajcdaclbammaaaDoor
