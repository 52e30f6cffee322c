/- The lines of a ranking as one text. Plain. -/
import Derived.Test.YtbaomhneboojpaaDoorPl
import Derived.Test.YtbaomhneboojpaaDoorDc
import Derived.Lib.Join
namespace Go.Proofs.YtbaomhneboojpaaDoor
open Go.RowKit

def sepL : List UInt8 := [44, 32]
theorem joinTail_snoc (r : List (List UInt8)) (x : List UInt8) : Lib.joinTail sepL (r ++ [x]) = Lib.joinTail sepL r ++ (sepL ++ x) := by simp [Lib.joinTail]
/-- Line k put behind the lines ahead of it. -/
theorem join_step {L : List (List UInt8)} {k : Nat} {x : List UInt8} (h : L[k]? = some x) : Lib.join (L.take (k + 1)) sepL = (if k = 0 then x else Lib.join (L.take k) sepL ++ (sepL ++ x)) := by
  rw [List.take_add_one, h, Option.toList_some]
  cases k with
  | zero => simp [Lib.join_one]
  | succ k =>
    cases L with
    | nil => simp at h
    | cons a r =>
      rw [if_neg (by omega), List.take_succ_cons, List.cons_append, Lib.join_cons, Lib.join_cons, joinTail_snoc, List.append_assoc]
theorem join_size {L : List (List UInt8)} {b : Nat} (hb : ∀ x ∈ L, x.length ≤ b) : ∀ k, (Lib.join (L.take k) sepL).length ≤ k * (b + 2) := by
  intro k
  induction k with
  | zero => simp [Lib.join_nil]
  | succ k ih =>
    cases h : L[k]? with
    | none =>
      have hk : L.length ≤ k := List.getElem?_eq_none_iff.1 h
      rw [List.take_of_length_le (by omega)]
      rw [List.take_of_length_le hk] at ih
      rw [Nat.succ_mul]; omega
    | some x =>
      have hx := hb x (List.mem_of_getElem? h)
      rw [join_step h, Nat.succ_mul]
      split
      · omega
      · have hs : sepL.length = 2 := rfl
        simp only [List.length_append, hs]; omega
def nmR (l : List TResult) (i : Nat) : ByteArray := (l.getD i (⟨#[]⟩, 0, 0)).1
def rtLine (l : List TResult) (n i : Nat) : List UInt8 := Lib.itoa (placeI (btr l) n i) ++ ([46, 32] ++ bl (nmR l i))
def rtLs (l : List TResult) (n : Nat) : List (List UInt8) := (rkL (btr l) n).map (rtLine l n)
def rxV (l : List TResult) : ByteArray := if ressB l = true then sb (Lib.join (rtLs l l.length) sepL) else ⟨#[]⟩
theorem ress_okItem {l : List TResult} (h : ressB l = true) {i : Nat} {x : TResult} (hx : l[i]? = some x) : okRes x = true := by
  simp only [ressB, Bool.and_eq_true] at h
  have h1 := h.1
  cases hk : okAt okRes (·.1) l i with
  | false => have := ress_item hx hk; simp [ressB, h1, h.2] at this
  | true =>
    unfold okAt at hk
    rw [hx] at hk
    simp only [Bool.and_eq_true] at hk
    first | exact hk.1 | exact hk.2 | simp_all
theorem nameB_12 {s : ByteArray} (h : nameB (bl s) = true) : s.size ≤ 12 := by
  simp only [nameB, Bool.and_eq_true, decide_eq_true_eq, bl_len] at h
  exact h.1
theorem ress_name {l : List TResult} (h : ressB l = true) {i : Nat} {x : TResult} (hx : l[i]? = some x) : x.1.size ≤ 12 := by
  have := ress_okItem h hx
  simp only [okRes, Bool.and_eq_true] at this
  exact nameB_12 this.1
theorem place_bd {lt : Nat → Nat → Bool} {n i : Nat} (hn : n ≤ 40) (hb : btrN lt n i ≤ n) : 1 ≤ placeI lt n i ∧ placeI lt n i ≤ 41 := by
  unfold placeI; omega
theorem rtLs_size {l : List TResult} {n k : Nat} (h1 : ressB l = true) (h40 : n ≤ 40) (hl : l.length = n) (hk : k ≤ n) : (Lib.join ((rtLs l n).take k) sepL).length ≤ 40 * 60 := by
  have hb : ∀ x ∈ rtLs l n, x.length ≤ 58 := by
    intro x hx
    obtain ⟨p, hp, rfl⟩ := List.mem_map.1 hx
    have hpn := (rkL_ok (btr_wk l) n).lt_ hp
    have hpl : l[p]? = some l[p] := List.getElem?_eq_getElem (by rw [hl]; exact hpn)
    have h12 := ress_name h1 hpl
    have hbd := place_bd (lt := btr l) (i := p) h40 btrN_le
    have hit := Lib.itoa_length_le (placeI (btr l) n p) (by omega) (by omega)
    simp only [rtLine, nmR, List.length_append, bl_len, List.getD_eq_getElem?_getD, hpl, Option.getD_some, List.length_cons, List.length_nil]
    omega
  have := join_size hb k
  have : k * (58 + 2) ≤ 40 * 60 := Nat.mul_le_mul (by omega) (by omega)
  omega
end Go.Proofs.YtbaomhneboojpaaDoor
