/- Contracts: needs of letters, with counts. -/
import Derived.Test.YtajcdaclbammaaaIx
import Derived.Test.YtajcdaclbammaaaSb
import Derived.Test.YtajcdaclbammaaaBt
import Derived.Test.YtajcdaclbammaaaI64
namespace Go.Proofs.Ytajcdaclbammaaa
open Go.RowKit Go.BigFrame
attribute [local go_sem] sub_cell sub_frozen drewN_setCell

/-- The bytes i and i + 1 of a text rise. -/
def riseAt (l : List UInt8) (i : Nat) : Bool := match l[i]?, l[i + 1]? with | some a, some b => decide ((a.toNat : Int) < b.toNat) | _, _ => false
def risesL (l : List UInt8) : Bool := allN (riseAt l) (l.length - 1)
theorem riseAt_eq {l : List UInt8} {i : Nat} {a b : UInt8} (ha : l[i]? = some a) (hb : l[i + 1]? = some b) : riseAt l i = decide ((a.toNat : Int) < b.toNat) := by simp [riseAt, ha, hb]
theorem rises_bad {l : List UInt8} {i : Nat} {a b : UInt8} (ha : l[i]? = some a) (hb : l[i + 1]? = some b) (h : ¬ (a.toNat : Int) < b.toNat) : risesL l = false := by
  have h1 := (List.getElem?_eq_some_iff.1 hb).1
  exact allN_bad (k := i) (by omega) (by rw [riseAt_eq ha hb, decide_eq_false h])
/-- Letters of needs. -/
def needL (l : List UInt8) : Bool := risesL l && textB 33 30 l
def needB (l : List UInt8) (z : List Int) : Bool := z.all (betw · 0 1000) && (needL l && decide (z.length = l.length))
theorem need_bad {l : List UInt8} {z : List Int} {k : Nat} {x : Int} (h : z[k]? = some x) (hx : betw x 0 1000 = false) : needB l z = false := by
  simp only [needB, Bool.and_eq_false_iff]
  left
  rw [List.all_eq_false]
  exact ⟨x, List.mem_of_getElem? h, by simp [hx]⟩
theorem take_allZ {p : Int → Bool} {l : List Int} {k : Nat} {x : Int} (hx : l[k]? = some x) (h : (l.take k).all p = true) (hv : p x = true) : (l.take (k + 1)).all p = true := by
  rw [List.take_add_one, hx, List.all_append, h]
  simpa using hv
theorem need_end {l : List UInt8} {z : List Int} {n : Nat} (hn : z.length = n) (h : (z.take n).all (betw · 0 1000) = true) : needB l z = (needL l && decide (n = l.length)) := by
  subst hn
  rw [List.take_of_length_le (Nat.le_refl _)] at h
  simp only [needB, h, Bool.true_and]

end Go.Proofs.Ytajcdaclbammaaa
