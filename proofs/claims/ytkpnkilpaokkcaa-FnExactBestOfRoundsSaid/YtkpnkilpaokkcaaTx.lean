/- Contracts: texts of bytes from a least byte to 126, not too long. -/
import Derived.Test.YtkpnkilpaokkcaaMem
namespace Go.Proofs.Ytkpnkilpaokkcaa
open Go.RowKit Go.BigFrame
attribute [local go_sem] sub_cell sub_frozen drewN_setCell

/-- The bytes of a text. -/
abbrev bl (s : ByteArray) : List UInt8 := s.data.toList
theorem bl_get (s : ByteArray) (k : Nat) (h : k < s.size) : (bl s)[k]? = some s[k] := by
  rw [List.getElem?_eq_getElem (by simpa using h)]; rfl
theorem bl_len (s : ByteArray) : (bl s).length = s.size := by simp
theorem bl_none (s : ByteArray) (k : Nat) (h : s.size ≤ k) : (bl s)[k]? = none := List.getElem?_eq_none (by simpa using h)
theorem u8_eq {a c : UInt8} : ((a.toNat : Int) == (c.toNat : Int)) = (a == c) := by
  by_cases h : a = c
  · simp [h]
  · have h1 : (a.toNat : Int) ≠ c.toNat := fun e => h (UInt8.toNat_inj.1 (Int.natCast_inj.1 e))
    rw [beq_eq_false_iff_ne.2 h1, beq_eq_false_iff_ne.2 h]
theorem u8_lit {a c : UInt8} {n : Int} (hn : (c.toNat : Int) = n) : ((a.toNat : Int) == n) = (a == c) := by rw [← hn, u8_eq]
theorem all_bytes {l : List UInt8} {k : Nat} {c : UInt8} {p : UInt8 → Bool} (hx : l[k]? = some c) (h : (l.take k).all p = true) (hc : p c = true) : (l.take (k + 1)).all p = true := by
  rw [List.take_add_one, hx, List.all_append, h]
  simpa using hc

def okB (lo c : UInt8) : Bool := decide (lo.toNat ≤ c.toNat) && decide (c.toNat ≤ 126)
def textB (lo : UInt8) (m : Int) (l : List UInt8) : Bool := decide ((l.length : Int) ≤ m) && l.all (okB lo)
theorem textB_long {lo : UInt8} {m : Int} {s : ByteArray} (h : m < (s.size : Int)) : textB lo m (bl s) = false := by
  have h1 := bl_len s
  simp only [textB, Bool.and_eq_false_iff]
  left
  simp only [decide_eq_false_iff_not]
  omega
theorem textB_bad {lo c : UInt8} {m : Int} {l : List UInt8} {k : Nat} (h : l[k]? = some c) (hc : okB lo c = false) : textB lo m l = false := by
  simp only [textB, Bool.and_eq_false_iff]
  right
  rw [List.all_eq_false]
  exact ⟨c, List.mem_of_getElem? h, by simp [hc]⟩
theorem textB_end {lo : UInt8} {m : Int} {s : ByteArray} (h : ((bl s).take s.size).all (okB lo) = true) : textB lo m (bl s) = decide ((s.size : Int) ≤ m) := by
  have h1 := bl_len s
  rw [List.take_of_length_le (by omega)] at h
  simp only [textB, h, Bool.and_true, h1]
theorem okB_lo {lo c : UInt8} (h : (c.toNat : Int) < (lo.toNat : Int)) : okB lo c = false := by simp [okB]; omega
theorem okB_hi {lo c : UInt8} (h : 126 < (c.toNat : Int)) : okB lo c = false := by simp [okB]; omega
theorem okB_yes {lo c : UInt8} (h : ¬ (c.toNat : Int) < (lo.toNat : Int)) (h2 : (c.toNat : Int) ≤ 126) : okB lo c = true := by simp [okB]; omega
theorem textB_len {lo : UInt8} {m : Int} {s : ByteArray} (h : textB lo m (bl s) = true) : (s.size : Int) ≤ m := by
  have h1 := bl_len s
  simp only [textB, Bool.and_eq_true, decide_eq_true_eq] at h
  omega


end Go.Proofs.Ytkpnkilpaokkcaa
