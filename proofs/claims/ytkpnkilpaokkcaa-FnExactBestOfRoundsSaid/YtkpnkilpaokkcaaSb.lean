/- Texts as lists of bytes. No program in sight. -/
import Derived.Test.YtkpnkilpaokkcaaTx
namespace Go.Proofs.Ytkpnkilpaokkcaa
open Go.RowKit

/-- A text out of bytes. -/
def sb (l : List UInt8) : ByteArray := ⟨l.toArray⟩
theorem sb_size (l : List UInt8) : (sb l).size = l.length := by simp [sb, ByteArray.size]
theorem bl_sb (l : List UInt8) : bl (sb l) = l := by simp [bl, sb]
theorem sb_bl (s : ByteArray) : sb (bl s) = s := by simp [bl, sb]
theorem sb_nil : sb [] = ⟨#[]⟩ := rfl
theorem sb_get0 (a : UInt8) (l : List UInt8) (h) : (sb (a :: l))[0]'h = a := rfl
theorem sb_get1 (a b : UInt8) (l : List UInt8) (h) : (sb (a :: b :: l))[1]'h = b := rfl
theorem sb_toList (l : List UInt8) : (sb l).toList = l := by rw [ByteArray.toList_eq]; simp [sb]
theorem mt_toList : (ByteArray.mk #[]).toList = [] := by rw [ByteArray.toList_eq]
theorem cons_beq_nil (a : UInt8) (l : List UInt8) : (a :: l == []) = false := rfl
theorem nil_beq_nil : (([] : List UInt8) == []) = true := rfl
theorem sb_ext {s t : ByteArray} (h : bl s = bl t) : s = t := by rw [← sb_bl s, h, sb_bl]
theorem u8int {a b : UInt8} : ((a.toNat : Int) = (b.toNat : Int)) ↔ a = b := ⟨fun e => UInt8.toNat_inj.1 (Int.natCast_inj.1 e), fun e => by rw [e]⟩
theorem u8_ne {a c : UInt8} : ((a.toNat : Int) != (c.toNat : Int)) = !(a == c) := by rw [bne, u8_eq]
theorem u8_litn {a c : UInt8} {n : Int} (hn : (c.toNat : Int) = n) : ((a.toNat : Int) != n) = !(a == c) := by rw [← hn, u8_ne]
theorem u8_bd (a : UInt8) : (a.toNat : Int) ≤ 255 := by have := UInt8.toNat_lt a; omega
theorem toList_bl (s : ByteArray) : s.toList = bl s := by rw [ByteArray.toList_eq]
theorem toList_nil {s : ByteArray} (h : s.size = 0) : s.toList = [] := by
  rw [toList_bl]; exact List.eq_nil_of_length_eq_zero (by rw [bl_len, h])
theorem toList_cons {s : ByteArray} (h : 0 < s.size) : ∃ a l, s.toList = a :: l := by
  rw [toList_bl]
  cases hh : bl s with
  | nil => have := bl_len s; rw [hh] at this; simp at this; omega
  | cons a l => exact ⟨a, l, rfl⟩
theorem sb_extract (l : List UInt8) (i : Nat) : (sb l).extract i l.length = sb (l.drop i) := by
  apply sb_ext
  rw [bl_sb]
  simp [bl, sb]
  exact List.take_of_length_le (by simp)
theorem beq_texts {s t : ByteArray} : (s.toList == t.toList) = decide (s = t) := by
  rw [toList_bl, toList_bl, Bool.eq_iff_iff, beq_iff_eq, decide_eq_true_eq]
  exact ⟨fun h => sb_ext h, fun h => by rw [h]⟩
instance decMemText (s : ByteArray) (S : List ByteArray) : Decidable (s ∈ S) :=
  decidable_of_iff (bl s ∈ S.map bl) ⟨fun h => by
    obtain ⟨t, ht, he⟩ := List.mem_map.1 h
    rw [← sb_ext he]; exact ht, fun h => List.mem_map_of_mem h⟩
end Go.Proofs.Ytkpnkilpaokkcaa
