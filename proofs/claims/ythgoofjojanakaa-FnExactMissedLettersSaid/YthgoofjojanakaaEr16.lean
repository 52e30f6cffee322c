/- Contracts: the least alignment as a text; the share of letters that are right. -/
import Derived.Test.YthgoofjojanakaaEr15
import Derived.Test.YthgoofjojanakaaEr12
namespace Go.Proofs.Ythgoofjojanakaa
open Go.RowKit Go.BigFrame
attribute [local go_sem] sub_cell sub_frozen drewN_setCell

theorem align_s (a b : ByteArray) (ha : a.size ≤ 60) (hb : b.size ≤ 60) (w : World) :
    Calls Try.prog 48 #[.string a, .string b] w fun e w' => e = .returned (.string (sb (alnL (bl a) (bl b)))) ∧ Below w.heap.size w w' := by
  have C := c_l19Align (bl a) (bl b) w (by rw [bl_len]; omega) (by rw [bl_len]; omega)
  rw [sb_bl, sb_bl] at C
  exact C
theorem align_i (a b : ByteArray) (ha : a.size ≤ 60) (hb : b.size ≤ 60) (w : World) :
    Calls Try.prog 49 #[.string a, .string b] w fun e w' => e = .returned (.string (sb (alnL (bl a) (bl b)))) ∧ Below w.heap.size w w' := by
  have C := c_alignment (bl a) (bl b) w (by rw [bl_len]; omega) (by rw [bl_len]; omega)
  rw [sb_bl, sb_bl] at C
  exact C
/-- What AlignTexts says. -/
def altA (w t : List UInt8) : ByteArray := if twoC w t = 0 then sb (alnL w t) else ⟨#[]⟩
set_option maxHeartbeats 2000000 in
theorem c_sAlignTexts (a b : ByteArray) (w : World) (ha : a.size ≤ maxLen) (hb : b.size ≤ maxLen) :
    Calls Try.prog 23 #[.string a, .string b] w fun e w' => e = .returned (.tuple #[.string (altA (bl a) (bl b)), .int .i64 (twoC (bl a) (bl b))]) ∧ Below w.heap.size w w' := by
  rcases twoC_cases (bl a) (bl b) with ⟨h, t1, t2⟩ | ⟨h, _⟩
  · have C := Lib.hid (align_s a b (typB_len t1) (typB_len t2))
    rw [altA, h, if_pos rfl]
    have H := Lib.hid h
    clear h t1 t2
    go_enter Try.func23, Try.ntmps23
    go_wp2_with (first | (go_at_call 41; refine (c_l19Two _ _ _ H.out _ ha hb).mono ?_; rintro r_ w' ⟨rfl, rfl⟩) | (go_at_call 48; refine (C.out _).mono ?_; rintro r_ w1 ⟨rfl, hb1⟩))
    go_returns
    exact ⟨rfl, hb1⟩
  · rw [altA, h, if_neg (by decide)]
    have H := Lib.hid h
    clear h
    go_enter Try.func23, Try.ntmps23
    go_wp2_with (go_at_call 41; refine (c_l19Two _ _ _ H.out _ ha hb).mono ?_; rintro r_ w' ⟨rfl, rfl⟩)
    go_returns
    exact ⟨rfl, Below.refl _ _⟩
set_option maxHeartbeats 2000000 in
theorem c_iAlignTexts (a b : ByteArray) (w : World) (ha : a.size ≤ maxLen) (hb : b.size ≤ maxLen) :
    Calls Try.prog 24 #[.string a, .string b] w fun e w' => e = .returned (.tuple #[.string (altA (bl a) (bl b)), .int .i64 (twoC (bl a) (bl b))]) ∧ Below w.heap.size w w' := by
  rcases twoC_cases (bl a) (bl b) with ⟨h, t1, t2⟩ | ⟨h, hor⟩
  · have C := Lib.hid (align_i a b (typB_len t1) (typB_len t2))
    rw [altA, h, if_pos rfl]
    have T1 := Lib.hid t1
    have T2 := Lib.hid t2
    clear h t1 t2
    go_enter Try.func24, Try.ntmps24
    go_wp2_with (first | (go_at_call 43; first | (with_reducible refine (c_isTyped a _ T1.out _ ha).mono ?_; rintro r_ w' ⟨rfl, rfl⟩) | (with_reducible refine (c_isTyped b _ T2.out _ hb).mono ?_; rintro r_ w' ⟨rfl, rfl⟩)) | (go_at_call 49; refine (C.out _).mono ?_; rintro r_ w1 ⟨rfl, hb1⟩))
    go_returns
    exact ⟨rfl, hb1⟩
  · rw [altA, h, if_neg (by decide)]
    clear h
    rcases hor with t1 | ⟨t1, t2⟩
    · have T1 := Lib.hid t1
      clear t1
      go_enter Try.func24, Try.ntmps24
      go_wp2_with (go_at_call 43; refine (c_isTyped a _ T1.out _ ha).mono ?_; rintro r_ w' ⟨rfl, rfl⟩)
      go_returns
      exact ⟨rfl, Below.refl _ _⟩
    · have T1 := Lib.hid t1
      have T2 := Lib.hid t2
      clear t1 t2
      go_enter Try.func24, Try.ntmps24
      go_wp2_with (go_at_call 43; first | (with_reducible refine (c_isTyped a _ T1.out _ ha).mono ?_; rintro r_ w' ⟨rfl, rfl⟩) | (with_reducible refine (c_isTyped b _ T2.out _ hb).mono ?_; rintro r_ w' ⟨rfl, rfl⟩))
      go_returns
      exact ⟨rfl, Below.refl _ _⟩
end Go.Proofs.Ythgoofjojanakaa
