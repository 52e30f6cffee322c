/- Contracts: the least number of errors; the mark of a typed text. -/
import Derived.Test.YthgoofjojanakaaEr8
import Derived.Test.YthgoofjojanakaaEr10
namespace Go.Proofs.Ythgoofjojanakaa
open Go.RowKit Go.BigFrame
attribute [local go_sem] sub_cell sub_frozen drewN_setCell

theorem MatR.first {w : World} {G n m : Nat} {C : Nat → Nat → Int} (h : MatR w G n m C) : ∃ r, w.cell? ⟨G, 0, none⟩ = some (.slice (some ⟨r, 0, none⟩) (m + 1) (m + 1)) ∧ w.cell? ⟨r, 0, none⟩ = some (.int .i64 (C 0 0)) := by
  obtain ⟨r, _, h1, h2⟩ := h.2 0 (Nat.zero_le _)
  exact ⟨r, h1, h2 0 (Nat.zero_le _)⟩
theorem cC_first (W T : List UInt8) : cC W T 0 0 = cst W T := rfl
/-- What the reference's and the program's matrices are read for, in one form. -/
theorem costs_s (a b : ByteArray) (ha : a.size ≤ 60) (hb : b.size ≤ 60) (w : World) :
    Calls Try.prog 42 #[.string a, .string b] w fun e w' => e = .returned (.slice (some ⟨w.heap.size, 0, none⟩) (a.size + 1) (a.size + 1)) ∧ MatR w' w.heap.size a.size b.size (cC (bl a) (bl b)) ∧ Below w.heap.size w w' := by
  have C := c_l19Costs (bl a) (bl b) w (by rw [bl_len]; omega) (by rw [bl_len]; omega)
  rw [sb_bl, sb_bl, bl_len, bl_len] at C
  exact C.mono fun _ _ ⟨h1, h2, h3⟩ => ⟨h1, h2.toR, h3⟩
theorem costs_i (a b : ByteArray) (ha : a.size ≤ 60) (hb : b.size ≤ 60) (w : World) :
    Calls Try.prog 44 #[.string a, .string b] w fun e w' => e = .returned (.slice (some ⟨w.heap.size, 0, none⟩) (a.size + 1) (a.size + 1)) ∧ MatR w' w.heap.size a.size b.size (cC (bl a) (bl b)) ∧ Below w.heap.size w w' := by
  have C := c_leastFrom (bl a) (bl b) w (by rw [bl_len]; omega) (by rw [bl_len]; omega)
  rw [sb_bl, sb_bl, bl_len, bl_len] at C
  exact C

/-- What LeastErrors says. -/
def leA (w t : List UInt8) : Int := if twoC w t = 0 then cst w t else 0
set_option maxHeartbeats 2000000 in
theorem c_sLeastErrors (a b : ByteArray) (w : World) (ha : a.size ≤ maxLen) (hb : b.size ≤ maxLen) :
    Calls Try.prog 17 #[.string a, .string b] w fun e w' => e = .returned (.tuple #[.int .i64 (leA (bl a) (bl b)), .int .i64 (twoC (bl a) (bl b))]) ∧ Below w.heap.size w w' := by
  rcases twoC_cases (bl a) (bl b) with ⟨h, t1, t2⟩ | ⟨h, _⟩
  · have C := Lib.hid (costs_s a b (typB_len t1) (typB_len t2))
    have n1 := typB_len t1
    have n2 := typB_len t2
    rw [leA, h, if_pos rfl]
    have H := Lib.hid h
    clear h t1 t2
    go_enter Try.func17, Try.ntmps17
    go_wp2_with (first | (go_at_call 41; refine (c_l19Two _ _ _ H.out _ ha hb).mono ?_; rintro r_ w' ⟨rfl, rfl⟩) | (go_at_call 42; refine (C.out _).mono ?_; rintro r_ w1 ⟨rfl, hR, hb1⟩; obtain ⟨r, k0, k1⟩ := hR.first; clear hR))
    go_returns
    exact ⟨rfl, hb1⟩
  · rw [leA, h, if_neg (by decide)]
    have H := Lib.hid h
    clear h
    go_enter Try.func17, Try.ntmps17
    go_wp2_with (go_at_call 41; refine (c_l19Two _ _ _ H.out _ ha hb).mono ?_; rintro r_ w' ⟨rfl, rfl⟩)
    go_returns
    exact ⟨rfl, Below.refl _ _⟩
set_option maxHeartbeats 2000000 in
theorem c_iLeastErrors (a b : ByteArray) (w : World) (ha : a.size ≤ maxLen) (hb : b.size ≤ maxLen) :
    Calls Try.prog 18 #[.string a, .string b] w fun e w' => e = .returned (.tuple #[.int .i64 (leA (bl a) (bl b)), .int .i64 (twoC (bl a) (bl b))]) ∧ Below w.heap.size w w' := by
  rcases twoC_cases (bl a) (bl b) with ⟨h, t1, t2⟩ | ⟨h, hor⟩
  · have C := Lib.hid (costs_i a b (typB_len t1) (typB_len t2))
    have n1 := typB_len t1
    have n2 := typB_len t2
    rw [leA, h, if_pos rfl]
    have T1 := Lib.hid t1
    have T2 := Lib.hid t2
    clear h t1 t2
    go_enter Try.func18, Try.ntmps18
    go_wp2_with (first | (go_at_call 43; first | (with_reducible refine (c_isTyped a _ T1.out _ ha).mono ?_; rintro r_ w' ⟨rfl, rfl⟩) | (with_reducible refine (c_isTyped b _ T2.out _ hb).mono ?_; rintro r_ w' ⟨rfl, rfl⟩)) | (go_at_call 44; refine (C.out _).mono ?_; rintro r_ w1 ⟨rfl, hR, hb1⟩; obtain ⟨r, k0, k1⟩ := hR.first; clear hR))
    go_returns
    exact ⟨rfl, hb1⟩
  · rw [leA, h, if_neg (by decide)]
    clear h
    rcases hor with t1 | ⟨t1, t2⟩
    · have T1 := Lib.hid t1
      clear t1
      go_enter Try.func18, Try.ntmps18
      go_wp2_with (go_at_call 43; refine (c_isTyped a _ T1.out _ ha).mono ?_; rintro r_ w' ⟨rfl, rfl⟩)
      go_returns
      exact ⟨rfl, Below.refl _ _⟩
    · have T1 := Lib.hid t1
      have T2 := Lib.hid t2
      clear t1 t2
      go_enter Try.func18, Try.ntmps18
      go_wp2_with (go_at_call 43; first | (with_reducible refine (c_isTyped a _ T1.out _ ha).mono ?_; rintro r_ w' ⟨rfl, rfl⟩) | (with_reducible refine (c_isTyped b _ T2.out _ hb).mono ?_; rintro r_ w' ⟨rfl, rfl⟩))
      go_returns
      exact ⟨rfl, Below.refl _ _⟩
end Go.Proofs.Ythgoofjojanakaa
