/- Contracts: a test as a line of text. -/
import Derived.Test.YtldhhbnochlmlaaDoorDc
import Derived.Test.YtldhhbnochlmlaaDoorTp
namespace Go.Proofs.YtldhhbnochlmlaaDoor
open Go.RowKit Go.BigFrame
attribute [local go_sem] sub_cell sub_frozen drewN_setCell

/-- A test's text. -/
def ttA (s e t : Int) : ByteArray := sb (Lib.itoa s) ++ ⟨#[47]⟩ ++ sb (Lib.itoa e) ++ ⟨#[32, 105, 110, 32]⟩ ++ sb (Lib.itoa t) ++ ⟨#[115]⟩
def ttV (s e t : Int) : ByteArray := if vtr s e t then ttA s e t else ⟨#[]⟩
theorem it_len {n : Int} (h0 : -9223372036854775808 ≤ n) (h1 : n ≤ 9223372036854775807) : (sb (Lib.itoa n)).size ≤ 21 := by
  rw [sb_size]; exact Lib.itoa_length_le n h0 h1
set_option maxHeartbeats 4000000 in
theorem c_l20Text (s e t : Int) (b o : Nat) (w : World) (hb : b < w.heap.size) (h0 : w.cell? ⟨b, o, none⟩ = some (.int .i64 s)) (h1 : w.cell? ⟨b, o + 1, none⟩ = some (.int .i64 e)) (h2 : w.cell? ⟨b, o + 2, none⟩ = some (.int .i64 t))
    (hs : -9223372036854775808 ≤ s ∧ s ≤ 9223372036854775807) (he : -9223372036854775808 ≤ e ∧ e ≤ 9223372036854775807) (ht : -9223372036854775808 ≤ t ∧ t ≤ 9223372036854775807) :
    Calls Tryd.prog 12 #[.pointer (some ⟨b, o, none⟩)] w fun r w' => r = .returned (.string (ttA s e t)) ∧ Below w.heap.size w w' := by
  obtain ⟨hs1, hs2⟩ := hs
  obtain ⟨he1, he2⟩ := he
  obtain ⟨ht1, ht2⟩ := ht
  have ls := it_len hs1 hs2
  have le := it_len he1 he2
  have lt := it_len ht1 ht2
  go_enter Tryd.func12, Tryd.ntmps12
  go_wp2_with fail
  refine wp_region_below (by kernel_rfl) (by kernel_rfl) ?_
  repeat (go_big_quiet_step ((go_at_call 21; refine qBg (c_l01Dec _ (by omega) (by omega) _) (by simp) ?_; intro w_ h_; first | exact h_ | exact h_.below | (subst h_; exact Below.refl _ _) | (subst h_; (repeat' (first | (with_reducible exact Below.refl _ _) | (with_reducible assumption) | (with_reducible refine below_drewN ?_ _) | (with_reducible refine Below.drew ?_) | (with_reducible refine Below.alloc ?_ ?_ _) | (with_reducible refine Below.setCell ?_ ?_ _) | go_size))) | (obtain ⟨n_, rfl⟩ := h_; (repeat' (first | (with_reducible exact Below.refl _ _) | (with_reducible assumption) | (with_reducible refine below_drewN ?_ _) | (with_reducible refine Below.drew ?_) | (with_reducible refine Below.alloc ?_ ?_ _) | (with_reducible refine Below.setCell ?_ ?_ _) | go_size))))))
  refine wpQuiet_nil ?_
  intro _ hw'
  obtain ⟨⟨w9, hb9⟩, hw''⟩ := hw'
  subst hw''
  go_wp2_with fail
  go_ret
  exact ⟨rfl, hb9⟩
set_option maxHeartbeats 4000000 in
theorem c_sTrialText (s e t : Int) (w : World) :
    Calls Tryd.prog 5 #[.agg #[.int .i64 s, .int .i64 e, .int .i64 t]] w fun r w' => r = .returned (.string (ttV s e t)) ∧ Below w.heap.size w w' := by
  cases g : vtr s e t
  · rw [ttV, g]
    have G1 := Lib.hid g
    clear g
    go_enter Tryd.func5, Tryd.ntmps5
    go_wp2_with (go_at_call 11; refine (c_l20One s e t _ _ _ G1.out _ (by go_cell) (by go_cell) (by go_cell)).mono ?_; rintro r_ w1 ⟨rfl, n1, rfl⟩)
    go_ret
    exact ⟨rfl, by (repeat' (first | (with_reducible exact Below.refl _ _) | (with_reducible assumption) | (with_reducible refine below_drewN ?_ _) | (with_reducible refine Below.drew ?_) | (with_reducible refine Below.alloc ?_ ?_ _) | (with_reducible refine Below.setCell ?_ ?_ _) | go_size))⟩
  · rw [ttV, g, if_pos rfl]
    have G1 := Lib.hid g
    obtain ⟨b0, b1, b2, b3, b4, b5⟩ := vtr_bounds g
    clear g
    go_enter Tryd.func5, Tryd.ntmps5
    go_wp2_with (first | (go_at_call 11; refine (c_l20One s e t _ _ _ G1.out _ (by go_cell) (by go_cell) (by go_cell)).mono ?_; rintro r_ w1 ⟨rfl, n1, rfl⟩) | (go_at_call 12; refine (c_l20Text s e t _ _ _ (by simp) (by go_cell) (by go_cell) (by go_cell) (by omega) (by omega) (by omega)).mono ?_; rintro r_ w2 ⟨rfl, hb2⟩))
    go_ret
    exact ⟨rfl, later hb2 (by (repeat' (first | (with_reducible exact Below.refl _ _) | (with_reducible assumption) | (with_reducible refine below_drewN ?_ _) | (with_reducible refine Below.drew ?_) | (with_reducible refine Below.alloc ?_ ?_ _) | (with_reducible refine Below.setCell ?_ ?_ _) | go_size)))⟩
set_option maxHeartbeats 4000000 in
theorem c_iTrialText (s e t : Int) (w : World) (hT : Tab w) :
    Calls Tryd.prog 7 #[.agg #[.int .i64 s, .int .i64 e, .int .i64 t]] w fun r w' => r = .returned (.string (ttV s e t)) ∧ Below w.heap.size w w' := by
  have HT0 := Lib.hid hT
  clear hT
  cases g : vtr s e t
  · rw [ttV, g]
    have G1 := Lib.hid g
    clear g
    go_enter Tryd.func7, Tryd.ntmps7
    go_wp2_with (go_at_call 13; refine (c_validTrial s e t _ G1.out _).mono ?_; rintro r_ w1 ⟨rfl, rfl⟩)
    go_ret
    exact ⟨rfl, by (repeat' (first | (with_reducible exact Below.refl _ _) | (with_reducible assumption) | (with_reducible refine below_drewN ?_ _) | (with_reducible refine Below.drew ?_) | (with_reducible refine Below.alloc ?_ ?_ _) | (with_reducible refine Below.setCell ?_ ?_ _) | go_size))⟩
  · rw [ttV, g, if_pos rfl]
    have G1 := Lib.hid g
    obtain ⟨b0, b1, b2, b3, b4, b5⟩ := vtr_bounds g
    have ls := it_len (n := s) (by omega) (by omega)
    have le := it_len (n := e) (by omega) (by omega)
    have lt := it_len (n := t) (by omega) (by omega)
    clear g
    go_enter Tryd.func7, Tryd.ntmps7
    go_wp2_with (go_at_call 13; refine (c_validTrial s e t _ G1.out _).mono ?_; rintro r_ w1 ⟨rfl, rfl⟩; have HT := Lib.hid (HT0.out.later (by (repeat' (first | (with_reducible exact Below.refl _ _) | (with_reducible assumption) | (with_reducible refine below_drewN ?_ _) | (with_reducible refine Below.drew ?_) | (with_reducible refine Below.alloc ?_ ?_ _) | (with_reducible refine Below.setCell ?_ ?_ _) | go_size)) : Below w.heap.size w ((w.alloc (.cells #[.int .i64 s, .int .i64 e, .int .i64 t] 25)).alloc (.cells #[.int .i64 s, .int .i64 e, .int .i64 t] 25)))))
    refine wp_region_below (by kernel_rfl) (by kernel_rfl) ?_
    repeat (go_big_quiet_step ((go_at_call 14; refine qBg (c_Decimal _ (by omega) (by omega) _ (HT.out.later (Later.h _))) (by simp) ?_; intro w_ h_; first | exact h_ | exact h_.below | (subst h_; exact Below.refl _ _) | (subst h_; (repeat' (first | (with_reducible exact Below.refl _ _) | (with_reducible assumption) | (with_reducible refine below_drewN ?_ _) | (with_reducible refine Below.drew ?_) | (with_reducible refine Below.alloc ?_ ?_ _) | (with_reducible refine Below.setCell ?_ ?_ _) | go_size))) | (obtain ⟨n_, rfl⟩ := h_; (repeat' (first | (with_reducible exact Below.refl _ _) | (with_reducible assumption) | (with_reducible refine below_drewN ?_ _) | (with_reducible refine Below.drew ?_) | (with_reducible refine Below.alloc ?_ ?_ _) | (with_reducible refine Below.setCell ?_ ?_ _) | go_size))))))
    refine wpQuiet_nil ?_
    intro _ hw'
    obtain ⟨⟨w9, hb9⟩, hw''⟩ := hw'
    subst hw''
    have hB9 := later hb9 (w := w) (by (repeat' (first | (with_reducible exact Below.refl _ _) | (with_reducible assumption) | (with_reducible refine below_drewN ?_ _) | (with_reducible refine Below.drew ?_) | (with_reducible refine Below.alloc ?_ ?_ _) | (with_reducible refine Below.setCell ?_ ?_ _) | go_size)))
    go_wp2_with fail
    go_ret
    exact ⟨rfl, hB9⟩
end Go.Proofs.YtldhhbnochlmlaaDoor
