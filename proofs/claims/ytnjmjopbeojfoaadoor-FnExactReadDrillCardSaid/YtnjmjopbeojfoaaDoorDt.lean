/- Contracts: a drill as a line of text. -/
import Derived.Test.YtnjmjopbeojfoaaDoorDc
import Derived.Test.YtnjmjopbeojfoaaDoorDr2w
namespace Go.Proofs.YtnjmjopbeojfoaaDoor
open Go.RowKit Go.BigFrame
attribute [local go_sem] sub_cell sub_frozen drewN_setCell

/-- A drill's text. -/
def dtA (nm ls : ByteArray) (mi : Int) : ByteArray := nm ++ ⟨#[32]⟩ ++ ls ++ ⟨#[32]⟩ ++ sb (Lib.itoa mi)
def dtV (nm ls : ByteArray) (mi : Int) : ByteArray := if okDr (nm, ls, mi) then dtA nm ls mi else ⟨#[]⟩
theorem okDr_mi {nm ls : ByteArray} {mi : Int} (h : okDr (nm, ls, mi) = true) : 1 ≤ mi ∧ mi ≤ 600 := by
  simp only [okDr, Bool.and_eq_true, betw, decide_eq_true_eq] at h
  omega
set_option maxHeartbeats 4000000 in
theorem c_l21Text (nm ls : ByteArray) (mi : Int) (w : World) (hn : nm.size ≤ 1048576) (hs : ls.size ≤ 1048576) (h0 : -9223372036854775808 ≤ mi) (h1 : mi ≤ 9223372036854775807) :
    Calls Tryd.prog 13 #[.agg #[.string nm, .string ls, .int .i64 mi]] w fun e w' => e = .returned (.string (dtA nm ls mi)) ∧ Below w.heap.size w w' := by
  have hit := Lib.itoa_length_le mi h0 h1
  have hsz : (sb (Lib.itoa mi)).size ≤ 21 := by rw [sb_size]; exact hit
  clear hit
  go_enter Tryd.func13, Tryd.ntmps13
  go_wp2_with fail
  refine wp_region_below (by kernel_rfl) (by kernel_rfl) ?_
  repeat (go_big_quiet_step ((go_at_call 24; refine qBg (c_l01Dec _ (by omega) (by omega) _) (by simp) ?_; intro w_ h_; first | exact h_ | exact h_.below | (subst h_; exact Below.refl _ _) | (subst h_; (repeat' (first | (with_reducible exact Below.refl _ _) | (with_reducible assumption) | (with_reducible refine below_drewN ?_ _) | (with_reducible refine Below.drew ?_) | (with_reducible refine Below.alloc ?_ ?_ _) | (with_reducible refine Below.setCell ?_ ?_ _) | go_size))) | (obtain ⟨n_, rfl⟩ := h_; (repeat' (first | (with_reducible exact Below.refl _ _) | (with_reducible assumption) | (with_reducible refine below_drewN ?_ _) | (with_reducible refine Below.drew ?_) | (with_reducible refine Below.alloc ?_ ?_ _) | (with_reducible refine Below.setCell ?_ ?_ _) | go_size))))))
  refine wpQuiet_nil ?_
  intro _ hw'
  obtain ⟨⟨w9, hb9⟩, hw''⟩ := hw'
  subst hw''
  have hB9 := later hb9 (w := w) (by (repeat' (first | (with_reducible exact Below.refl _ _) | (with_reducible assumption) | (with_reducible refine below_drewN ?_ _) | (with_reducible refine Below.drew ?_) | (with_reducible refine Below.alloc ?_ ?_ _) | (with_reducible refine Below.setCell ?_ ?_ _) | go_size)))
  go_wp2_with fail
  go_ret
  exact ⟨rfl, hB9⟩
set_option maxHeartbeats 4000000 in
theorem c_sDrillText (nm ls : ByteArray) (mi : Int) (w : World) (hn : nm.size ≤ 1048576) (hs : ls.size ≤ 1048576) :
    Calls Tryd.prog 6 #[.agg #[.string nm, .string ls, .int .i64 mi]] w fun e w' => e = .returned (.string (dtV nm ls mi)) ∧ Below w.heap.size w w' := by
  have hn2 : nm.size ≤ maxLen := by unfold maxLen; omega
  have hs2 : ls.size ≤ maxLen := by unfold maxLen; omega
  cases g : okDr (nm, ls, mi)
  · rw [dtV, g]
    have G1 := Lib.hid g
    clear g
    go_enter Tryd.func6, Tryd.ntmps6
    go_wp2_with (go_at_call 12; refine (c_l21One nm ls mi _ G1.out _ hn2 hs2).mono ?_; rintro r_ w1 ⟨rfl, hb1⟩; have hB1 := later hb1 (w := w) (by (repeat' (first | (with_reducible exact Below.refl _ _) | (with_reducible assumption) | (with_reducible refine below_drewN ?_ _) | (with_reducible refine Below.drew ?_) | (with_reducible refine Below.alloc ?_ ?_ _) | (with_reducible refine Below.setCell ?_ ?_ _) | go_size))); have hz1 := hB1.size; have hy1 := hb1.size; obtain ⟨hc1, hf1⟩ := bcell hb1; (try simp only [World.size_alloc, World.heap_drewN] at hc1 hf1 hy1); clear hb1)
    go_ret
    exact ⟨rfl, by (repeat' (first | (with_reducible exact Below.refl _ _) | (with_reducible assumption) | (with_reducible refine below_drewN ?_ _) | (with_reducible refine Below.drew ?_) | (with_reducible refine Below.alloc ?_ ?_ _) | (with_reducible refine Below.setCell ?_ ?_ _) | go_size))⟩
  · rw [dtV, g, if_pos rfl]
    have G1 := Lib.hid g
    obtain ⟨m0, m1⟩ := okDr_mi g
    clear g
    go_enter Tryd.func6, Tryd.ntmps6
    go_wp2_with (first | (go_at_call 12; refine (c_l21One nm ls mi _ G1.out _ hn2 hs2).mono ?_; rintro r_ w1 ⟨rfl, hb1⟩; have hB1 := later hb1 (w := w) (by (repeat' (first | (with_reducible exact Below.refl _ _) | (with_reducible assumption) | (with_reducible refine below_drewN ?_ _) | (with_reducible refine Below.drew ?_) | (with_reducible refine Below.alloc ?_ ?_ _) | (with_reducible refine Below.setCell ?_ ?_ _) | go_size))); have hz1 := hB1.size; have hy1 := hb1.size; simp only [World.size_alloc] at hy1; have k0 : w1.cell? ⟨w.heap.size, 0, none⟩ = some (.string nm) := (hb1.cell (p := ⟨w.heap.size, 0, none⟩) (by simp)).trans (by simp [go_sem]); have k1 : w1.cell? ⟨w.heap.size, 1, none⟩ = some (.string ls) := (hb1.cell (p := ⟨w.heap.size, 1, none⟩) (by simp)).trans (by simp [go_sem]); have k2 : w1.cell? ⟨w.heap.size, 2, none⟩ = some (.int .i64 mi) := (hb1.cell (p := ⟨w.heap.size, 2, none⟩) (by simp)).trans (by simp [go_sem]); clear hb1) | (go_at_call 13; refine (c_l21Text nm ls mi _ hn hs (by omega) (by omega)).mono ?_; rintro r_ w2 ⟨rfl, hb2⟩))
    go_ret
    exact ⟨rfl, hB1.trans (hb2.mono hz1)⟩
set_option maxHeartbeats 4000000 in
theorem c_iDrillText (nm ls : ByteArray) (mi : Int) (w : World) (hn : nm.size ≤ 1048576) (hs : ls.size ≤ 1048576) (ht : Tab w) :
    Calls Tryd.prog 8 #[.agg #[.string nm, .string ls, .int .i64 mi]] w fun e w' => e = .returned (.string (dtV nm ls mi)) ∧ Below w.heap.size w w' := by
  have hn2 : nm.size ≤ maxLen := by unfold maxLen; omega
  have hs2 : ls.size ≤ maxLen := by unfold maxLen; omega
  have HT0 := Lib.hid ht
  clear ht
  cases g : okDr (nm, ls, mi)
  · rw [dtV, g]
    have G1 := Lib.hid g
    clear g
    go_enter Tryd.func8, Tryd.ntmps8
    go_wp2_with (go_at_call 14; refine (c_validDrill nm ls mi _ G1.out _ hn2 hs2).mono ?_; rintro r_ w1 ⟨rfl, hb1⟩; have hB1 := later hb1 (w := w) (by (repeat' (first | (with_reducible exact Below.refl _ _) | (with_reducible assumption) | (with_reducible refine below_drewN ?_ _) | (with_reducible refine Below.drew ?_) | (with_reducible refine Below.alloc ?_ ?_ _) | (with_reducible refine Below.setCell ?_ ?_ _) | go_size))); have hz1 := hB1.size; have hy1 := hb1.size; obtain ⟨hc1, hf1⟩ := bcell hb1; (try simp only [World.size_alloc, World.heap_drewN] at hc1 hf1 hy1); clear hb1)
    go_ret
    exact ⟨rfl, by (repeat' (first | (with_reducible exact Below.refl _ _) | (with_reducible assumption) | (with_reducible refine below_drewN ?_ _) | (with_reducible refine Below.drew ?_) | (with_reducible refine Below.alloc ?_ ?_ _) | (with_reducible refine Below.setCell ?_ ?_ _) | go_size))⟩
  · rw [dtV, g, if_pos rfl]
    have G1 := Lib.hid g
    obtain ⟨m0, m1⟩ := okDr_mi g
    have hit := Lib.itoa_length_le mi (by omega) (by omega)
    have hsz : (sb (Lib.itoa mi)).size ≤ 21 := by rw [sb_size]; exact hit
    clear g hit
    go_enter Tryd.func8, Tryd.ntmps8
    go_wp2_with (go_at_call 14; refine (c_validDrill nm ls mi _ G1.out _ hn2 hs2).mono ?_; rintro r_ w1 ⟨rfl, hb1⟩; have hB1 := later hb1 (w := w) (by (repeat' (first | (with_reducible exact Below.refl _ _) | (with_reducible assumption) | (with_reducible refine below_drewN ?_ _) | (with_reducible refine Below.drew ?_) | (with_reducible refine Below.alloc ?_ ?_ _) | (with_reducible refine Below.setCell ?_ ?_ _) | go_size))); have hz1 := hB1.size; have hy1 := hb1.size; simp only [World.size_alloc] at hy1; have k0 : w1.cell? ⟨w.heap.size, 0, none⟩ = some (.string nm) := (hb1.cell (p := ⟨w.heap.size, 0, none⟩) (by simp)).trans (by simp [go_sem]); have k1 : w1.cell? ⟨w.heap.size, 1, none⟩ = some (.string ls) := (hb1.cell (p := ⟨w.heap.size, 1, none⟩) (by simp)).trans (by simp [go_sem]); have k2 : w1.cell? ⟨w.heap.size, 2, none⟩ = some (.int .i64 mi) := (hb1.cell (p := ⟨w.heap.size, 2, none⟩) (by simp)).trans (by simp [go_sem]); clear hb1; have HT := Lib.hid (HT0.out.later hB1); have hlt1 : w.heap.size < w1.heap.size := by omega)
    refine wp_region_below (by kernel_rfl) (by kernel_rfl) ?_
    repeat (go_big_quiet_step ((go_at_call 15; refine qBg (c_Decimal _ (by omega) (by omega) _ (HT.out.later (Later.h _))) (by simp) ?_; intro w_ h_; first | exact h_ | exact h_.below | (subst h_; exact Below.refl _ _) | (subst h_; (repeat' (first | (with_reducible exact Below.refl _ _) | (with_reducible assumption) | (with_reducible refine below_drewN ?_ _) | (with_reducible refine Below.drew ?_) | (with_reducible refine Below.alloc ?_ ?_ _) | (with_reducible refine Below.setCell ?_ ?_ _) | go_size))) | (obtain ⟨n_, rfl⟩ := h_; (repeat' (first | (with_reducible exact Below.refl _ _) | (with_reducible assumption) | (with_reducible refine below_drewN ?_ _) | (with_reducible refine Below.drew ?_) | (with_reducible refine Below.alloc ?_ ?_ _) | (with_reducible refine Below.setCell ?_ ?_ _) | go_size))))))
    refine wpQuiet_nil ?_
    intro _ hw'
    obtain ⟨⟨w9, hb9⟩, hw''⟩ := hw'
    subst hw''
    have hB9 := hB1.trans (hb9.mono hz1)
    go_wp2_with fail
    go_ret
    exact ⟨rfl, hB9⟩
end Go.Proofs.YtnjmjopbeojfoaaDoor
