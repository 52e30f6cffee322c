/- The walk of the law FnExactDrillText: it returns true, and what was there stays as it was. -/
import Derived.Test.YtnjmjopbeojfoaaDoorDt
namespace Go.Proofs.YtnjmjopbeojfoaaDoor.fnExactDrillText
open Go.RowKit Go.BigFrame
attribute [local go_sem] sub_cell sub_frozen drewN_setCell

set_option maxHeartbeats 4000000 in
theorem walk (a0_0 : ByteArray) (a0_1 : ByteArray) (a0_2 : Int) (w : World) (w0_0 : a0_0.size ≤ maxLen) (w0_1 : a0_1.size ≤ maxLen) (w0_2 : (Lit.int .i64 a0_2).wf = true) (ht : Tab w) :
    Calls Tryd.prog 3 #[.agg #[.string a0_0, .string a0_1, .int .i64 a0_2]] w fun e w' => e = .returned (.bool true) ∧ Below w.heap.size w w' := by
  have hw0 : (0 : Int) ≤ ((a0_0.size + a0_1.size : Nat) : Int) := by omega
  by_cases hq0 : 0 ≤ (1048576 : Int) - ((a0_0.size + a0_1.size : Nat) : Int)
  rotate_left
  · have H0 := Lib.hid (fun W => c_szDrill a0_0 a0_1 a0_2 ((1048576 : Int)) (-1) (szV_neg (n := a0_0.size + a0_1.size) (left := (1048576 : Int)) (by omega)) (by omega) (by omega) w0_0 w0_1 W)
    go_enter Tryd.func3, Tryd.ntmps3
    go_wp2_with fail
    refine (H0.out _).mono ?_
    rintro r_ wz1 ⟨rfl, bz1⟩
    have z1 := later bz1 (w := w) (by (repeat' (first | (with_reducible exact Below.refl _ _) | (with_reducible assumption) | (with_reducible refine below_drewN ?_ _) | (with_reducible refine Below.drew ?_) | (with_reducible refine Below.alloc ?_ ?_ _) | (with_reducible refine Below.setCell ?_ ?_ _) | go_size)))
    go_wp2_with fail
    go_returns
    exact ⟨rfl, z1⟩
  have H0 := Lib.hid (fun W => c_szDrill a0_0 a0_1 a0_2 ((1048576 : Int)) ((1048576 : Int) - ((a0_0.size + a0_1.size : Nat) : Int)) (szV_pos (n := a0_0.size + a0_1.size) (left := (1048576 : Int)) hq0) (by omega) (by omega) w0_0 w0_1 W)
  obtain ⟨v, hv_v⟩ : ∃ z : ByteArray, dtV a0_0 a0_1 a0_2 = z := ⟨_, rfl⟩
  have hn : a0_0.size ≤ 1048576 := by omega
  have hs : a0_1.size ≤ 1048576 := by omega
  have HT := Lib.hid ht
  have C1 : Hid (∀ (W : World), Calls Tryd.prog 6 #[.agg #[.string a0_0, .string a0_1, .int .i64 a0_2]] W (fun e w' => e = .returned (.string v) ∧ Below W.heap.size W w')) := fun W => hv_v ▸ c_sDrillText _ _ _ W hn hs
  have C2 : Hid (∀ (W : World), Tab W → Calls Tryd.prog 8 #[.agg #[.string a0_0, .string a0_1, .int .i64 a0_2]] W (fun e w' => e = .returned (.string v) ∧ Below W.heap.size W w')) := fun W h => hv_v ▸ c_iDrillText _ _ _ W hn hs h
  clear hv_v ht
  go_enter Tryd.func3, Tryd.ntmps3
  go_wp2_with (first
    | (go_at_call 5; refine (H0.out _).mono ?_; rintro r_ w1 ⟨rfl, hb1⟩; have hB1 := later hb1 (w := w) (by (repeat' (first | (with_reducible exact Below.refl _ _) | (with_reducible assumption) | (with_reducible refine below_drewN ?_ _) | (with_reducible refine Below.drew ?_) | (with_reducible refine Below.alloc ?_ ?_ _) | (with_reducible refine Below.setCell ?_ ?_ _) | go_size))); have hl1 : w.heap.size < w1.heap.size := (by have := hb1.size; simp at this; omega); have k0 : w1.cell? ⟨w.heap.size, 0, none⟩ = some (.string a0_0) := (hb1.cell (p := ⟨w.heap.size, 0, none⟩) (by simp)).trans (by simp [go_sem]); have k1 : w1.cell? ⟨w.heap.size, 1, none⟩ = some (.string a0_1) := (hb1.cell (p := ⟨w.heap.size, 1, none⟩) (by simp)).trans (by simp [go_sem]); have k2 : w1.cell? ⟨w.heap.size, 2, none⟩ = some (.int .i64 a0_2) := (hb1.cell (p := ⟨w.heap.size, 2, none⟩) (by simp)).trans (by simp [go_sem]); clear hb1)
    | (go_at_call 7; refine (c_toDrill _ _ _ _).mono ?_; rintro r_ w_ ⟨rfl, rfl⟩)
    | (go_at_call 6; refine (C1.out _).mono ?_; rintro r_ w2 ⟨rfl, hb2⟩; have hB2 := later hb2 (w := w) (by (repeat' (first | (with_reducible exact Below.refl _ _) | (with_reducible assumption) | (with_reducible refine below_drewN ?_ _) | (with_reducible refine Below.drew ?_) | (with_reducible refine Below.alloc ?_ ?_ _) | (with_reducible refine Below.setCell ?_ ?_ _) | go_size))); have hbb := later hb2 (w := w1) (by (repeat' (first | (with_reducible exact Below.refl _ _) | (with_reducible assumption) | (with_reducible refine below_drewN ?_ _) | (with_reducible refine Below.drew ?_) | (with_reducible refine Below.alloc ?_ ?_ _) | (with_reducible refine Below.setCell ?_ ?_ _) | go_size))); have hl2 := Nat.lt_of_lt_of_le hl1 hbb.size; have j0 := (hbb.cell (p := ⟨w.heap.size, 0, none⟩) hl1).trans k0; have j1 := (hbb.cell (p := ⟨w.heap.size, 1, none⟩) hl1).trans k1; have j2 := (hbb.cell (p := ⟨w.heap.size, 2, none⟩) hl1).trans k2; clear hb2)
    | (go_at_call 8; refine (C2.out _ (HT.out.later (by (repeat' (first | (with_reducible exact Below.refl _ _) | (with_reducible assumption) | (with_reducible refine below_drewN ?_ _) | (with_reducible refine Below.drew ?_) | (with_reducible refine Below.alloc ?_ ?_ _) | (with_reducible refine Below.setCell ?_ ?_ _) | go_size))))).mono ?_; rintro r_ w3 ⟨rfl, hb3⟩; have hB3 := later hb3 (w := w) (by (repeat' (first | (with_reducible exact Below.refl _ _) | (with_reducible assumption) | (with_reducible refine below_drewN ?_ _) | (with_reducible refine Below.drew ?_) | (with_reducible refine Below.alloc ?_ ?_ _) | (with_reducible refine Below.setCell ?_ ?_ _) | go_size))); clear hb3))
  go_returns
  exact ⟨rfl, by (repeat' (first | (with_reducible exact Below.refl _ _) | (with_reducible assumption) | (with_reducible refine below_drewN ?_ _) | (with_reducible refine Below.drew ?_) | (with_reducible refine Below.alloc ?_ ?_ _) | (with_reducible refine Below.setCell ?_ ?_ _) | go_size))⟩
end Go.Proofs.YtnjmjopbeojfoaaDoor.fnExactDrillText
