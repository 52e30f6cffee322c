/- Contracts: bars and strokes (the program). -/
import Derived.Test.YtgigdipbfcffiaaBt
import Derived.Test.YtgigdipbfcffiaaZs
import Derived.Test.YtgigdipbfcffiaaAq
import Derived.Test.YtgigdipbfcffiaaJm
namespace Go.Proofs.Ytgigdipbfcffiaa
open Go.RowKit Go.BigFrame
attribute [local go_sem] sub_cell sub_frozen drewN_setCell

/-- A basket that is valid. -/
def OkK (B R F C N : Int) : Prop := 2 ≤ B ∧ B ≤ 60 ∧ 1 ≤ R ∧ R ≤ 100 ∧ 1 ≤ F ∧ F ≤ 100 ∧ 1 ≤ C ∧ C ≤ 100 ∧ 0 ≤ N ∧ N ≤ 100
abbrev bkt (B R F C N : Int) : Value := .agg #[.int .i64 B, .int .i64 R, .int .i64 F, .int .i64 C, .int .i64 N]
abbrev stv (s t : Int) : Value := .agg #[.int .i64 s, .int .i64 t]
def absV (x : Int) : Int := if x < 0 then -x else x
def waitV (R F C N a c : Int) : Int := if a = c then R + F else C + max (N - absV (a - c)) 0
/-- Two strokes jam. -/
def jmV (R F C N : Int) (s t : Int × Int) : Bool := decide (absV (s.2 - t.2) < waitV R F C N s.1 t.1)
theorem betw_in {x a b : Int} (h1 : a ≤ x) (h2 : x ≤ b) : betw x a b = true := by simp [betw, h1, h2]
theorem absV_bd {x m : Int} (h0 : -m ≤ x) (h1 : x ≤ m) : 0 ≤ absV x ∧ absV x ≤ m := by
  unfold absV
  split <;> omega
theorem waitV_bd {B R F C N a c : Int} (h : OkK B R F C N) (a0 : 0 ≤ a) (a1 : a ≤ 60) (c0 : 0 ≤ c) (c1 : c ≤ 60) : 1 ≤ waitV R F C N a c ∧ waitV R F C N a c ≤ 200 := by
  obtain ⟨h1, h2, h3, h4, h5, h6, h7, h8, h9, h10⟩ := h
  have := absV_bd (x := a - c) (m := 60) (by omega) (by omega)
  unfold waitV
  split <;> omega
theorem waitV_symm {R F C N a c : Int} : waitV R F C N a c = waitV R F C N c a := by
  by_cases h : a = c
  · rw [h]
  · have h2 : c ≠ a := fun e => h e.symm
    have e : absV (a - c) = absV (c - a) := by
      unfold absV
      split <;> split <;> omega
    rw [waitV, waitV, if_neg h, if_neg h2, e]

set_option maxHeartbeats 400000 in
theorem c_absolute (x : Int) (w : World) (h0 : -2000000 ≤ x) (h1 : x ≤ 2000000) :
    Calls Try.prog 46 #[.int .i64 x] w fun e w' => e = .returned (.int .i64 (absV x)) ∧ w = w' := by
  unfold absV
  by_cases h : x < 0
  all_goals
    go_enter Try.func46, Try.ntmps46
    go_wp2_with fail
    go_ret
    simp [*]
set_option maxHeartbeats 1000000 in
theorem c_waits (B R F C N a c : Int) (h : OkK B R F C N) (a0 : 0 ≤ a) (a1 : a ≤ 60) (c0 : 0 ≤ c) (c1 : c ≤ 60) (w : World) :
    Calls Try.prog 38 #[bkt B R F C N, .int .i64 a, .int .i64 c] w fun e w' => e = .returned (.int .i64 (waitV R F C N a c)) ∧ Below w.heap.size w w' := by
  obtain ⟨h1, h2, h3, h4, h5, h6, h7, h8, h9, h10⟩ := h
  by_cases hac : a = c
  · subst hac
    have HV : Hid (waitV R F C N a a = R + F) := Lib.hid (if_pos rfl)
    go_enter Try.func38, Try.ntmps38
    go_wp2_with fail
    go_returns
    exact ⟨by rw [HV.out]; rfl, by (repeat' (first | (with_reducible exact Below.refl _ _) | (with_reducible assumption) | (with_reducible refine below_drewN ?_ _) | (with_reducible refine Below.drew ?_) | (with_reducible refine Below.alloc ?_ ?_ _) | (with_reducible refine Below.setCell ?_ ?_ _) | go_size))⟩
  · have t1 : (a == c) = false := beq_eq_false_iff_ne.2 hac
    have HV : Hid (waitV R F C N a c = C + max (N - absV (a - c)) 0) := Lib.hid (if_neg hac)
    have HG := Lib.hid (fun w => c_absolute (a - c) w (by omega) (by omega))
    have hd := absV_bd (x := a - c) (m := 60) (by omega) (by omega)
    clear hac
    generalize absV (a - c) = d at *
    by_cases hm : N - d < 0
    all_goals
      go_enter Try.func38, Try.ntmps38
      go_wp2_with fail
      refine wp_region_below (by kernel_rfl) (by kernel_rfl) ?_
      repeat (go_big_quiet_step ((go_at_call 46; refine qBg (HG.out _) (by simp) ?_; intro w_ h_; first | exact h_ | exact h_.below | (subst h_; exact Below.refl _ _) | (subst h_; (repeat' (first | (with_reducible exact Below.refl _ _) | (with_reducible assumption) | (with_reducible refine below_drewN ?_ _) | (with_reducible refine Below.drew ?_) | (with_reducible refine Below.alloc ?_ ?_ _) | (with_reducible refine Below.setCell ?_ ?_ _) | go_size))) | (obtain ⟨n_, rfl⟩ := h_; (repeat' (first | (with_reducible exact Below.refl _ _) | (with_reducible assumption) | (with_reducible refine below_drewN ?_ _) | (with_reducible refine Below.drew ?_) | (with_reducible refine Below.alloc ?_ ?_ _) | (with_reducible refine Below.setCell ?_ ?_ _) | go_size))))))
      refine wpQuiet_nil ?_
      intro _ hw'
      obtain ⟨⟨w9, hb9⟩, hw''⟩ := hw'
      subst hw''
      go_wp2_with fail
      go_returns
      exact ⟨by rw [HV.out, show max (N - d) 0 = _ by first | exact Int.max_eq_left (by omega) | exact Int.max_eq_right (by omega)]; first | rfl | simp, (((Below.refl w.heap.size w).alloc (Nat.le_refl _) _)).trans (hb9.mono (by simp))⟩
set_option maxHeartbeats 1000000 in
theorem c_jams (B R F C N : Int) (s t : Int × Int) (r : Bool) (h : OkK B R F C N) (hr : jmV R F C N s t = r) (a0 : 0 ≤ s.1) (a1 : s.1 ≤ 60) (c0 : 0 ≤ t.1) (c1 : t.1 ≤ 60) (s0 : 0 ≤ s.2) (s1 : s.2 ≤ 1000000) (t0 : 0 ≤ t.2) (t1 : t.2 ≤ 1000000) (w : World) :
    Calls Try.prog 35 #[bkt B R F C N, stv s.1 s.2, stv t.1 t.2] w fun e w' => e = .returned (.bool r) ∧ Below w.heap.size w w' := by
  obtain ⟨a, x⟩ := s
  obtain ⟨c, y⟩ := t
  simp only at *
  have HG := Lib.hid (fun w => c_absolute (x - y) w (by omega) (by omega))
  have HWT := Lib.hid (fun w => c_waits B R F C N a c h a0 a1 c0 c1 w)
  have hd := absV_bd (x := x - y) (m := 1000000) (by omega) (by omega)
  have hw := waitV_bd h a0 a1 c0 c1
  have hr2 : decide (absV (x - y) < waitV R F C N a c) = r := hr
  clear hr h
  generalize absV (x - y) = d at *
  generalize waitV R F C N a c = v at *
  go_enter Try.func35, Try.ntmps35
  go_wp2_with fail
  refine wp_region_below (by kernel_rfl) (by kernel_rfl) ?_
  repeat (go_big_quiet_step ((first | (go_at_call 46; refine qBg (HG.out _) (by simp) ?_; intro w_ h_; first | exact h_ | exact h_.below | (subst h_; exact Below.refl _ _) | (subst h_; (repeat' (first | (with_reducible exact Below.refl _ _) | (with_reducible assumption) | (with_reducible refine below_drewN ?_ _) | (with_reducible refine Below.drew ?_) | (with_reducible refine Below.alloc ?_ ?_ _) | (with_reducible refine Below.setCell ?_ ?_ _) | go_size))) | (obtain ⟨n_, rfl⟩ := h_; (repeat' (first | (with_reducible exact Below.refl _ _) | (with_reducible assumption) | (with_reducible refine below_drewN ?_ _) | (with_reducible refine Below.drew ?_) | (with_reducible refine Below.alloc ?_ ?_ _) | (with_reducible refine Below.setCell ?_ ?_ _) | go_size)))) | (go_at_call 38; refine qBg (HWT.out _) (by simp) ?_; intro w_ h_; first | exact h_ | exact h_.below | (subst h_; exact Below.refl _ _) | (subst h_; (repeat' (first | (with_reducible exact Below.refl _ _) | (with_reducible assumption) | (with_reducible refine below_drewN ?_ _) | (with_reducible refine Below.drew ?_) | (with_reducible refine Below.alloc ?_ ?_ _) | (with_reducible refine Below.setCell ?_ ?_ _) | go_size))) | (obtain ⟨n_, rfl⟩ := h_; (repeat' (first | (with_reducible exact Below.refl _ _) | (with_reducible assumption) | (with_reducible refine below_drewN ?_ _) | (with_reducible refine Below.drew ?_) | (with_reducible refine Below.alloc ?_ ?_ _) | (with_reducible refine Below.setCell ?_ ?_ _) | go_size)))))))
  refine wpQuiet_nil ?_
  intro _ hw'
  obtain ⟨⟨w9, hb9⟩, hw''⟩ := hw'
  subst hw''
  go_wp2_with fail
  go_returns
  exact ⟨by simp [*], ((((Below.refl w.heap.size w).alloc (Nat.le_refl _) _).alloc (by simp) _).alloc (by simp; omega) _).trans (hb9.mono (by simp; omega))⟩
set_option maxHeartbeats 1000000 in
theorem c_hasBar (B R F C N n : Int) (h : OkK B R F C N) (h0 : 0 ≤ n) (h1 : n < B) (w : World) :
    Calls Try.prog 37 #[bkt B R F C N, .int .i64 n] w fun e w' => e = .returned (.bool true) ∧ Below w.heap.size w w' := by
  obtain ⟨h1, h2, h3, h4, h5, h6, h7, h8, h9, h10⟩ := h
  have b1 : betw n 0 (B - 1) = true := betw_in (by omega) (by omega)
  go_enter Try.func37, Try.ntmps37
  go_wp2_with (go_at_call 41; refine (c_between _ _ _ _ (by assumption) _).mono ?_; rintro r_ w1 ⟨rfl, rfl⟩)
  go_returns
  exact ⟨rfl, by (repeat' (first | (with_reducible exact Below.refl _ _) | (with_reducible assumption) | (with_reducible refine below_drewN ?_ _) | (with_reducible refine Below.drew ?_) | (with_reducible refine Below.alloc ?_ ?_ _) | (with_reducible refine Below.setCell ?_ ?_ _) | go_size))⟩
set_option maxHeartbeats 1000000 in
theorem c_ValidBasket (B R F C N : Int) (h : OkK B R F C N) (w : World) :
    Calls Try.prog 36 #[bkt B R F C N] w fun e w' => e = .returned (.bool true) ∧ Below w.heap.size w w' := by
  obtain ⟨h1, h2, h3, h4, h5, h6, h7, h8, h9, h10⟩ := h
  have b1 : betw B 2 60 = true := betw_in (by omega) (by omega)
  have b2 : betw R 1 100 = true := betw_in (by omega) (by omega)
  have b3 : betw F 1 100 = true := betw_in (by omega) (by omega)
  have b4 : betw C 1 100 = true := betw_in (by omega) (by omega)
  have b5 : betw N 0 100 = true := betw_in (by omega) (by omega)
  go_enter Try.func36, Try.ntmps36
  go_wp2_with (go_at_call 41; refine (c_between _ _ _ _ (by assumption) _).mono ?_; rintro r_ w1 ⟨rfl, rfl⟩)
  go_returns
  exact ⟨rfl, by (repeat' (first | (with_reducible exact Below.refl _ _) | (with_reducible assumption) | (with_reducible refine below_drewN ?_ _) | (with_reducible refine Below.drew ?_) | (with_reducible refine Below.alloc ?_ ?_ _) | (with_reducible refine Below.setCell ?_ ?_ _) | go_size))⟩
set_option maxHeartbeats 1000000 in
theorem c_MustWait (B R F C N a c : Int) (h : OkK B R F C N) (a0 : 0 ≤ a) (a1 : a < B) (c0 : 0 ≤ c) (c1 : c < B) (w : World) :
    Calls Try.prog 23 #[bkt B R F C N, .int .i64 a, .int .i64 c] w fun e w' => e = .returned (.tuple #[.int .i64 (waitV R F C N a c), .int .i64 0]) ∧ Below w.heap.size w w' := by
  have h60 : B ≤ 60 := h.2.1
  have C1 := Lib.hid (fun w => c_hasBar B R F C N a h a0 a1 w)
  have C2 := Lib.hid (fun w => c_hasBar B R F C N c h c0 c1 w)
  have C3 := Lib.hid (fun w => c_ValidBasket B R F C N h w)
  have C4 := Lib.hid (fun w => c_waits B R F C N a c h a0 (by omega) c0 (by omega) w)
  clear h
  generalize waitV R F C N a c = v at *
  go_enter Try.func23, Try.ntmps23
  go_wp2_with fail
  refine (C3.out _).mono ?_
  rintro r_ w1 ⟨rfl, hb1⟩
  have hB1 := later hb1 (w := w) (by (repeat' (first | (with_reducible exact Below.refl _ _) | (with_reducible assumption) | (with_reducible refine below_drewN ?_ _) | (with_reducible refine Below.drew ?_) | (with_reducible refine Below.alloc ?_ ?_ _) | (with_reducible refine Below.setCell ?_ ?_ _) | go_size))); have hz1 := hB1.size; have hy1 := hb1.size; obtain ⟨hc1, hf1⟩ := bcell hb1; (try simp only [World.size_alloc, World.heap_drewN] at hc1 hf1 hy1); clear hb1; have hl1_0 : w.heap.size < w1.heap.size := (by omega)
  go_wp2_with fail
  refine (C1.out _).mono ?_
  rintro r_ w2 ⟨rfl, hb2⟩
  have hB2 := later hb2 (w := w) (by (repeat' (first | (with_reducible exact Below.refl _ _) | (with_reducible assumption) | (with_reducible refine below_drewN ?_ _) | (with_reducible refine Below.drew ?_) | (with_reducible refine Below.alloc ?_ ?_ _) | (with_reducible refine Below.setCell ?_ ?_ _) | go_size))); have hz2 := hB2.size; have hy2 := hb2.size; obtain ⟨hc2, hf2⟩ := bcell hb2; (try simp only [World.size_alloc, World.heap_drewN] at hc2 hf2 hy2); clear hb2; have hl2_0 : w.heap.size < w2.heap.size := (by omega)
  go_wp2_with fail
  refine (C2.out _).mono ?_
  rintro r_ w3 ⟨rfl, hb3⟩
  have hB3 := later hb3 (w := w) (by (repeat' (first | (with_reducible exact Below.refl _ _) | (with_reducible assumption) | (with_reducible refine below_drewN ?_ _) | (with_reducible refine Below.drew ?_) | (with_reducible refine Below.alloc ?_ ?_ _) | (with_reducible refine Below.setCell ?_ ?_ _) | go_size))); have hz3 := hB3.size; have hy3 := hb3.size; obtain ⟨hc3, hf3⟩ := bcell hb3; (try simp only [World.size_alloc, World.heap_drewN] at hc3 hf3 hy3); clear hb3; have hl3_0 : w.heap.size < w3.heap.size := (by omega)
  go_wp2_with fail
  refine (C4.out _).mono ?_
  rintro r_ w4 ⟨rfl, hb4⟩
  have hB4 := later hb4 (w := w) (by (repeat' (first | (with_reducible exact Below.refl _ _) | (with_reducible assumption) | (with_reducible refine below_drewN ?_ _) | (with_reducible refine Below.drew ?_) | (with_reducible refine Below.alloc ?_ ?_ _) | (with_reducible refine Below.setCell ?_ ?_ _) | go_size))); have hz4 := hB4.size; have hy4 := hb4.size; obtain ⟨hc4, hf4⟩ := bcell hb4; (try simp only [World.size_alloc, World.heap_drewN] at hc4 hf4 hy4); clear hb4; have hl4_0 : w.heap.size < w4.heap.size := (by omega)
  go_wp2_with fail
  go_returns
  exact ⟨rfl, by (repeat' (first | (with_reducible exact Below.refl _ _) | (with_reducible assumption) | (with_reducible refine below_drewN ?_ _) | (with_reducible refine Below.drew ?_) | (with_reducible refine Below.alloc ?_ ?_ _) | (with_reducible refine Below.setCell ?_ ?_ _) | go_size))⟩
end Go.Proofs.Ytgigdipbfcffiaa
