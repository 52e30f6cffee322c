/- Contracts: carbon copies (the program). -/
import Derived.Test.YtdhlidpojobjmaaBt
import Derived.Test.YtdhlidpojobjmaaI64
namespace Go.Proofs.Ytdhlidpojobjmaa
open Go.RowKit Go.BigFrame
attribute [local go_sem] sub_cell sub_frozen drewN_setCell

/-- Carbon that is valid. -/
def OkC (F L M : Int) : Prop := 1 ≤ F ∧ F ≤ 1000 ∧ 1 ≤ L ∧ L ≤ 1000 ∧ 1 ≤ M ∧ M ≤ F
/-- How many copies are good. -/
def goodV (F L M : Int) : Int := min ((F - M) / L + 1) 12
abbrev cbn (F L M : Int) : Value := .agg #[.int .i64 F, .int .i64 L, .int .i64 M]
theorem betw_in {x a b : Int} (h1 : a ≤ x) (h2 : x ≤ b) : betw x a b = true := by simp [betw, h1, h2]
theorem goodV_bd {F L M : Int} (h : OkC F L M) : 1 ≤ goodV F L M ∧ goodV F L M ≤ 12 := by
  obtain ⟨h1, h2, h3, h4, h5, h6⟩ := h
  have := Int.ediv_nonneg (show 0 ≤ F - M by omega) (show 0 ≤ L by omega)
  unfold goodV
  omega
set_option maxHeartbeats 1000000 in
theorem c_ValidCarbon (F L M : Int) (w : World) (h : OkC F L M) :
    Calls Try.prog 36 #[cbn F L M] w fun e w' => e = .returned (.bool true) ∧ Below w.heap.size w w' := by
  obtain ⟨h1, h2, h3, h4, h5, h6⟩ := h
  have b1 : betw F 1 1000 = true := betw_in (by omega) (by omega)
  have b2 : betw M 1 1000 = true := betw_in (by omega) (by omega)
  have b3 : betw L 1 1000 = true := betw_in (by omega) (by omega)
  go_enter Try.func36, Try.ntmps36
  go_wp2_with (go_at_call 38; refine (c_between _ _ _ _ (by assumption) _).mono ?_; rintro r_ w1 ⟨rfl, rfl⟩)
  go_returns
  exact ⟨rfl, by (repeat' (first | (with_reducible exact Below.refl _ _) | (with_reducible assumption) | (with_reducible refine below_drewN ?_ _) | (with_reducible refine Below.drew ?_) | (with_reducible refine Below.alloc ?_ ?_ _) | (with_reducible refine Below.setCell ?_ ?_ _) | go_size))⟩
set_option maxHeartbeats 1000000 in
theorem c_good (F L M : Int) (w : World) (h : OkC F L M) :
    Calls Try.prog 37 #[cbn F L M] w fun e w' => e = .returned (.int .i64 (goodV F L M)) ∧ Below w.heap.size w w' := by
  obtain ⟨h1, h2, h3, h4, h5, h6⟩ := h
  have hne : (L == 0) = false := beq_eq_false_iff_ne.2 (by omega)
  have t1 : (F - M).tdiv L = (F - M) / L := Int.tdiv_eq_ediv_of_nonneg (by omega)
  have t2 : 0 ≤ (F - M) / L := Int.ediv_nonneg (by omega) (by omega)
  have t3 : (F - M) / L ≤ F - M := Int.ediv_le_self _ (by omega)
  go_enter Try.func37, Try.ntmps37
  go_wp2_with fail
  all_goals
    go_returns
    exact ⟨by rw [goodV, show min ((F - M) / L + 1) 12 = _ by first | exact Int.min_eq_left (by omega) | exact Int.min_eq_right (by omega)]; rfl, by (repeat' (first | (with_reducible exact Below.refl _ _) | (with_reducible assumption) | (with_reducible refine below_drewN ?_ _) | (with_reducible refine Below.drew ?_) | (with_reducible refine Below.alloc ?_ ?_ _) | (with_reducible refine Below.setCell ?_ ?_ _) | go_size))⟩
set_option maxHeartbeats 1000000 in
theorem c_GoodCopies (F L M : Int) (w : World) (h : OkC F L M) :
    Calls Try.prog 14 #[cbn F L M] w fun e w' => e = .returned (.tuple #[.int .i64 (goodV F L M), .int .i64 0]) ∧ Below w.heap.size w w' := by
  have hO := Lib.hid h
  clear h
  go_enter Try.func14, Try.ntmps14
  go_wp2_with (first
    | (go_at_call 36; refine (c_ValidCarbon _ _ _ _ hO.out).mono ?_; rintro r_ w1 ⟨rfl, hb1⟩; have hB1 := later hb1 (w := w) (by (repeat' (first | (with_reducible exact Below.refl _ _) | (with_reducible assumption) | (with_reducible refine below_drewN ?_ _) | (with_reducible refine Below.drew ?_) | (with_reducible refine Below.alloc ?_ ?_ _) | (with_reducible refine Below.setCell ?_ ?_ _) | go_size))); have hz1 := hB1.size; have hy1 := hb1.size; obtain ⟨hc1, hf1⟩ := bcell hb1; (try simp only [World.size_alloc, World.heap_drewN] at hc1 hf1 hy1); clear hb1; have hl1_0 : w.heap.size < w1.heap.size := (by omega))
    | (go_at_call 37; refine (c_good _ _ _ _ hO.out).mono ?_; rintro r_ w2 ⟨rfl, hb2⟩; have hB2 := later hb2 (w := w) (by (repeat' (first | (with_reducible exact Below.refl _ _) | (with_reducible assumption) | (with_reducible refine below_drewN ?_ _) | (with_reducible refine Below.drew ?_) | (with_reducible refine Below.alloc ?_ ?_ _) | (with_reducible refine Below.setCell ?_ ?_ _) | go_size))); have hz2 := hB2.size; have hy2 := hb2.size; obtain ⟨hc2, hf2⟩ := bcell hb2; (try simp only [World.size_alloc, World.heap_drewN] at hc2 hf2 hy2); clear hb2; have hl2_0 : w.heap.size < w2.heap.size := (by omega)))
  go_returns
  exact ⟨rfl, by (repeat' (first | (with_reducible exact Below.refl _ _) | (with_reducible assumption) | (with_reducible refine below_drewN ?_ _) | (with_reducible refine Below.drew ?_) | (with_reducible refine Below.alloc ?_ ?_ _) | (with_reducible refine Below.setCell ?_ ?_ _) | go_size))⟩
set_option maxHeartbeats 1000000 in
theorem c_StrengthAt (F L M s : Int) (w : World) (h : OkC F L M) (hs0 : 0 ≤ s) (hs1 : s ≤ 11) (hsL0 : 0 ≤ s * L) (hsL : s * L ≤ 11000) :
    Calls Try.prog 15 #[cbn F L M, .int .i64 s] w fun e w' => e = .returned (.tuple #[.int .i64 (max (F - s * L) 0), .int .i64 0]) ∧ Below w.heap.size w w' := by
  have hO := Lib.hid h
  obtain ⟨h1, h2, h3, h4, h5, h6⟩ := h
  have b1 : betw s 0 11 = true := betw_in (by omega) (by omega)
  go_enter Try.func15, Try.ntmps15
  go_wp2_with (first
    | (go_at_call 38; refine (c_between _ _ _ _ (by assumption) _).mono ?_; rintro r_ w1 ⟨rfl, rfl⟩)
    | (go_at_call 36; refine (c_ValidCarbon _ _ _ _ hO.out).mono ?_; rintro r_ w1 ⟨rfl, hb1⟩; have hB1 := later hb1 (w := w) (by (repeat' (first | (with_reducible exact Below.refl _ _) | (with_reducible assumption) | (with_reducible refine below_drewN ?_ _) | (with_reducible refine Below.drew ?_) | (with_reducible refine Below.alloc ?_ ?_ _) | (with_reducible refine Below.setCell ?_ ?_ _) | go_size))); have hz1 := hB1.size; have hy1 := hb1.size; obtain ⟨hc1, hf1⟩ := bcell hb1; (try simp only [World.size_alloc, World.heap_drewN] at hc1 hf1 hy1); clear hb1; have hl1_0 : w.heap.size < w1.heap.size := (by omega)))
  all_goals
    go_returns
    exact ⟨by rw [show max (F - s * L) 0 = _ by first | exact Int.max_eq_left (by omega) | exact Int.max_eq_right (by omega)]; rfl, by (repeat' (first | (with_reducible exact Below.refl _ _) | (with_reducible assumption) | (with_reducible refine below_drewN ?_ _) | (with_reducible refine Below.drew ?_) | (with_reducible refine Below.alloc ?_ ?_ _) | (with_reducible refine Below.setCell ?_ ?_ _) | go_size))⟩
set_option maxHeartbeats 1000000 in
theorem c_ForceFor (F L M s : Int) (w : World) (h : OkC F L M) (hs0 : 1 ≤ s) (hs1 : s ≤ 12) (hsL0 : 0 ≤ (s - 1) * L) (hsL : (s - 1) * L ≤ 11000) :
    Calls Try.prog 16 #[cbn F L M, .int .i64 s] w fun e w' => ∃ x e0 : Int, (if 1000 < M + (s - 1) * L then x = 0 ∧ e0 = 5 else x = M + (s - 1) * L ∧ e0 = 0) ∧ e = .returned (.tuple #[.int .i64 x, .int .i64 e0]) ∧ Below w.heap.size w w' := by
  have hO := Lib.hid h
  obtain ⟨h1, h2, h3, h4, h5, h6⟩ := h
  have b1 : betw s 1 12 = true := betw_in (by omega) (by omega)
  by_cases hb : 1000 < M + (s - 1) * L
  · go_enter Try.func16, Try.ntmps16
    go_wp2_with (first
      | (go_at_call 38; refine (c_between _ _ _ _ (by assumption) _).mono ?_; rintro r_ w1 ⟨rfl, rfl⟩)
      | (go_at_call 36; refine (c_ValidCarbon _ _ _ _ hO.out).mono ?_; rintro r_ w1 ⟨rfl, hb1⟩; have hB1 := later hb1 (w := w) (by (repeat' (first | (with_reducible exact Below.refl _ _) | (with_reducible assumption) | (with_reducible refine below_drewN ?_ _) | (with_reducible refine Below.drew ?_) | (with_reducible refine Below.alloc ?_ ?_ _) | (with_reducible refine Below.setCell ?_ ?_ _) | go_size))); have hz1 := hB1.size; have hy1 := hb1.size; obtain ⟨hc1, hf1⟩ := bcell hb1; (try simp only [World.size_alloc, World.heap_drewN] at hc1 hf1 hy1); clear hb1; have hl1_0 : w.heap.size < w1.heap.size := (by omega)))
    go_returns
    exact ⟨0, 5, by simp [hb], rfl, by (repeat' (first | (with_reducible exact Below.refl _ _) | (with_reducible assumption) | (with_reducible refine below_drewN ?_ _) | (with_reducible refine Below.drew ?_) | (with_reducible refine Below.alloc ?_ ?_ _) | (with_reducible refine Below.setCell ?_ ?_ _) | go_size))⟩
  · go_enter Try.func16, Try.ntmps16
    go_wp2_with (first
      | (go_at_call 38; refine (c_between _ _ _ _ (by assumption) _).mono ?_; rintro r_ w1 ⟨rfl, rfl⟩)
      | (go_at_call 36; refine (c_ValidCarbon _ _ _ _ hO.out).mono ?_; rintro r_ w1 ⟨rfl, hb1⟩; have hB1 := later hb1 (w := w) (by (repeat' (first | (with_reducible exact Below.refl _ _) | (with_reducible assumption) | (with_reducible refine below_drewN ?_ _) | (with_reducible refine Below.drew ?_) | (with_reducible refine Below.alloc ?_ ?_ _) | (with_reducible refine Below.setCell ?_ ?_ _) | go_size))); have hz1 := hB1.size; have hy1 := hb1.size; obtain ⟨hc1, hf1⟩ := bcell hb1; (try simp only [World.size_alloc, World.heap_drewN] at hc1 hf1 hy1); clear hb1; have hl1_0 : w.heap.size < w1.heap.size := (by omega)))
    go_returns
    exact ⟨M + (s - 1) * L, 0, by simp [hb], rfl, by (repeat' (first | (with_reducible exact Below.refl _ _) | (with_reducible assumption) | (with_reducible refine below_drewN ?_ _) | (with_reducible refine Below.drew ?_) | (with_reducible refine Below.alloc ?_ ?_ _) | (with_reducible refine Below.setCell ?_ ?_ _) | go_size))⟩
/-- How often a page is typed. -/
def typV (F L M k : Int) : Int := (k + goodV F L M - 1) / goodV F L M
set_option maxHeartbeats 1000000 in
theorem c_typings (F L M k : Int) (w : World) (h : OkC F L M) (hk0 : 0 ≤ k) (hk1 : k ≤ 500) :
    Calls Try.prog 39 #[cbn F L M, .int .i64 k] w fun e w' => e = .returned (.int .i64 (typV F L M k)) ∧ Below w.heap.size w w' := by
  have hO := Lib.hid h
  obtain ⟨g, hg⟩ : ∃ g, goodV F L M = g := ⟨_, rfl⟩
  obtain ⟨g1, g2⟩ := goodV_bd h
  rw [hg] at g1 g2
  have hne : (g == 0) = false := beq_eq_false_iff_ne.2 (by omega)
  have t1 : (k + g - 1).tdiv g = (k + g - 1) / g := Int.tdiv_eq_ediv_of_nonneg (by omega)
  have t2 : 0 ≤ (k + g - 1) / g := Int.ediv_nonneg (by omega) (by omega)
  have t3 : (k + g - 1) / g ≤ k + g - 1 := Int.ediv_le_self _ (by omega)
  have HG : Hid (∀ w : World, Calls Try.prog 37 #[cbn F L M] w fun e w' => e = .returned (.int .i64 g) ∧ Below w.heap.size w w') := fun w => hg ▸ c_good F L M w hO.out
  have HV : Hid (typV F L M k = (k + g - 1) / g) := by rw [← hg]; rfl
  clear h hO hg
  go_enter Try.func39, Try.ntmps39
  go_wp2_with fail
  refine wp_region_below (by kernel_rfl) (by kernel_rfl) ?_
  repeat (go_big_quiet_step ((go_at_call 37; refine qBg (HG.out _) (by simp) ?_; intro w_ h_; first | exact h_ | exact h_.below | (subst h_; exact Below.refl _ _) | (subst h_; (repeat' (first | (with_reducible exact Below.refl _ _) | (with_reducible assumption) | (with_reducible refine below_drewN ?_ _) | (with_reducible refine Below.drew ?_) | (with_reducible refine Below.alloc ?_ ?_ _) | (with_reducible refine Below.setCell ?_ ?_ _) | go_size))) | (obtain ⟨n_, rfl⟩ := h_; (repeat' (first | (with_reducible exact Below.refl _ _) | (with_reducible assumption) | (with_reducible refine below_drewN ?_ _) | (with_reducible refine Below.drew ?_) | (with_reducible refine Below.alloc ?_ ?_ _) | (with_reducible refine Below.setCell ?_ ?_ _) | go_size))))))
  refine wpQuiet_nil ?_
  intro _ hw'
  obtain ⟨⟨w9, hb9⟩, hw''⟩ := hw'
  subst hw''
  go_wp2_with fail
  go_returns
  exact ⟨by rw [HV.out]; rfl, (((Below.refl w.heap.size w).alloc (Nat.le_refl _) _)).trans (hb9.mono (by simp))⟩
set_option maxHeartbeats 1000000 in
theorem c_TypingsFor (F L M s : Int) (w : World) (h : OkC F L M) (hs0 : 0 ≤ s) (hs1 : s ≤ 500) :
    Calls Try.prog 17 #[cbn F L M, .int .i64 s] w fun e w' => e = .returned (.tuple #[.int .i64 (typV F L M s), .int .i64 0]) ∧ Below w.heap.size w w' := by
  have hO := Lib.hid h
  clear h
  have b1 : betw s 0 500 = true := betw_in (by omega) (by omega)
  go_enter Try.func17, Try.ntmps17
  go_wp2_with (first
    | (go_at_call 38; refine (c_between _ _ _ _ (by assumption) _).mono ?_; rintro r_ w1 ⟨rfl, rfl⟩)
    | (go_at_call 39; refine (c_typings _ _ _ _ _ hO.out hs0 hs1).mono ?_; rintro r_ w2 ⟨rfl, hb2⟩; have hB2 := later hb2 (w := w) (by (repeat' (first | (with_reducible exact Below.refl _ _) | (with_reducible assumption) | (with_reducible refine below_drewN ?_ _) | (with_reducible refine Below.drew ?_) | (with_reducible refine Below.alloc ?_ ?_ _) | (with_reducible refine Below.setCell ?_ ?_ _) | go_size))); have hz2 := hB2.size; have hy2 := hb2.size; obtain ⟨hc2, hf2⟩ := bcell hb2; (try simp only [World.size_alloc, World.heap_drewN] at hc2 hf2 hy2); clear hb2; have hl2_0 : w.heap.size < w2.heap.size := (by omega))
    | (go_at_call 36; refine (c_ValidCarbon _ _ _ _ hO.out).mono ?_; rintro r_ w1 ⟨rfl, hb1⟩; have hB1 := later hb1 (w := w) (by (repeat' (first | (with_reducible exact Below.refl _ _) | (with_reducible assumption) | (with_reducible refine below_drewN ?_ _) | (with_reducible refine Below.drew ?_) | (with_reducible refine Below.alloc ?_ ?_ _) | (with_reducible refine Below.setCell ?_ ?_ _) | go_size))); have hz1 := hB1.size; have hy1 := hb1.size; obtain ⟨hc1, hf1⟩ := bcell hb1; (try simp only [World.size_alloc, World.heap_drewN] at hc1 hf1 hy1); clear hb1; have hl1_0 : w.heap.size < w1.heap.size := (by omega)))
  go_returns
  exact ⟨rfl, by (repeat' (first | (with_reducible exact Below.refl _ _) | (with_reducible assumption) | (with_reducible refine below_drewN ?_ _) | (with_reducible refine Below.drew ?_) | (with_reducible refine Below.alloc ?_ ?_ _) | (with_reducible refine Below.setCell ?_ ?_ _) | go_size))⟩
end Go.Proofs.Ytdhlidpojobjmaa
