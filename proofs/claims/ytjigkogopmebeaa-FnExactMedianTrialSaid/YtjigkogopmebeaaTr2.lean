/- Contracts: slower tests; the codes of functions of tests. -/
import Derived.Test.YtjigkogopmebeaaTr
namespace Go.Proofs.Ytjigkogopmebeaa
open Go.RowKit Go.BigFrame
attribute [local go_sem] sub_cell sub_frozen drewN_setCell

abbrev Tri := Int × Int × Int
/-- The first test is slower than the second. -/
def slowB (pe : Int) (x y : Tri) : Bool := decide (netI x.1 x.2.1 pe * y.2.2 < netI y.1 y.2.1 pe * x.2.2)
theorem slowB_self (pe : Int) (x : Tri) : slowB pe x x = false := by simp [slowB]
/-- A valid test. -/
def okB (s e t : Int) : Prop := (0 ≤ s ∧ s ≤ 100000) ∧ (0 ≤ e ∧ e ≤ 100000) ∧ (1 ≤ t ∧ t ≤ 7200)
theorem okB_of {s e t : Int} (h : vtr s e t = true) : okB s e t := by
  have := vtr_bounds h
  exact ⟨⟨by omega, by omega⟩, ⟨by omega, by omega⟩, ⟨by omega, by omega⟩⟩

set_option maxHeartbeats 1000000 in
theorem c_l20Less (s e t s' e' t' pe : Int) (b o b' o' : Nat) (r : Bool) (h : slowB pe (s, e, t) (s', e', t') = r) (w : World) (hv : okB s e t) (hv' : okB s' e' t') (hp : 0 ≤ pe ∧ pe ≤ 50)
    (h0 : w.cell? ⟨b, o, none⟩ = some (.int .i64 s)) (h1 : w.cell? ⟨b, o + 1, none⟩ = some (.int .i64 e)) (h2 : w.cell? ⟨b, o + 2, none⟩ = some (.int .i64 t))
    (h0' : w.cell? ⟨b', o', none⟩ = some (.int .i64 s')) (h1' : w.cell? ⟨b', o' + 1, none⟩ = some (.int .i64 e')) (h2' : w.cell? ⟨b', o' + 2, none⟩ = some (.int .i64 t')) :
    Calls Try.prog 10 #[.pointer (some ⟨b, o, none⟩), .pointer (some ⟨b', o', none⟩), .int .i64 pe] w fun z w' => z = .returned (.bool r) ∧ Draws w w' := by
  obtain ⟨vs, ve, vt⟩ := hv
  obtain ⟨vs', ve', vt'⟩ := hv'
  have n1 := netI_bd vs ve hp
  have n2 := netI_bd vs' ve' hp
  have m1 := mul_bd n1.1 n1.2 (b := t') (by omega) vt'.2
  have m2 := mul_bd n2.1 n2.2 (b := t) (by omega) vt.2
  have w1 : IntKind.i64.wrap (netI s e pe * t') = netI s e pe * t' := IntWalk.i64_in _ (by omega)
  have w2 : IntKind.i64.wrap (netI s' e' pe * t) = netI s' e' pe * t := IntWalk.i64_in _ (by omega)
  have H : Hid (decide (netI s e pe * t' < netI s' e' pe * t) = r) := h
  clear h
  go_enter Try.func10, Try.ntmps10
  go_wp2_with fail
  go_quiet (first | (go_at_call_of 19 b; exact d0 (c_l20Net s e _ b o _ vs ve hp h0 h1)) | (go_at_call_of 19 b'; exact d0 (c_l20Net s' e' _ b' o' _ vs' ve' hp h0' h1')))
  go_wp2_with fail
  go_ret
  exact ⟨by rw [← H.out]; rfl, draws_N _ _⟩

set_option maxHeartbeats 1000000 in
theorem c_slower (s e t s' e' t' pe : Int) (r : Bool) (h : slowB pe (s, e, t) (s', e', t') = r) (w : World) (hv : okB s e t) (hv' : okB s' e' t') (hp : 0 ≤ pe ∧ pe ≤ 50) :
    Calls Try.prog 16 #[.agg #[.int .i64 s, .int .i64 e, .int .i64 t], .agg #[.int .i64 s', .int .i64 e', .int .i64 t'], .int .i64 pe] w fun z w' => z = .returned (.bool r) ∧ Below w.heap.size w w' := by
  obtain ⟨vs, ve, vt⟩ := hv
  obtain ⟨vs', ve', vt'⟩ := hv'
  have n1 := netI_bd vs ve hp
  have n2 := netI_bd vs' ve' hp
  have m1 := mul_bd n1.1 n1.2 (b := t') (by omega) vt'.2
  have m2 := mul_bd n2.1 n2.2 (b := t) (by omega) vt.2
  have w1 : IntKind.i64.wrap (netI s e pe * t') = netI s e pe * t' := IntWalk.i64_in _ (by omega)
  have w2 : IntKind.i64.wrap (netI s' e' pe * t) = netI s' e' pe * t := IntWalk.i64_in _ (by omega)
  have H : Hid (decide (netI s e pe * t' < netI s' e' pe * t) = r) := h
  clear h
  go_enter Try.func16, Try.ntmps16
  go_wp2_with fail
  refine wp_region_below (by kernel_rfl) (by kernel_rfl) ?_
  repeat (go_big_quiet_step ((go_at_call 26; refine qBg (c_net _ _ _ _ _ (by assumption) (by assumption) (by assumption)) (by simp) ?_; intro w_ h_; first | exact h_ | exact h_.below | (subst h_; exact Below.refl _ _) | (subst h_; (repeat' (first | (with_reducible exact Below.refl _ _) | (with_reducible assumption) | (with_reducible refine below_drewN ?_ _) | (with_reducible refine Below.drew ?_) | (with_reducible refine Below.alloc ?_ ?_ _) | (with_reducible refine Below.setCell ?_ ?_ _) | go_size))) | (obtain ⟨n_, rfl⟩ := h_; (repeat' (first | (with_reducible exact Below.refl _ _) | (with_reducible assumption) | (with_reducible refine below_drewN ?_ _) | (with_reducible refine Below.drew ?_) | (with_reducible refine Below.alloc ?_ ?_ _) | (with_reducible refine Below.setCell ?_ ?_ _) | go_size))))))
  refine wpQuiet_nil ?_
  intro _ hw'
  obtain ⟨⟨w9, hb9⟩, hw''⟩ := hw'
  subst hw''
  have hB := later hb9 (w := w) (by (repeat' (first | (with_reducible exact Below.refl _ _) | (with_reducible assumption) | (with_reducible refine below_drewN ?_ _) | (with_reducible refine Below.drew ?_) | (with_reducible refine Below.alloc ?_ ?_ _) | (with_reducible refine Below.setCell ?_ ?_ _) | go_size)))
  go_wp2_with fail
  go_ret
  exact ⟨by rw [← H.out]; rfl, hB⟩

def codeL (l : List Tri) (pe : Int) : Int := if okT l then (if betw pe 0 50 then 0 else 2) else 1
def codeS (l : List Tri) (pe : Int) : Int := if codeL l pe = 0 ∧ l.length = 0 then 3 else codeL l pe
theorem codeL_cases (l : List Tri) (pe : Int) : codeL l pe = 0 ∨ codeL l pe = 1 ∨ codeL l pe = 2 := by
  unfold codeL
  cases okT l <;> cases betw pe 0 50 <;> simp
theorem codeL_zero {l : List Tri} {pe : Int} (h : codeL l pe = 0) : okT l = true ∧ (0 ≤ pe ∧ pe ≤ 50) := by
  unfold codeL at h
  cases g1 : okT l <;> cases g2 : betw pe 0 50 <;> simp [g1, g2] at h
  exact ⟨rfl, betw_true g2⟩
/-- Valid tests: at most 40, each of them valid. -/
theorem okT_at {l : List Tri} (h : okT l = true) : l.length ≤ 40 ∧ ∀ (k : Nat) (s e t : Int), l[k]? = some (s, e, t) → okB s e t := by
  simp only [okT, Bool.and_eq_true, List.all_eq_true, decide_eq_true_eq] at h
  exact ⟨h.2, fun k s e t hk => okB_of (h.1 _ (List.mem_of_getElem? hk))⟩

set_option maxHeartbeats 400000 in
theorem c_l20List (A : Option Addr) (n c : Nat) (l : List Tri) (pe r : Int) (h : codeL l pe = r) (w : World) (ha : Sl trc w w.heap.size 3 A n l) (hn : n ≤ 1048576) :
    Calls Try.prog 18 #[.slice A n c, .int .i64 pe] w fun e w' => e = .returned (.int .i64 r) ∧ Below w.heap.size w w' := by
  subst h
  unfold codeL
  cases g1 : okT l <;> cases g2 : betw pe 0 50 <;>
  · go_enter Try.func18, Try.ntmps18
    go_wp2_with (first | (go_at_call 27; refine (c_l20Ok _ _ _ l _ (by assumption) _ (by assumption) (by assumption)).mono ?_; rintro r_ w1 ⟨rfl, hb1⟩) | (go_at_call 28; refine (c_l20Penalty _ _ (by assumption) _).mono ?_; rintro e w' ⟨rfl, rfl⟩))
    go_ret
    exact ⟨by simp, hb1⟩

set_option maxHeartbeats 400000 in
theorem c_trialsCode (A : Option Addr) (n c : Nat) (l : List Tri) (pe r : Int) (h : codeL l pe = r) (w : World) (ha : Sl trc w w.heap.size 3 A n l) (hn : n ≤ 1048576) :
    Calls Try.prog 13 #[.slice A n c, .int .i64 pe] w fun e w' => e = .returned (.int .i64 r) ∧ Below w.heap.size w w' := by
  subst h
  unfold codeL
  cases g1 : okT l <;> cases g2 : betw pe 0 50 <;>
  · go_enter Try.func13, Try.ntmps13
    go_wp2_with (first | (go_at_call 20; refine (c_iValidTrials _ _ _ l _ (by assumption) _ (by assumption) (by assumption)).mono ?_; rintro r_ w1 ⟨rfl, hb1⟩) | (go_at_call 21; refine (c_isPenalty _ _ (by assumption) _).mono ?_; rintro e w' ⟨rfl, rfl⟩))
    go_ret
    exact ⟨by simp, hb1⟩

set_option maxHeartbeats 400000 in
theorem c_l20Some (A : Option Addr) (n c : Nat) (l : List Tri) (pe r : Int) (h : codeS l pe = r) (w : World) (ha : Sl trc w w.heap.size 3 A n l) (hn : n ≤ 1048576) :
    Calls Try.prog 9 #[.slice A n c, .int .i64 pe] w fun e w' => e = .returned (.int .i64 r) ∧ Below w.heap.size w w' := by
  subst h
  have hl := ha.1
  have HS : Hid (codeS l pe = if codeL l pe = 0 ∧ l.length = 0 then 3 else codeL l pe) := rfl
  by_cases h0 : codeL l pe = 0
  · by_cases hn0 : n = 0
    · have e1 : codeS l pe = 3 := by rw [HS.out, if_pos ⟨h0, by omega⟩]
      rw [e1]
      have hq : ((n : Int) == 0) = true := by simp [hn0]
      have HL := Lib.hid hl
      clear hl hn0 e1
      go_enter Try.func9, Try.ntmps9
      go_wp2_with (go_at_call 18; refine (c_l20List _ _ _ l _ _ h0 _ (by assumption) (by assumption)).mono ?_; rintro r_ w1 ⟨rfl, hb1⟩)
      go_ret
      exact ⟨rfl, hb1⟩
    · have e1 : codeS l pe = 0 := by rw [HS.out, if_neg (by omega), h0]
      rw [e1]
      have hq : ((n : Int) == 0) = false := by simp [hn0]
      have HL := Lib.hid hl
      clear hl hn0 e1
      go_enter Try.func9, Try.ntmps9
      go_wp2_with (go_at_call 18; refine (c_l20List _ _ _ l _ _ h0 _ (by assumption) (by assumption)).mono ?_; rintro r_ w1 ⟨rfl, hb1⟩)
      go_ret
      exact ⟨rfl, hb1⟩
  · have e1 : codeS l pe = codeL l pe := by rw [HS.out, if_neg (by omega)]
    rw [e1]
    have HL := Lib.hid hl
    clear hl e1
    rcases codeL_cases l pe with h1 | h1 | h1
    · exact absurd h1 h0
    · rw [h1]
      clear h0
      go_enter Try.func9, Try.ntmps9
      go_wp2_with (go_at_call 18; refine (c_l20List _ _ _ l _ _ h1 _ (by assumption) (by assumption)).mono ?_; rintro r_ w1 ⟨rfl, hb1⟩)
      go_ret
      exact ⟨rfl, hb1⟩
    · rw [h1]
      clear h0
      go_enter Try.func9, Try.ntmps9
      go_wp2_with (go_at_call 18; refine (c_l20List _ _ _ l _ _ h1 _ (by assumption) (by assumption)).mono ?_; rintro r_ w1 ⟨rfl, hb1⟩)
      go_ret
      exact ⟨rfl, hb1⟩
end Go.Proofs.Ytjigkogopmebeaa
