/- The order of tests by speed: a test slower than another one, by places in a list; the contract of 'slower' for a sort's closure. -/
import Derived.Test.YtjigkogopmebeaaAh
import Derived.Test.YtjigkogopmebeaaRk
import Derived.Test.YtjigkogopmebeaaTr3
namespace Go.Proofs.Ytjigkogopmebeaa
open Go.RowKit Go.BigFrame
attribute [local go_sem] sub_cell sub_frozen drewN_setCell ah_cell

theorem cross_tr {a b c ta tb tc : Int} (ha : 0 < ta) (hb : 0 < tb) (hc : 0 < tc) (h1 : a * tb < b * ta) (h2 : b * tc < c * tb) : a * tc < c * ta := by
  have e1 := Int.mul_lt_mul_of_pos_right h1 hc
  have e2 := Int.mul_lt_mul_of_pos_right h2 ha
  rw [Int.mul_right_comm b ta tc] at e1
  have e3 := Int.lt_trans e1 e2
  rw [Int.mul_right_comm a tb tc, Int.mul_right_comm c tb ta] at e3
  exact Int.lt_of_mul_lt_mul_right e3 (Int.le_of_lt hb)
theorem cross_ntr {a b c ta tb tc : Int} (ha : 0 < ta) (hb : 0 < tb) (hc : 0 < tc) (h1 : b * ta ≤ a * tb) (h2 : c * tb ≤ b * tc) : c * ta ≤ a * tc := by
  have e1 := Int.mul_le_mul_of_nonneg_right h1 (Int.le_of_lt hc)
  have e2 := Int.mul_le_mul_of_nonneg_right h2 (Int.le_of_lt ha)
  rw [Int.mul_right_comm b ta tc] at e1
  have e3 := Int.le_trans e2 e1
  rw [Int.mul_right_comm a tb tc, Int.mul_right_comm c tb ta] at e3
  exact Int.le_of_mul_le_mul_right e3 hb
def trd : Tri := (0, 0, 1)
/-- Slower, by places in a list. -/
def slw (l : List Tri) (pe : Int) (i k : Nat) : Bool := slowB pe (l.getD i trd) (l.getD k trd)
theorem slow_iff {pe : Int} {x y : Tri} : slowB pe x y = true ↔ netI x.1 x.2.1 pe * y.2.2 < netI y.1 y.2.1 pe * x.2.2 := by simp [slowB]
theorem slow_no {pe : Int} {x y : Tri} : slowB pe x y = false ↔ netI y.1 y.2.1 pe * x.2.2 ≤ netI x.1 x.2.1 pe * y.2.2 := by simp [slowB]
theorem slw_wk {l : List Tri} (pe : Int) (h : ∀ (k : Nat) (s e t : Int), l[k]? = some (s, e, t) → okB s e t) : Wk (slw l pe) := by
  have hp : ∀ i, 0 < (l.getD i trd).2.2 := by
    intro i
    rw [List.getD_eq_getElem?_getD]
    cases hx : l[i]? with
    | none => simp [trd]
    | some x =>
      obtain ⟨s, e, t⟩ := x
      have := (h i s e t hx).2.2.1
      simp only [Option.getD_some]; omega
  exact {
    irr := fun a => slowB_self _ _
    tr := fun a b c h1 h2 => by
      unfold slw at *
      rw [slow_iff] at *
      exact cross_tr (hp a) (hp b) (hp c) h1 h2
    ntr := fun a b c h1 h2 => by
      unfold slw at *
      rw [slow_no] at *
      exact cross_ntr (hp a) (hp b) (hp c) h1 h2 }
theorem slw_of {l : List Tri} {pe : Int} {i k : Nat} {x y : Tri} (hx : l[i]? = some x) (hy : l[k]? = some y) : slw l pe i k = slowB pe x y := by
  simp [slw, List.getD, hx, hy]

theorem grow_alloc (w : World) (os : Array Obj) (o : Obj) : (Sort.grow w os).alloc o = Sort.grow w (os ++ #[o]) := by rw [Sort.alloc_eq_grow, Sort.grow_grow]
theorem ahead_behind {w w1 w2 : World} (h1 : ∃ q os, w1 = Sort.grow (w.drewN q) os) (h2 : ∃ q os, w2 = Sort.grow (w1.drewN q) os) : ∃ q os, w2 = Sort.grow (w.drewN q) os := by
  obtain ⟨y, hy⟩ := (⟨w1, h1⟩ : Ahd w).more h2
  rw [hy]; exact y.h
theorem ahead_of_one {w : World} {o : Obj} : ∃ q os, w.alloc o = Sort.grow (w.drewN q) os := ⟨0, #[o], by rw [Sort.alloc_eq_grow]; rfl⟩
theorem c_netG (s e t pe : Int) (w : World) (hs : 0 ≤ s ∧ s ≤ 100000) (he : 0 ≤ e ∧ e ≤ 100000) (hp : 0 ≤ pe ∧ pe ≤ 50) :
    Calls Try.prog 26 #[.agg #[.int .i64 s, .int .i64 e, .int .i64 t], .int .i64 pe] w fun r w' => r = .returned (.int .i64 (netI s e pe)) ∧ ∃ q os, w' = Sort.grow (w.drewN q) os :=
  (c_net s e t pe w hs he hp).mono fun _ _ h => ⟨h.1, by rw [h.2]; exact ahead_of_one⟩
set_option maxHeartbeats 1000000 in
theorem c_slowerG (s e t s' e' t' pe : Int) (r : Bool) (h : slowB pe (s, e, t) (s', e', t') = r) (w : World) (hv : okB s e t) (hv' : okB s' e' t') (hp : 0 ≤ pe ∧ pe ≤ 50) :
    Calls Try.prog 16 #[.agg #[.int .i64 s, .int .i64 e, .int .i64 t], .agg #[.int .i64 s', .int .i64 e', .int .i64 t'], .int .i64 pe] w fun z w' => z = .returned (.bool r) ∧ ∃ q os, w' = Sort.grow (w.drewN q) os := by
  obtain ⟨vs, ve, vt⟩ := hv
  obtain ⟨vs', ve', vt'⟩ := hv'
  have n1 := netI_bd vs ve hp
  have n2 := netI_bd vs' ve' hp
  have m1 := mul_bd n1.1 n1.2 (b := t') (by omega) vt'.2
  have m2 := mul_bd n2.1 n2.2 (b := t) (by omega) vt.2
  have w1 : IntKind.i64.wrap (netI s e pe * t') = netI s e pe * t' := IntWalk.i64_in _ (by omega)
  have w2 : IntKind.i64.wrap (netI s' e' pe * t) = netI s' e' pe * t := IntWalk.i64_in _ (by omega)
  have H : Hid (decide (netI s e pe * t' < netI s' e' pe * t) = r) := h
  clear h
  go_enter Try.func16, Try.ntmps16
  go_wp2_with fail
  refine wp_region_ahead (by kernel_rfl) (by kernel_rfl) ?_
  repeat (go_big_quiet_step ((go_at_call 26; exact qAh (c_netG _ _ _ _ _ (by assumption) (by assumption) (by assumption)))))
  refine wpQuiet_nil ?_
  intro _ hw'
  obtain ⟨⟨w9, hb9⟩, hw''⟩ := hw'
  subst hw''
  have HB := Lib.hid hb9
  clear hb9
  go_wp2_with fail
  go_ret
  exact ⟨by rw [← H.out]; rfl, ahead_behind ahead_of_two HB.out⟩
end Go.Proofs.Ytjigkogopmebeaa
