/- Contracts: the longest run of faster and faster tests. -/
import Derived.Test.YtldhhbnochlmlaaTr3
namespace Go.Proofs.Ytldhhbnochlmlaa
open Go.RowKit Go.BigFrame
attribute [local go_sem] sub_cell sub_frozen drewN_setCell

/-- The longest run among the tests 0 .. j: where it begins, how long it is, where the last run begins. -/
def riseN (l : List Tri) (pe : Int) : Nat → Nat × Nat × Nat
  | 0 => (0, 1, 0)
  | j + 1 =>
    let b := if slowB pe (l.getD j (0, 0, 0)) (l.getD (j + 1) (0, 0, 0)) then (riseN l pe j).2.2 else j + 1
    if (riseN l pe j).2.1 < j + 1 - b + 1 then (b, j + 1 - b + 1, b) else ((riseN l pe j).1, (riseN l pe j).2.1, b)
theorem riseN_step {l : List Tri} {pe : Int} {j f m b : Nat} {x y : Tri} (h : riseN l pe j = (f, m, b)) (hx : l[j]? = some x) (hy : l[j + 1]? = some y) {r : Bool} (hr : slowB pe x y = r) :
    riseN l pe (j + 1) = if m < j + 1 - (if r then b else j + 1) + 1 then ((if r then b else j + 1), j + 1 - (if r then b else j + 1) + 1, (if r then b else j + 1)) else (f, m, (if r then b else j + 1)) := by
  rw [riseN, h]
  simp [List.getD, hx, hy, hr]

def riseV (l : List Tri) (pe : Int) : Value :=
  if codeS l pe = 0 then .tuple #[.int .i64 ((riseN l pe (l.length - 1)).1 : Nat), .int .i64 ((riseN l pe (l.length - 1)).2.1 : Nat), .int .i64 0] else .tuple #[.int .i64 0, .int .i64 0, .int .i64 (codeS l pe)]
theorem riseV_form (l : List Tri) (pe : Int) : ∃ x y z, riseV l pe = .tuple #[.int .i64 x, .int .i64 y, .int .i64 z] := by
  unfold riseV
  split <;> exact ⟨_, _, _, rfl⟩
theorem riseV_err {l : List Tri} {pe c : Int} (h : codeS l pe = c) (hc : c ≠ 0) : Ending.returned (.tuple #[.int .i64 0, .int .i64 0, .int .i64 c]) = .returned (riseV l pe) := by
  rw [riseV, h, if_neg hc]
theorem riseV_ok {l : List Tri} {pe : Int} {n j f m b : Nat} (h : codeS l pe = 0) (hl : l.length = n) (hn : n = j + 1) (hq : riseN l pe j = (f, m, b)) : Ending.returned (.tuple #[.int .i64 (f : Int), .int .i64 (m : Int), .int .i64 0]) = .returned (riseV l pe) := by
  rw [riseV, if_pos h, hl, hn, Nat.add_sub_cancel, hq]

set_option maxHeartbeats 4000000 in
theorem c_sLongestRise (A : Option Addr) (n c : Nat) (l : List Tri) (pe : Int) (w : World) (ha : Sl trc w w.heap.size 3 A n l) (hn : n ≤ 1048576) :
    Calls Try.prog 38 #[.slice A n c, .int .i64 pe] w fun e w' => e = .returned (riseV l pe) ∧ Below w.heap.size w w' := by
  have hl := ha.1
  have HL := Lib.hid hl
  have err : ∀ k : Int, k ≠ 0 → codeS l pe = k → (k = 1 ∨ k = 2 ∨ k = 3) → Calls Try.prog 38 #[.slice A n c, .int .i64 pe] w fun e w' => e = .returned (riseV l pe) ∧ Below w.heap.size w w' := by
    intro k hk h hor
    have HK := Lib.hid h
    clear hl h
    rcases hor with rfl | rfl | rfl <;>
    · go_enter Try.func38, Try.ntmps38
      go_wp2_with (go_at_call 64; refine (c_l20Some _ _ _ l _ _ HK.out _ ha hn).mono ?_; rintro r_ w1 ⟨rfl, hb1⟩)
      go_returns
      exact ⟨riseV_err HK.out (by decide), hb1⟩
  rcases codeS_cases l pe with h | h | h | h
  · obtain ⟨hcl, hpos⟩ := codeS_zero h
    obtain ⟨hok, hp⟩ := codeL_zero hcl
    obtain ⟨h40, hval⟩ := okT_at hok
    have HV := Lib.hid hval
    have HC := Lib.hid h
    have h1n : 1 ≤ n := by omega
    clear h hcl hok hval hl hpos err
    go_enter Try.func38, Try.ntmps38
    go_wp2_with (go_at_call 64; refine (c_l20Some _ _ _ l _ _ HC.out _ ha hn).mono ?_; rintro r_ w1 ⟨rfl, hb1⟩)
    go_loopw [8, 9, 10, 11] (fun u v x i wr => ∃ j f m b : Nat, j + 1 ≤ n ∧ b ≤ j ∧ m ≤ j + 1 ∧ u = .int .i64 f ∧ v = .int .i64 m ∧ x = .int .i64 b ∧ i = .int .i64 ((j : Int) + 1) ∧ Below w.heap.size w wr ∧ Hid (riseN l pe j = (f, m, b))) (fun _ _ _ i _ => n - (intOf i).toNat)
    case atStart => exact ⟨0, 0, 1, 0, by omega, by omega, by omega, rfl, rfl, rfl, rfl, hb1, rfl⟩
    case round =>
      obtain ⟨j, f, m, b, hj, hbj, hmj, rfl, rfl, rfl, rfl, hB, hr⟩ := hrel
      have hz := hB.size
      by_cases hlt : j + 1 < n
      · obtain ⟨bb, oo, s, e, t, s', e', t', rfl, hb1', hb2, hx, hy, c0, c1, c2, c0', c1', c2'⟩ := tr_at2 ha hB (show j < n by omega) hlt
        have v1 := Lib.hid (HV.out _ _ _ _ hx)
        have v2 := Lib.hid (HV.out _ _ _ _ hy)
        have HX := Lib.hid hx
        have HY := Lib.hid hy
        clear ha hx hy
        have hi1 : (j : Int) + 1 < n := by omega
        obtain ⟨rr, hs⟩ : ∃ r, slowB pe (s, e, t) (s', e', t') = r := ⟨_, rfl⟩
        cases rr <;> have HS := Lib.hid hs <;> clear hs
        rotate_left
        · by_cases hm2 : m < j + 1 - b + 1
          · have HM := Lib.hid hm2
            have hm3 : ((m : Int) < (j : Int) + 1 - (b : Int) + 1) := by omega
            clear hm2
            go_wp2_with fail
            go_quiet ((go_at_call 65; exact d0 (c_l20Less s e t s' e' t' _ _ _ _ _ _ HS.out _ v1.out v2.out hp c0 c1 c2 c0' c1' c2')))
            go_wp2_with fail
            go_roundw
            case rel => exact ⟨j + 1, b, j + 1 - b + 1, b, by omega, by omega, by omega, by go_num, by go_num, by go_num, by go_num, by (repeat' (first | (with_reducible exact Below.refl _ _) | (with_reducible assumption) | (with_reducible refine below_drewN ?_ _) | (with_reducible refine Below.drew ?_) | (with_reducible refine Below.alloc ?_ ?_ _) | (with_reducible refine Below.setCell ?_ ?_ _) | go_size)), (riseN_step hr.out HX.out HY.out HS.out).trans (by simp only [Bool.false_eq_true, if_true, if_false]; rw [if_pos HM.out])⟩
            case measure => simp [intOf]; omega
          · have HM := Lib.hid hm2
            have hm3 : ¬ ((m : Int) < (j : Int) + 1 - (b : Int) + 1) := by omega
            clear hm2
            go_wp2_with fail
            go_quiet ((go_at_call 65; exact d0 (c_l20Less s e t s' e' t' _ _ _ _ _ _ HS.out _ v1.out v2.out hp c0 c1 c2 c0' c1' c2')))
            go_wp2_with fail
            go_roundw
            case rel => exact ⟨j + 1, f, m, b, by omega, by omega, by omega, by go_num, by go_num, by go_num, by go_num, by (repeat' (first | (with_reducible exact Below.refl _ _) | (with_reducible assumption) | (with_reducible refine below_drewN ?_ _) | (with_reducible refine Below.drew ?_) | (with_reducible refine Below.alloc ?_ ?_ _) | (with_reducible refine Below.setCell ?_ ?_ _) | go_size)), (riseN_step hr.out HX.out HY.out HS.out).trans (by simp only [Bool.false_eq_true, if_true, if_false]; rw [if_neg HM.out])⟩
            case measure => simp [intOf]; omega
        · by_cases hm2 : m < j + 1 - (j + 1) + 1
          · have HM := Lib.hid hm2
            have hm3 : ((m : Int) < (j : Int) + 1 - ((j : Int) + 1) + 1) := by omega
            clear hm2
            go_wp2_with fail
            go_quiet ((go_at_call 65; exact d0 (c_l20Less s e t s' e' t' _ _ _ _ _ _ HS.out _ v1.out v2.out hp c0 c1 c2 c0' c1' c2')))
            go_wp2_with fail
            go_roundw
            case rel => exact ⟨j + 1, j + 1, j + 1 - (j + 1) + 1, j + 1, by omega, by omega, by omega, by go_num, by go_num, by go_num, by go_num, by (repeat' (first | (with_reducible exact Below.refl _ _) | (with_reducible assumption) | (with_reducible refine below_drewN ?_ _) | (with_reducible refine Below.drew ?_) | (with_reducible refine Below.alloc ?_ ?_ _) | (with_reducible refine Below.setCell ?_ ?_ _) | go_size)), (riseN_step hr.out HX.out HY.out HS.out).trans (by simp only [Bool.false_eq_true, if_true, if_false]; rw [if_pos HM.out])⟩
            case measure => simp [intOf]; omega
          · have HM := Lib.hid hm2
            have hm3 : ¬ ((m : Int) < (j : Int) + 1 - ((j : Int) + 1) + 1) := by omega
            clear hm2
            go_wp2_with fail
            go_quiet ((go_at_call 65; exact d0 (c_l20Less s e t s' e' t' _ _ _ _ _ _ HS.out _ v1.out v2.out hp c0 c1 c2 c0' c1' c2')))
            go_wp2_with fail
            go_roundw
            case rel => exact ⟨j + 1, f, m, j + 1, by omega, by omega, by omega, by go_num, by go_num, by go_num, by go_num, by (repeat' (first | (with_reducible exact Below.refl _ _) | (with_reducible assumption) | (with_reducible refine below_drewN ?_ _) | (with_reducible refine Below.drew ?_) | (with_reducible refine Below.alloc ?_ ?_ _) | (with_reducible refine Below.setCell ?_ ?_ _) | go_size)), (riseN_step hr.out HX.out HY.out HS.out).trans (by simp only [Bool.false_eq_true, if_true, if_false]; rw [if_neg HM.out])⟩
            case measure => simp [intOf]; omega
      · go_wp2_with fail
        go_returns
        exact ⟨riseV_ok HC.out HL.out (by omega) hr.out, hB⟩
  · exact err 1 (by decide) h (by simp)
  · exact err 2 (by decide) h (by simp)
  · exact err 3 (by decide) h (by simp)

set_option maxHeartbeats 4000000 in
theorem c_iLongestRise (A : Option Addr) (n c : Nat) (l : List Tri) (pe : Int) (w : World) (ha : Sl trc w w.heap.size 3 A n l) (hn : n ≤ 1048576) :
    Calls Try.prog 39 #[.slice A n c, .int .i64 pe] w fun e w' => e = .returned (riseV l pe) ∧ Below w.heap.size w w' := by
  have hl := ha.1
  have HL := Lib.hid hl
  have err : ∀ k : Int, k ≠ 0 → codeL l pe = k → (k = 1 ∨ k = 2) → Calls Try.prog 39 #[.slice A n c, .int .i64 pe] w fun e w' => e = .returned (riseV l pe) ∧ Below w.heap.size w w' := by
    intro k hk h hor
    have HK := Lib.hid h
    have HC : Hid (codeS l pe = k) := by
      show codeS l pe = k
      rw [codeS, if_neg (by omega), h]
    clear hl h
    rcases hor with rfl | rfl <;>
    · go_enter Try.func39, Try.ntmps39
      go_wp2_with (go_at_call 66; refine (c_trialsCode _ _ _ l _ _ HK.out _ ha hn).mono ?_; rintro r_ w1 ⟨rfl, hb1⟩)
      go_returns
      exact ⟨riseV_err HC.out (by decide), hb1⟩
  rcases codeL_cases l pe with h | h | h
  · have HK := Lib.hid h
    by_cases hn0 : n = 0
    · have HC : Hid (codeS l pe = 3) := by
        show codeS l pe = 3
        rw [codeS, if_pos ⟨h, by omega⟩]
      have hq : ((n : Int) == 0) = true := by simp [hn0]
      clear hl h hn0 err
      go_enter Try.func39, Try.ntmps39
      go_wp2_with (go_at_call 66; refine (c_trialsCode _ _ _ l _ _ HK.out _ ha hn).mono ?_; rintro r_ w1 ⟨rfl, hb1⟩)
      go_returns
      exact ⟨riseV_err HC.out (by decide), hb1⟩
    · have HC : Hid (codeS l pe = 0) := by
        show codeS l pe = 0
        rw [codeS, if_neg (by omega), h]
      have hq : ((n : Int) == 0) = false := by simp [hn0]
      obtain ⟨hok, hp⟩ := codeL_zero h
      obtain ⟨h40, hval⟩ := okT_at hok
      have HV := Lib.hid hval
      have h1n : 1 ≤ n := by omega
      clear h hok hval hl err hn0
      go_enter Try.func39, Try.ntmps39
      go_wp2_with (go_at_call 66; refine (c_trialsCode _ _ _ l _ _ HK.out _ ha hn).mono ?_; rintro r_ w1 ⟨rfl, hb1⟩)
      go_loopw [8, 9, 10, 11] (fun u v x i wr => ∃ j f m b : Nat, j + 1 ≤ n ∧ b ≤ j ∧ m ≤ j + 1 ∧ u = .int .i64 f ∧ v = .int .i64 m ∧ x = .int .i64 b ∧ i = .int .i64 ((j : Int) + 1) ∧ Below w.heap.size w wr ∧ Hid (riseN l pe j = (f, m, b))) (fun _ _ _ i _ => n - (intOf i).toNat)
      case atStart => exact ⟨0, 0, 1, 0, by omega, by omega, by omega, rfl, rfl, rfl, rfl, hb1, rfl⟩
      case round =>
        obtain ⟨j, f, m, b, hj, hbj, hmj, rfl, rfl, rfl, rfl, hB, hr⟩ := hrel
        have hz := hB.size
        by_cases hlt : j + 1 < n
        · obtain ⟨bb, oo, s, e, t, s', e', t', rfl, hb1', hb2, hx, hy, c0, c1, c2, c0', c1', c2'⟩ := tr_at2 ha hB (show j < n by omega) hlt
          have v1 := Lib.hid (HV.out _ _ _ _ hx)
          have v2 := Lib.hid (HV.out _ _ _ _ hy)
          have HX := Lib.hid hx
          have HY := Lib.hid hy
          clear ha hx hy
          have hi1 : (j : Int) + 1 < n := by omega
          obtain ⟨rr, hs⟩ : ∃ r, slowB pe (s, e, t) (s', e', t') = r := ⟨_, rfl⟩
          cases rr <;> have HS := Lib.hid hs <;> clear hs
          rotate_left
          · by_cases hm2 : m < j + 1 - b + 1
            · have HM := Lib.hid hm2
              have hm3 : ((m : Int) < (j : Int) + 1 - (b : Int) + 1) := by omega
              clear hm2
              go_wp2_with fail
              refine wp_region_below (by kernel_rfl) (by kernel_rfl) ?_
              repeat (go_big_quiet_step ((go_at_call 67; refine qBg (c_slower s e t s' e' t' _ _ HS.out _ v1.out v2.out hp) (by simp) ?_; intro w_ h_; exact h_)))
              refine wpQuiet_nil ?_
              intro _ hw'
              obtain ⟨⟨w9, hb9⟩, hw''⟩ := hw'
              subst hw''
              have hB9 := later hb9 (w := w) (by (repeat' (first | (with_reducible exact Below.refl _ _) | (with_reducible assumption) | (with_reducible refine below_drewN ?_ _) | (with_reducible refine Below.drew ?_) | (with_reducible refine Below.alloc ?_ ?_ _) | (with_reducible refine Below.setCell ?_ ?_ _) | go_size)))
              go_wp2_with fail
              go_roundw
              case rel => exact ⟨j + 1, b, j + 1 - b + 1, b, by omega, by omega, by omega, by go_num, by go_num, by go_num, by go_num, by (repeat' (first | (with_reducible exact Below.refl _ _) | (with_reducible assumption) | (with_reducible refine below_drewN ?_ _) | (with_reducible refine Below.drew ?_) | (with_reducible refine Below.alloc ?_ ?_ _) | (with_reducible refine Below.setCell ?_ ?_ _) | go_size)), (riseN_step hr.out HX.out HY.out HS.out).trans (by simp only [Bool.false_eq_true, if_true, if_false]; rw [if_pos HM.out])⟩
              case measure => simp [intOf]; omega
            · have HM := Lib.hid hm2
              have hm3 : ¬ ((m : Int) < (j : Int) + 1 - (b : Int) + 1) := by omega
              clear hm2
              go_wp2_with fail
              refine wp_region_below (by kernel_rfl) (by kernel_rfl) ?_
              repeat (go_big_quiet_step ((go_at_call 67; refine qBg (c_slower s e t s' e' t' _ _ HS.out _ v1.out v2.out hp) (by simp) ?_; intro w_ h_; exact h_)))
              refine wpQuiet_nil ?_
              intro _ hw'
              obtain ⟨⟨w9, hb9⟩, hw''⟩ := hw'
              subst hw''
              have hB9 := later hb9 (w := w) (by (repeat' (first | (with_reducible exact Below.refl _ _) | (with_reducible assumption) | (with_reducible refine below_drewN ?_ _) | (with_reducible refine Below.drew ?_) | (with_reducible refine Below.alloc ?_ ?_ _) | (with_reducible refine Below.setCell ?_ ?_ _) | go_size)))
              go_wp2_with fail
              go_roundw
              case rel => exact ⟨j + 1, f, m, b, by omega, by omega, by omega, by go_num, by go_num, by go_num, by go_num, by (repeat' (first | (with_reducible exact Below.refl _ _) | (with_reducible assumption) | (with_reducible refine below_drewN ?_ _) | (with_reducible refine Below.drew ?_) | (with_reducible refine Below.alloc ?_ ?_ _) | (with_reducible refine Below.setCell ?_ ?_ _) | go_size)), (riseN_step hr.out HX.out HY.out HS.out).trans (by simp only [Bool.false_eq_true, if_true, if_false]; rw [if_neg HM.out])⟩
              case measure => simp [intOf]; omega
          · by_cases hm2 : m < j + 1 - (j + 1) + 1
            · have HM := Lib.hid hm2
              have hm3 : ((m : Int) < (j : Int) + 1 - ((j : Int) + 1) + 1) := by omega
              clear hm2
              go_wp2_with fail
              refine wp_region_below (by kernel_rfl) (by kernel_rfl) ?_
              repeat (go_big_quiet_step ((go_at_call 67; refine qBg (c_slower s e t s' e' t' _ _ HS.out _ v1.out v2.out hp) (by simp) ?_; intro w_ h_; exact h_)))
              refine wpQuiet_nil ?_
              intro _ hw'
              obtain ⟨⟨w9, hb9⟩, hw''⟩ := hw'
              subst hw''
              have hB9 := later hb9 (w := w) (by (repeat' (first | (with_reducible exact Below.refl _ _) | (with_reducible assumption) | (with_reducible refine below_drewN ?_ _) | (with_reducible refine Below.drew ?_) | (with_reducible refine Below.alloc ?_ ?_ _) | (with_reducible refine Below.setCell ?_ ?_ _) | go_size)))
              go_wp2_with fail
              go_roundw
              case rel => exact ⟨j + 1, j + 1, j + 1 - (j + 1) + 1, j + 1, by omega, by omega, by omega, by go_num, by go_num, by go_num, by go_num, by (repeat' (first | (with_reducible exact Below.refl _ _) | (with_reducible assumption) | (with_reducible refine below_drewN ?_ _) | (with_reducible refine Below.drew ?_) | (with_reducible refine Below.alloc ?_ ?_ _) | (with_reducible refine Below.setCell ?_ ?_ _) | go_size)), (riseN_step hr.out HX.out HY.out HS.out).trans (by simp only [Bool.false_eq_true, if_true, if_false]; rw [if_pos HM.out])⟩
              case measure => simp [intOf]; omega
            · have HM := Lib.hid hm2
              have hm3 : ¬ ((m : Int) < (j : Int) + 1 - ((j : Int) + 1) + 1) := by omega
              clear hm2
              go_wp2_with fail
              refine wp_region_below (by kernel_rfl) (by kernel_rfl) ?_
              repeat (go_big_quiet_step ((go_at_call 67; refine qBg (c_slower s e t s' e' t' _ _ HS.out _ v1.out v2.out hp) (by simp) ?_; intro w_ h_; exact h_)))
              refine wpQuiet_nil ?_
              intro _ hw'
              obtain ⟨⟨w9, hb9⟩, hw''⟩ := hw'
              subst hw''
              have hB9 := later hb9 (w := w) (by (repeat' (first | (with_reducible exact Below.refl _ _) | (with_reducible assumption) | (with_reducible refine below_drewN ?_ _) | (with_reducible refine Below.drew ?_) | (with_reducible refine Below.alloc ?_ ?_ _) | (with_reducible refine Below.setCell ?_ ?_ _) | go_size)))
              go_wp2_with fail
              go_roundw
              case rel => exact ⟨j + 1, f, m, j + 1, by omega, by omega, by omega, by go_num, by go_num, by go_num, by go_num, by (repeat' (first | (with_reducible exact Below.refl _ _) | (with_reducible assumption) | (with_reducible refine below_drewN ?_ _) | (with_reducible refine Below.drew ?_) | (with_reducible refine Below.alloc ?_ ?_ _) | (with_reducible refine Below.setCell ?_ ?_ _) | go_size)), (riseN_step hr.out HX.out HY.out HS.out).trans (by simp only [Bool.false_eq_true, if_true, if_false]; rw [if_neg HM.out])⟩
              case measure => simp [intOf]; omega
        · go_wp2_with fail
          go_returns
          exact ⟨riseV_ok HC.out HL.out (by omega) hr.out, hB⟩
  · exact err 1 (by decide) h (by simp)
  · exact err 2 (by decide) h (by simp)
end Go.Proofs.Ytldhhbnochlmlaa
