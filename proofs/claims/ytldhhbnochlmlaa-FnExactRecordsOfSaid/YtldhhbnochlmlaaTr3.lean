/- Contracts: the fastest test. -/
import Derived.Test.YtldhhbnochlmlaaTr2
namespace Go.Proofs.Ytldhhbnochlmlaa
open Go.RowKit Go.BigFrame
attribute [local go_sem] sub_cell sub_frozen drewN_setCell

/-- Two tests of a slice, in a later world. -/
theorem tr_at2 {w wr : World} {A : Option Addr} {n k j : Nat} {l : List Tri} (h : Sl trc w w.heap.size 3 A n l) (hb : Below w.heap.size w wr) (hk : k < n) (hj : j < n) :
    ∃ b o s e t s' e' t', A = some ⟨b, o, none⟩ ∧ b < wr.heap.size ∧ b < w.heap.size ∧ l[k]? = some (s, e, t) ∧ l[j]? = some (s', e', t') ∧
      wr.cell? ⟨b, o + k * 3, none⟩ = some (.int .i64 s) ∧ wr.cell? ⟨b, o + k * 3 + 1, none⟩ = some (.int .i64 e) ∧ wr.cell? ⟨b, o + k * 3 + 2, none⟩ = some (.int .i64 t) ∧
      wr.cell? ⟨b, o + j * 3, none⟩ = some (.int .i64 s') ∧ wr.cell? ⟨b, o + j * 3 + 1, none⟩ = some (.int .i64 e') ∧ wr.cell? ⟨b, o + j * 3 + 2, none⟩ = some (.int .i64 t') := by
  obtain ⟨b, o, s, e, t, hA, h1, h2, h3, c0, c1, c2⟩ := tr_at h hb hk
  obtain ⟨b', o', s', e', t', hA', _, _, h3', c0', c1', c2'⟩ := tr_at h hb hj
  rw [hA] at hA'
  simp only [Option.some.injEq, Addr.mk.injEq, and_true] at hA'
  obtain ⟨rfl, rfl⟩ := hA'
  exact ⟨b, o, s, e, t, s', e', t', hA, h1, h2, h3, h3', c0, c1, c2, c0', c1', c2'⟩

/-- The fastest of the first k tests. -/
def bestN (l : List Tri) (pe : Int) : Nat → Nat
  | 0 => 0
  | k + 1 => if slowB pe (l.getD (bestN l pe k) (0, 0, 0)) (l.getD k (0, 0, 0)) then k else bestN l pe k
theorem bestN_lt (l : List Tri) (pe : Int) (k : Nat) : bestN l pe (k + 1) ≤ k := by
  induction k with
  | zero => simp [bestN]
  | succ k ih =>
    rw [bestN]
    split <;> omega
theorem bestN_le (l : List Tri) (pe : Int) (k : Nat) : bestN l pe k ≤ k := by
  cases k with
  | zero => simp [bestN]
  | succ k => have := bestN_lt l pe k; omega
theorem bestN_yes {l : List Tri} {pe : Int} {k q : Nat} {x y : Tri} (hq : bestN l pe k = q) (hx : l[q]? = some x) (hy : l[k]? = some y) (h : slowB pe x y = true) : bestN l pe (k + 1) = k := by
  rw [bestN, hq]
  simp [List.getD, hx, hy, h]
theorem bestN_no {l : List Tri} {pe : Int} {k q : Nat} {x y : Tri} (hq : bestN l pe k = q) (hx : l[q]? = some x) (hy : l[k]? = some y) (h : slowB pe x y = false) : bestN l pe (k + 1) = q := by
  rw [bestN, hq]
  simp [List.getD, hx, hy, h]

def fastV (l : List Tri) (pe : Int) : Value :=
  if codeS l pe = 0 then .tuple #[.int .i64 (bestN l pe l.length : Nat), .int .i64 0] else .tuple #[.int .i64 0, .int .i64 (codeS l pe)]
theorem fastV_form (l : List Tri) (pe : Int) : ∃ x y, fastV l pe = .tuple #[.int .i64 x, .int .i64 y] := by
  unfold fastV
  split <;> exact ⟨_, _, rfl⟩
theorem fastV_err {l : List Tri} {pe c : Int} (h : codeS l pe = c) (hc : c ≠ 0) : Ending.returned (.tuple #[.int .i64 0, .int .i64 c]) = .returned (fastV l pe) := by
  rw [fastV, h, if_neg hc]
theorem fastV_ok {l : List Tri} {pe : Int} {n q : Nat} (h : codeS l pe = 0) (hl : l.length = n) (hq : bestN l pe n = q) : Ending.returned (.tuple #[.int .i64 (q : Int), .int .i64 0]) = .returned (fastV l pe) := by
  rw [fastV, if_pos h, hl, hq]
theorem codeS_cases (l : List Tri) (pe : Int) : codeS l pe = 0 ∨ codeS l pe = 1 ∨ codeS l pe = 2 ∨ codeS l pe = 3 := by
  unfold codeS
  split
  · simp
  · rcases codeL_cases l pe with h | h | h <;> simp [h]
theorem codeS_zero {l : List Tri} {pe : Int} (h : codeS l pe = 0) : codeL l pe = 0 ∧ 0 < l.length := by
  unfold codeS at h
  split at h
  · cases h
  · rename_i hn
    exact ⟨h, by omega⟩

set_option maxHeartbeats 2000000 in
theorem c_sFastestTrial (A : Option Addr) (n c : Nat) (l : List Tri) (pe : Int) (w : World) (ha : Sl trc w w.heap.size 3 A n l) (hn : n ≤ 1048576) :
    Calls Try.prog 36 #[.slice A n c, .int .i64 pe] w fun e w' => e = .returned (fastV l pe) ∧ Below w.heap.size w w' := by
  have hl := ha.1
  have HL := Lib.hid hl
  have err : ∀ k : Int, k ≠ 0 → codeS l pe = k → (k = 1 ∨ k = 2 ∨ k = 3) → Calls Try.prog 36 #[.slice A n c, .int .i64 pe] w fun e w' => e = .returned (fastV l pe) ∧ Below w.heap.size w w' := by
    intro k hk h hor
    have HK := Lib.hid h
    clear hl h
    rcases hor with rfl | rfl | rfl <;>
    · go_enter Try.func36, Try.ntmps36
      go_wp2_with (go_at_call 64; refine (c_l20Some _ _ _ l _ _ HK.out _ ha hn).mono ?_; rintro r_ w1 ⟨rfl, hb1⟩)
      go_returns
      exact ⟨fastV_err HK.out (by decide), hb1⟩
  rcases codeS_cases l pe with h | h | h | h
  · obtain ⟨hcl, hpos⟩ := codeS_zero h
    obtain ⟨hok, hp⟩ := codeL_zero hcl
    obtain ⟨h40, hval⟩ := okT_at hok
    have HV := Lib.hid hval
    have HK := Lib.hid h
    have h1n : 1 ≤ n := by omega
    clear h hcl hok hval hl hpos err
    go_enter Try.func36, Try.ntmps36
    go_wp2_with (go_at_call 64; refine (c_l20Some _ _ _ l _ _ HK.out _ ha hn).mono ?_; rintro r_ w1 ⟨rfl, hb1⟩)
    go_loopw [7, 8] (fun q i wr => ∃ k p : Nat, 1 ≤ k ∧ k ≤ n ∧ p < n ∧ q = .int .i64 p ∧ i = .int .i64 k ∧ Below w.heap.size w wr ∧ Hid (bestN l pe k = p)) (fun _ i _ => n - (intOf i).toNat)
    case atStart => exact ⟨1, 0, by omega, h1n, by omega, rfl, rfl, hb1, Nat.le_zero.1 (bestN_lt l pe 0)⟩
    case round =>
      obtain ⟨k, p, hk1, hk, hpn, rfl, rfl, hB, hq⟩ := hrel
      by_cases hlt : k < n
      · obtain ⟨b, o, s, e, t, s', e', t', rfl, hb1', hb2, hx, hy, c0, c1, c2, c0', c1', c2'⟩ := tr_at2 ha hB hpn hlt
        have v1 := Lib.hid (HV.out _ _ _ _ hx)
        have v2 := Lib.hid (HV.out _ _ _ _ hy)
        have HX := Lib.hid hx
        have HY := Lib.hid hy
        clear ha hx hy
        cases hs : slowB pe (s, e, t) (s', e', t') <;> have HS := Lib.hid hs <;> clear hs
        · go_wp2_with fail
          go_quiet ((go_at_call 65; exact d0 (c_l20Less s e t s' e' t' _ _ _ _ _ _ HS.out _ v1.out v2.out hp c0 c1 c2 c0' c1' c2')))
          go_wp2_with fail
          go_roundw
          case rel => exact ⟨k + 1, p, by omega, by omega, hpn, rfl, by go_num, by (repeat' (first | (with_reducible exact Below.refl _ _) | (with_reducible assumption) | (with_reducible refine below_drewN ?_ _) | (with_reducible refine Below.drew ?_) | (with_reducible refine Below.alloc ?_ ?_ _) | (with_reducible refine Below.setCell ?_ ?_ _) | go_size)), bestN_no hq.out HX.out HY.out HS.out⟩
          case measure => simp [intOf]; omega
        · go_wp2_with fail
          go_quiet ((go_at_call 65; exact d0 (c_l20Less s e t s' e' t' _ _ _ _ _ _ HS.out _ v1.out v2.out hp c0 c1 c2 c0' c1' c2')))
          go_wp2_with fail
          go_roundw
          case rel => exact ⟨k + 1, k, by omega, by omega, hlt, rfl, by go_num, by (repeat' (first | (with_reducible exact Below.refl _ _) | (with_reducible assumption) | (with_reducible refine below_drewN ?_ _) | (with_reducible refine Below.drew ?_) | (with_reducible refine Below.alloc ?_ ?_ _) | (with_reducible refine Below.setCell ?_ ?_ _) | go_size)), bestN_yes hq.out HX.out HY.out HS.out⟩
          case measure => simp [intOf]; omega
      · go_wp2_with fail
        go_returns
        obtain rfl : k = n := by omega
        exact ⟨fastV_ok HK.out HL.out hq.out, hB⟩
  · exact err 1 (by decide) h (by simp)
  · exact err 2 (by decide) h (by simp)
  · exact err 3 (by decide) h (by simp)

set_option maxHeartbeats 2000000 in
theorem c_iFastestTrial (A : Option Addr) (n c : Nat) (l : List Tri) (pe : Int) (w : World) (ha : Sl trc w w.heap.size 3 A n l) (hn : n ≤ 1048576) :
    Calls Try.prog 37 #[.slice A n c, .int .i64 pe] w fun e w' => e = .returned (fastV l pe) ∧ Below w.heap.size w w' := by
  have hl := ha.1
  have HL := Lib.hid hl
  have err : ∀ k : Int, k ≠ 0 → codeL l pe = k → (k = 1 ∨ k = 2) → Calls Try.prog 37 #[.slice A n c, .int .i64 pe] w fun e w' => e = .returned (fastV l pe) ∧ Below w.heap.size w w' := by
    intro k hk h hor
    have HK := Lib.hid h
    have HC : Hid (codeS l pe = k) := by
      show codeS l pe = k
      rw [codeS, if_neg (by omega), h]
    clear hl h
    rcases hor with rfl | rfl <;>
    · go_enter Try.func37, Try.ntmps37
      go_wp2_with (go_at_call 66; refine (c_trialsCode _ _ _ l _ _ HK.out _ ha hn).mono ?_; rintro r_ w1 ⟨rfl, hb1⟩)
      go_returns
      exact ⟨fastV_err HC.out (by decide), hb1⟩
  rcases codeL_cases l pe with h | h | h
  · have HK := Lib.hid h
    by_cases hn0 : n = 0
    · have HC : Hid (codeS l pe = 3) := by
        show codeS l pe = 3
        rw [codeS, if_pos ⟨h, by omega⟩]
      have hq : ((n : Int) == 0) = true := by simp [hn0]
      clear hl h hn0 err
      go_enter Try.func37, Try.ntmps37
      go_wp2_with (go_at_call 66; refine (c_trialsCode _ _ _ l _ _ HK.out _ ha hn).mono ?_; rintro r_ w1 ⟨rfl, hb1⟩)
      go_returns
      exact ⟨fastV_err HC.out (by decide), hb1⟩
    · have HC : Hid (codeS l pe = 0) := by
        show codeS l pe = 0
        rw [codeS, if_neg (by omega), h]
      have hq : ((n : Int) == 0) = false := by simp [hn0]
      obtain ⟨hok, hp⟩ := codeL_zero h
      obtain ⟨h40, hval⟩ := okT_at hok
      have HV := Lib.hid hval
      have h1n : 1 ≤ n := by omega
      clear h hok hval hl err hn0
      go_enter Try.func37, Try.ntmps37
      go_wp2_with (go_at_call 66; refine (c_trialsCode _ _ _ l _ _ HK.out _ ha hn).mono ?_; rintro r_ w1 ⟨rfl, hb1⟩)
      go_loopw [7, 21] (fun q i wr => ∃ k p : Nat, k ≤ n ∧ p < n ∧ q = .int .i64 p ∧ i = .int .i64 k ∧ Below w.heap.size w wr ∧ Hid (bestN l pe k = p)) (fun _ i _ => n - (intOf i).toNat)
      case atStart => exact ⟨0, 0, by omega, by omega, rfl, rfl, hb1, rfl⟩
      case round =>
        obtain ⟨k, p, hk, hpn, rfl, rfl, hB, hq'⟩ := hrel
        have hz := hB.size
        by_cases hlt : k < n
        · obtain ⟨b, o, s, e, t, s', e', t', rfl, hb1', hb2, hx, hy, c0, c1, c2, c0', c1', c2'⟩ := tr_at2 ha hB hpn hlt
          have v1 := Lib.hid (HV.out _ _ _ _ hx)
          have v2 := Lib.hid (HV.out _ _ _ _ hy)
          have HX := Lib.hid hx
          have HY := Lib.hid hy
          have hb3 : b < wr.heap.size + 1 := by omega
          clear ha hx hy
          cases hs : slowB pe (s, e, t) (s', e', t') <;> have HS := Lib.hid hs <;> clear hs
          · go_wp2_with fail
            refine wp_region_below (by kernel_rfl) (by kernel_rfl) ?_
            repeat (go_big_quiet_step ((go_at_call 67; refine qBg (c_slower s e t s' e' t' _ _ HS.out _ v1.out v2.out hp) (by simp) ?_; intro w_ h_; exact h_)))
            refine wpQuiet_nil ?_
            intro _ hw'
            obtain ⟨⟨w9, hb9⟩, hw''⟩ := hw'
            subst hw''
            have hB9 := later hb9 (w := w) (by (repeat' (first | (with_reducible exact Below.refl _ _) | (with_reducible assumption) | (with_reducible refine below_drewN ?_ _) | (with_reducible refine Below.drew ?_) | (with_reducible refine Below.alloc ?_ ?_ _) | (with_reducible refine Below.setCell ?_ ?_ _) | go_size)))
            go_wp2_with fail
            go_roundw
            case rel => exact ⟨k + 1, p, by omega, hpn, rfl, by go_num, hB9, bestN_no hq'.out HX.out HY.out HS.out⟩
            case measure => simp [intOf]; omega
          · go_wp2_with fail
            refine wp_region_below (by kernel_rfl) (by kernel_rfl) ?_
            repeat (go_big_quiet_step ((go_at_call 67; refine qBg (c_slower s e t s' e' t' _ _ HS.out _ v1.out v2.out hp) (by simp) ?_; intro w_ h_; exact h_)))
            refine wpQuiet_nil ?_
            intro _ hw'
            obtain ⟨⟨w9, hb9⟩, hw''⟩ := hw'
            subst hw''
            have hB9 := later hb9 (w := w) (by (repeat' (first | (with_reducible exact Below.refl _ _) | (with_reducible assumption) | (with_reducible refine below_drewN ?_ _) | (with_reducible refine Below.drew ?_) | (with_reducible refine Below.alloc ?_ ?_ _) | (with_reducible refine Below.setCell ?_ ?_ _) | go_size)))
            go_wp2_with fail
            go_roundw
            case rel => exact ⟨k + 1, k, by omega, hlt, rfl, by go_num, hB9, bestN_yes hq'.out HX.out HY.out HS.out⟩
            case measure => simp [intOf]; omega
        · go_wp2_with fail
          go_returns
          obtain rfl : k = n := by omega
          exact ⟨fastV_ok HC.out HL.out hq'.out, hB⟩
  · exact err 1 (by decide) h (by simp)
  · exact err 2 (by decide) h (by simp)
end Go.Proofs.Ytldhhbnochlmlaa
