/- Contracts: indices that rise, within bounds. -/
import Derived.Test.YtajcdaclbammaaaI64
import Derived.Test.YtajcdaclbammaaaBt
namespace Go.Proofs.Ytajcdaclbammaaa
open Go.RowKit Go.BigFrame
attribute [local go_sem] sub_cell sub_frozen drewN_setCell

/-- Number i is within bounds, and greater than the one before it. -/
def riseZ (lo hi : Int) (l : List Int) : Nat → Bool
  | 0 => match l[0]? with | some x => betw x lo hi | none => false
  | i + 1 => match l[i]?, l[i + 1]? with | some y, some x => betw x lo hi && decide (y < x) | _, _ => false
def risesZ (lo hi : Int) (l : List Int) : Bool := allN (riseZ lo hi l) l.length
theorem riseZ_bad {lo hi : Int} {l : List Int} {i : Nat} {x : Int} (h : l[i]? = some x) (hx : betw x lo hi = false) : riseZ lo hi l i = false := by
  cases i with
  | zero => simp [riseZ, h, hx]
  | succ i =>
    obtain ⟨y, hy⟩ : ∃ y, l[i]? = some y := by
      have := (List.getElem?_eq_some_iff.1 h).1
      exact ⟨l[i], List.getElem?_eq_getElem (by omega)⟩
    simp [riseZ, h, hx, hy]
theorem riseZ_zero {lo hi : Int} {l : List Int} {x : Int} (h : l[0]? = some x) (hx : betw x lo hi = true) : riseZ lo hi l 0 = true := by simp [riseZ, h, hx]
theorem riseZ_succ {lo hi : Int} {l : List Int} {i : Nat} {x y : Int} (hy : l[i]? = some y) (h : l[i + 1]? = some x) (hx : betw x lo hi = true) : riseZ lo hi l (i + 1) = decide (y < x) := by simp [riseZ, h, hx, hy]
theorem risesZ_bad {lo hi : Int} {l : List Int} {i : Nat} {x : Int} (h : l[i]? = some x) (hx : riseZ lo hi l i = false) : risesZ lo hi l = false := allN_bad (List.getElem?_eq_some_iff.1 h).1 hx
theorem risesZ_end {lo hi : Int} {l : List Int} {n : Nat} (hl : l.length = n) (h : allN (riseZ lo hi l) n = true) : risesZ lo hi l = true := by subst hl; exact h
theorem risesZ_bd {lo hi : Int} {l : List Int} {i : Nat} {x : Int} (h : risesZ lo hi l = true) (hx : l[i]? = some x) : lo ≤ x ∧ x ≤ hi := by
  have h1 := allN_at h (List.getElem?_eq_some_iff.1 hx).1
  cases hb : betw x lo hi
  · rw [riseZ_bad hx hb] at h1; cases h1
  · exact betw_true hb

set_option maxHeartbeats 2000000 in
theorem c_l00Rises (A : Option Addr) (n c : Nat) (l : List Int) (lo hi : Int) (r : Bool) (h : risesZ lo hi l = r) (w : World) (ha : Zs w A n l) (hn : n ≤ 1048576) :
    Calls Try.prog 58 #[.slice A n c, .int .i64 lo, .int .i64 hi] w fun e w' => e = .returned (.bool r) ∧ Draws w w' := by
  subst h
  have HL := Lib.hid ha.1
  have HA := Lib.hid ha
  clear ha
  go_enter Try.func58, Try.ntmps58
  go_wp2_with fail
  go_loopw [7] (fun i wr => ∃ k nd : Nat, k ≤ n ∧ i = .int .i64 k ∧ wr = w.drewN nd ∧ Hid (allN (riseZ lo hi l) k = true)) (fun i _ => n - (intOf i).toNat)
  case atStart => exact ⟨0, 0, Nat.zero_le _, rfl, rfl, rfl⟩
  case round =>
    obtain ⟨k, nd, hk, rfl, rfl, hok⟩ := hrel
    by_cases hlt : k < n
    · obtain ⟨b, o, x, rfl, hb1, hb2, hx, c0⟩ := z_at HA.out (Below.refl _ _) hlt
      have HX := Lib.hid hx
      clear hx
      have hltI : (k : Int) < n := by omega
      have hk0 : (0 : Int) ≤ (k : Int) := by omega
      cases g : betw x lo hi <;> have G := Lib.hid g <;> clear g
      · go_wp2_with fail
        go_quiet ((go_at_call 60; exact q1 (c_l00In _ _ _ _ G.out _)))
        go_wp2_with fail
        go_ret
        exact ⟨by rw [risesZ_bad HX.out (riseZ_bad HX.out G.out)]; rfl, ⟨_, by simp only [World.drewN_drewN]; rfl⟩⟩
      · rcases k with _ | k
        · have c00 : w.cell? ⟨b, o, none⟩ = some (.int .i64 x) := c0
          have hn0 : (0 : Int) < n := by omega
          go_wp2_with fail
          go_quiet ((go_at_call 60; exact q1 (c_l00In _ _ _ _ G.out _)))
          go_wp2_with fail
          go_roundw
          case rel => exact ⟨1, _, by omega, by go_num, rfl, allN_succ hok.out (riseZ_zero HX.out G.out)⟩
          case measure => simp [intOf]; omega
        · obtain ⟨b', o', y, hA, _, _, hy, c1⟩ := z_at HA.out (Below.refl _ _) (show k < n by omega)
          simp only [Option.some.injEq, Addr.mk.injEq, and_true] at hA
          obtain ⟨rfl, rfl⟩ := hA
          have HY := Lib.hid hy
          clear hy
          have c0' : w.cell? ⟨b, o + k + 1, none⟩ = some (.int .i64 x) := c0
          have hI1 : (k : Int) + 1 < n := by omega
          have hI2 : (k : Int) < n := by omega
          have hI3 : (0 : Int) ≤ (k : Int) := by omega
          have hI4 : (0 : Int) < (k : Int) + 1 := by omega
          have hI5 : (0 : Int) ≤ (k : Int) + 1 := by omega
          by_cases hyx : y < x
          · have hyx' : ¬ x ≤ y := by omega
            have HYX := Lib.hid hyx
            clear hyx
            go_wp2_with fail
            go_quiet ((go_at_call 60; exact q1 (c_l00In _ _ _ _ G.out _)))
            go_wp2_with fail
            go_roundw
            case rel => exact ⟨k + 1 + 1, _, by omega, by go_num, rfl, allN_succ hok.out (by rw [riseZ_succ HY.out HX.out G.out, decide_eq_true (by have := HYX.out; omega)])⟩
            case measure => simp [intOf]; omega
          · have hyx' : x ≤ y := by omega
            have HYX := Lib.hid hyx
            clear hyx
            go_wp2_with fail
            go_quiet ((go_at_call 60; exact q1 (c_l00In _ _ _ _ G.out _)))
            go_wp2_with fail
            go_ret
            exact ⟨by rw [risesZ_bad HX.out (by rw [riseZ_succ HY.out HX.out G.out, decide_eq_false (by have := HYX.out; omega)])]; rfl, ⟨_, by simp only [World.drewN_drewN]; rfl⟩⟩
    · obtain rfl : k = n := by omega
      have HE := Lib.hid (risesZ_end HL.out hok.out)
      go_wp2_with fail
      go_ret
      exact ⟨by rw [HE.out]; rfl, ⟨_, rfl⟩⟩
set_option maxHeartbeats 2000000 in
theorem c_areIndices (A : Option Addr) (n c m : Nat) (l : List Int) (r : Bool) (h : risesZ 0 ((m : Int) - 1) l = r) (w : World) (ha : Zs w A n l) (hn : n ≤ 1048576) (hm : m ≤ 1048576) :
    Calls Try.prog 63 #[.slice A n c, .int .i64 (m : Int)] w fun e w' => e = .returned (.bool r) ∧ w = w' := by
  subst h
  have HL := Lib.hid ha.1
  have HA := Lib.hid ha
  clear ha
  go_enter Try.func63, Try.ntmps63
  go_wp2_with fail
  go_loop [9] (fun i => ∃ k : Nat, k ≤ n ∧ i = .int .i64 k ∧ Hid (allN (riseZ 0 ((m : Int) - 1) l) k = true)) (fun i => n - (intOf i).toNat)
  case atStart => exact ⟨0, Nat.zero_le _, rfl, rfl⟩
  case round =>
    obtain ⟨k, hk, rfl, hok⟩ := hrel
    by_cases hlt : k < n
    · obtain ⟨b, o, x, rfl, hb1, hb2, hx, c0⟩ := z_at HA.out (Below.refl _ _) hlt
      have HX := Lib.hid hx
      clear hx
      cases g : betw x 0 ((m : Int) - 1) <;> have G := Lib.hid g <;> clear g
      · go_wp2_with (go_at_call 62; refine (c_between _ _ _ _ G.out _).mono ?_; rintro e w' ⟨rfl, rfl⟩)
        go_ret
        exact ⟨by rw [risesZ_bad HX.out (riseZ_bad HX.out G.out)]; rfl, rfl⟩
      · rcases k with _ | k
        · have c00 : w.cell? ⟨b, o, none⟩ = some (.int .i64 x) := c0
          have hn0 : (0 : Int) < n := by omega
          go_wp2_with (go_at_call 62; refine (c_between _ _ _ _ G.out _).mono ?_; rintro e w' ⟨rfl, rfl⟩)
          go_round
          case rel => exact ⟨1, by omega, by go_num, allN_succ hok.out (riseZ_zero HX.out G.out)⟩
          case measure => simp [intOf]; omega
        · obtain ⟨b', o', y, hA, _, _, hy, c1⟩ := z_at HA.out (Below.refl _ _) (show k < n by omega)
          simp only [Option.some.injEq, Addr.mk.injEq, and_true] at hA
          obtain ⟨rfl, rfl⟩ := hA
          have HY := Lib.hid hy
          clear hy
          have c0' : w.cell? ⟨b, o + k + 1, none⟩ = some (.int .i64 x) := c0
          have hI1 : (k : Int) + 1 < n := by omega
          have hI4 : (0 : Int) < (k : Int) + 1 := by omega
          by_cases hyx : y < x
          · have hyx' : ¬ x ≤ y := by omega
            have HYX := Lib.hid hyx
            clear hyx
            go_wp2_with (go_at_call 62; refine (c_between _ _ _ _ G.out _).mono ?_; rintro e w' ⟨rfl, rfl⟩)
            go_round
            case rel => exact ⟨k + 1 + 1, by omega, by go_num, allN_succ hok.out (by rw [riseZ_succ HY.out HX.out G.out, decide_eq_true (by have := HYX.out; omega)])⟩
            case measure => simp [intOf]; omega
          · have hyx' : x ≤ y := by omega
            have HYX := Lib.hid hyx
            clear hyx
            go_wp2_with (go_at_call 62; refine (c_between _ _ _ _ G.out _).mono ?_; rintro e w' ⟨rfl, rfl⟩)
            go_ret
            exact ⟨by rw [risesZ_bad HX.out (by rw [riseZ_succ HY.out HX.out G.out, decide_eq_false (by have := HYX.out; omega)])]; rfl, rfl⟩
    · obtain rfl : k = n := by omega
      have HE := Lib.hid (risesZ_end HL.out hok.out)
      go_wp2_with fail
      go_ret
      exact ⟨by rw [HE.out]; rfl, rfl⟩
end Go.Proofs.Ytajcdaclbammaaa
