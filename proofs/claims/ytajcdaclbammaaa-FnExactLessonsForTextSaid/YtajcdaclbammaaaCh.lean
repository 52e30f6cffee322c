/- Contracts: impl.chosen, impl.compareNumbers. -/
import Derived.Test.YtajcdaclbammaaaFw
import Derived.Test.YtajcdaclbammaaaOw
namespace Go.Proofs.Ytajcdaclbammaaa
open Go.RowKit Go.BigFrame
attribute [local go_sem] sub_cell sub_frozen drewN_setCell

theorem drop_at {α : Type} {l : List α} {k : Nat} {x : α} (h : l[k]? = some x) : l.drop k = x :: l.drop (k + 1) := by
  obtain ⟨h1, rfl⟩ := List.getElem?_eq_some_iff.1 h
  exact List.drop_eq_getElem_cons h1
theorem drop_all {α : Type} {l : List α} {k : Nat} (h : l.length ≤ k) : l.drop k = [] := List.drop_eq_nil_of_le h
theorem cmpZ_lt {a b : Int} (s t : List Int) (h : a < b) : cmpZ (a :: s) (b :: t) = -1 := if_pos h
theorem cmpZ_gt {a b : Int} (s t : List Int) (h : b < a) : cmpZ (a :: s) (b :: t) = 1 := by rw [cmpZ, if_neg (by omega), if_pos h]
theorem cmpZ_same {a b : Int} (s t : List Int) (h : a = b) : cmpZ (a :: s) (b :: t) = cmpZ s t := by rw [cmpZ, if_neg (by omega), if_neg (by omega)]
set_option maxHeartbeats 4000000 in
theorem c_compareNumbers (A B : Option Addr) (n m c d : Nat) (a b : List Int) (w : World) (ha : Zs w A n a) (hb : Zs w B m b) (hn : n ≤ 1048576) (hm : m ≤ 1048576) :
    Calls Try.prog 54 #[.slice A n c, .slice B m d] w fun r w' => r = .returned (.int .i64 (cmpZ a b)) ∧ Draws w w' := by
  have HA := Lib.hid ha
  have HB := Lib.hid hb
  have HLA := Lib.hid ha.1
  have HLB := Lib.hid hb.1
  clear ha hb
  go_enter Try.func54, Try.ntmps54
  go_wp2_with fail
  go_loopw [5] (fun i wr => ∃ k nd : Nat, k ≤ n ∧ k ≤ m ∧ i = .int .i64 k ∧ wr = w.drewN nd ∧ Hid (cmpZ (a.drop k) (b.drop k) = cmpZ a b)) (fun i _ => n - (intOf i).toNat)
  case atStart => exact ⟨0, 0, Nat.zero_le _, Nat.zero_le _, rfl, rfl, rfl⟩
  case round =>
    obtain ⟨k, nd, hkn, hkm, rfl, rfl, hc⟩ := hrel
    by_cases h1 : k < n
    · by_cases h2 : k < m
      · obtain ⟨p, o, x, rfl, hp1, hp2, hx, c0⟩ := z_at HA.out (Below.refl _ _) h1
        obtain ⟨p', o', y, rfl, hp1', hp2', hy, c1⟩ := z_at HB.out (Below.refl _ _) h2
        have HX := Lib.hid (drop_at hx)
        have HY := Lib.hid (drop_at hy)
        have hk0 : (0 : Int) ≤ (k : Int) := by omega
        have h1I : (k : Int) < n := by omega
        have h2I : (k : Int) < m := by omega
        clear hx hy
        by_cases hlt : x < y
        · have HC := Lib.hid ((HX.out ▸ HY.out ▸ hc.out : cmpZ (x :: _) (y :: _) = _).symm.trans (cmpZ_lt _ _ hlt))
          go_wp2_with fail
          go_quiet (fail)
          go_wp2_with fail
          go_ret
          exact ⟨by rw [HC.out]; rfl, ⟨_, by simp only [World.drewN_drewN]; rfl⟩⟩
        · by_cases hgt : y < x
          · have HC := Lib.hid ((HX.out ▸ HY.out ▸ hc.out : cmpZ (x :: _) (y :: _) = _).symm.trans (cmpZ_gt _ _ hgt))
            go_wp2_with fail
            go_quiet (fail)
            go_wp2_with fail
            go_quiet (fail)
            go_wp2_with fail
            go_ret
            exact ⟨by rw [HC.out]; rfl, ⟨_, by simp only [World.drewN_drewN]; rfl⟩⟩
          · have HC := Lib.hid ((cmpZ_same _ _ (by omega)).symm.trans (HX.out ▸ HY.out ▸ hc.out : cmpZ (x :: _) (y :: _) = _))
            go_wp2_with fail
            go_quiet (fail)
            go_wp2_with fail
            go_quiet (fail)
            go_wp2_with fail
            go_roundw
            case rel => exact ⟨k + 1, _, by omega, by omega, by go_num, rfl, HC.out⟩
            case measure => simp [intOf]; omega
      · obtain rfl : k = m := by omega
        obtain ⟨p, o, x, rfl, hp1, hp2, hx, c0⟩ := z_at HA.out (Below.refl _ _) h1
        have HC : Hid (cmpZ a b = 1) := by show _ = _; rw [← hc.out, drop_at hx, drop_all (l := b) (by rw [HLB.out]; exact Nat.le_refl _)]; rfl
        have i1 : (k : Int) < n := by omega
        have i2 : ¬ (n : Int) < k := by omega
        clear hx hc c0
        go_wp2_with fail
        go_ret
        exact ⟨by rw [HC.out]; rfl, ⟨_, rfl⟩⟩
    · obtain rfl : k = n := by omega
      by_cases h2 : k < m
      · obtain ⟨p', o', y, rfl, hp1', hp2', hy, c1⟩ := z_at HB.out (Below.refl _ _) h2
        have HC : Hid (cmpZ a b = -1) := by show _ = _; rw [← hc.out, drop_at hy, drop_all (l := a) (by rw [HLA.out]; exact Nat.le_refl _)]; rfl
        have i1 : (k : Int) < m := by omega
        clear hy hc c1
        go_wp2_with fail
        go_ret
        exact ⟨by rw [HC.out]; rfl, ⟨_, rfl⟩⟩
      · obtain rfl : k = m := by omega
        have HC : Hid (cmpZ a b = 0) := by show _ = _; rw [← hc.out, drop_all (l := b) (by rw [HLB.out]; exact Nat.le_refl _), drop_all (l := a) (by rw [HLA.out]; exact Nat.le_refl _)]; rfl
        clear hc
        go_wp2_with fail
        go_ret
        exact ⟨by rw [HC.out]; rfl, ⟨_, rfl⟩⟩
theorem chsN_yes {set k : Nat} (h : set.testBit k = true) : chsN set (k + 1) = chsN set k ++ [(k : Int)] := by simp [chsN, h]
theorem chsN_no {set k : Nat} (h : set.testBit k = false) : chsN set (k + 1) = chsN set k := by simp [chsN, h]
theorem chsN_len (set k : Nat) : (chsN set k).length ≤ k := by
  have := Rsg_len (chsN_rsg set k) (by omega)
  omega
theorem bit_test (set k : Nat) (h : set ≤ 1048576) : (bits .and .i64 ((set : Int) / 2 ^ k) 1 == 1) = set.testBit k := by
  have e0 : ((set : Int) / 2 ^ k) = ((set / 2 ^ k : Nat) : Int) := by
    rw [Int.natCast_ediv, Int.natCast_pow]; rfl
  have hd : set / 2 ^ k ≤ set := Nat.div_le_self _ _
  have h1 : (BitVec.ofInt 64 ((set / 2 ^ k : Nat) : Int)).toNat = set / 2 ^ k := by
    rw [BitVec.ofInt_natCast, BitVec.toNat_ofNat]; exact Nat.mod_eq_of_lt (by omega)
  have h2 : (BitVec.ofInt 64 (1 : Int)).toNat = 1 := by decide
  have h3 : bits .and .i64 ((set / 2 ^ k : Nat) : Int) 1 = ((set / 2 ^ k % 2 : Nat) : Int) := by
    show IntKind.i64.wrap ((BitVec.ofInt 64 ((set / 2 ^ k : Nat) : Int) &&& BitVec.ofInt 64 (1 : Int)).toNat : Int) = _
    rw [BitVec.toNat_and, h1, h2, Nat.and_one_is_mod]
    simp [IntKind.wrap, IntKind.signed, IntKind.bits]
    omega
  rw [e0, h3, Nat.testBit_eq_decide_div_mod_eq, Bool.eq_iff_iff]
  simp only [beq_iff_eq, decide_eq_true_eq]
  omega
set_option maxHeartbeats 4000000 in
theorem c_chosen (set n : Nat) (w : World) (hset : set ≤ 1048576) (hn : n ≤ 20) :
    Calls Try.prog 44 #[.int .i64 (set : Int), .int .i64 (n : Int)] w (ZsPost (chsN set n) w) := by
  go_enter Try.func44, Try.ntmps44
  go_wp2_with fail
  go_loopw [5, 9] (fun v i wr => ∃ k : Nat, k ≤ n ∧ i = .int .i64 k ∧ Below w.heap.size w wr ∧ Hid (wr.ownsRow w.heap.size 2 1 v (chsN set k).length ((chsN set k).map (Value.int .i64)))) (fun _ i _ => n - (intOf i).toNat)
  case atStart => exact ⟨0, Nat.zero_le _, rfl, by (repeat' (first | (with_reducible exact Below.refl _ _) | (with_reducible assumption) | (with_reducible refine below_drewN ?_ _) | (with_reducible refine Below.drew ?_) | (with_reducible refine Below.alloc ?_ ?_ _) | (with_reducible refine Below.setCell ?_ ?_ _) | go_size)), World.ownsRow_made _ _ 0 (Nat.le_refl _) (by simp [maxLen]) rfl⟩
  case round =>
    obtain ⟨k, hk, rfl, hB, hown⟩ := hrel
    obtain ⟨A', c', rfl⟩ := own_slice hown.out
    have hl := chsN_len set k
    have hz := hB.size
    by_cases hlt : k < n
    · have hbt := bit_test set k hset
      cases g : set.testBit k
      · have G := Lib.hid (chsN_no g)
        rw [g] at hbt
        clear g
        go_wp2_with fail
        go_roundw
        case rel => exact ⟨k + 1, by omega, by go_num, hB, by show World.ownsRow _ _ _ _ _ (chsN set (k + 1)).length _; rw [G.out]; exact hown.out⟩
        case measure => simp [intOf]; omega
      · have G := Lib.hid (chsN_yes g)
        rw [g] at hbt
        clear g
        go_wp2_with (at_builtin; refine app1 rfl (.tmp 17) (.tmp 19) _ rfl w.heap.size 2 _ 8 Try.underlying30 info_int64 rfl _ _ rfl _ _ _ rfl hown.out rfl (by omega) (by omega) hz ?_; intro v' w2 hown2 hb2 hg2; have HO2 := Lib.hid hown2; clear hown2)
        go_roundw
        case rel => exact ⟨k + 1, by omega, by go_num, hB.trans hb2, by show World.ownsRow _ _ _ _ _ (chsN set (k + 1)).length _; rw [G.out, List.length_append, List.map_append]; exact HO2.out⟩
        case measure => simp [intOf]; omega
    · obtain rfl : k = n := by omega
      go_wp2_with fail
      go_ret
      exact ZsPost.mk_ rfl hown.out hB
end Go.Proofs.Ytajcdaclbammaaa
