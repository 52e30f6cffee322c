/- Contracts: a number in a list; a text of letters. -/
import Derived.Test.YtajcdaclbammaaaI64
import Derived.Test.YtajcdaclbammaaaTx
import Derived.Test.YtajcdaclbammaaaSb
import Derived.Test.YtajcdaclbammaaaIx
namespace Go.Proofs.Ytajcdaclbammaaa
open Go.RowKit Go.BigFrame
attribute [local go_sem] sub_cell sub_frozen drewN_setCell

def hasZ (z : List Int) (x : Int) : Bool := decide (x ∈ z)
theorem hasZ_at {z : List Int} {k : Nat} {x : Int} (h : z[k]? = some x) : hasZ z x = true := decide_eq_true (List.mem_of_getElem? h)
theorem hasZ_step {z : List Int} {k : Nat} {x y : Int} (h : z[k]? = some y) (hn : x ∉ z.take k) (hne : y ≠ x) : x ∉ z.take (k + 1) := by
  rw [List.take_add_one, h, List.mem_append]
  rintro (h1 | h1)
  · exact hn h1
  · simp at h1; exact hne h1.symm
theorem hasZ_end {z : List Int} {n : Nat} {x : Int} (hl : z.length = n) (hn : x ∉ z.take n) : hasZ z x = false := by
  rw [List.take_of_length_le (by omega)] at hn
  exact decide_eq_false hn
set_option maxHeartbeats 1000000 in
theorem c_l00Has (A : Option Addr) (n c : Nat) (z : List Int) (x : Int) (r : Bool) (h : hasZ z x = r) (w : World) (ha : Zs w A n z) (hn : n ≤ 4611686018427387904) :
    Calls Try.prog 59 #[.slice A n c, .int .i64 x] w fun e w' => e = .returned (.bool r) ∧ w = w' := by
  subst h
  have HL := Lib.hid ha.1
  have HA := Lib.hid ha
  clear ha
  go_enter Try.func59, Try.ntmps59
  go_wp2_with fail
  go_loop [5] (fun i => ∃ k : Nat, k ≤ n ∧ i = .int .i64 k ∧ Hid (x ∉ z.take k)) (fun i => n - (intOf i).toNat)
  case atStart => exact ⟨0, Nat.zero_le _, rfl, Lib.hid (by simp)⟩
  case round =>
    obtain ⟨k, hk, rfl, hn'⟩ := hrel
    by_cases hlt : k < n
    · obtain ⟨b, o, y, rfl, hb1, hb2, hx, c0⟩ := z_at HA.out (Below.refl _ _) hlt
      have HX := Lib.hid hx
      clear hx
      by_cases e : y = x
      · subst e
        go_wp2_with fail
        go_ret
        exact ⟨by rw [hasZ_at HX.out]; rfl, rfl⟩
      · have e1 : (y == x) = false := by simpa using e
        have E := Lib.hid e
        clear e
        go_wp2_with fail
        go_round
        case rel => exact ⟨k + 1, by omega, by go_num, hasZ_step HX.out hn'.out E.out⟩
        case measure => simp [intOf]; omega
    · obtain rfl : k = n := by omega
      have HE := Lib.hid (hasZ_end HL.out hn'.out)
      go_wp2_with fail
      go_ret
      exact ⟨by rw [HE.out]; rfl, rfl⟩
set_option maxHeartbeats 1000000 in
theorem c_contains (A : Option Addr) (n c : Nat) (z : List Int) (x : Int) (r : Bool) (h : hasZ z x = r) (w : World) (ha : Zs w A n z) (hn : n ≤ 4611686018427387904) :
    Calls Try.prog 64 #[.slice A n c, .int .i64 x] w fun e w' => e = .returned (.bool r) ∧ w = w' := by
  subst h
  have HL := Lib.hid ha.1
  have HA := Lib.hid ha
  clear ha
  go_enter Try.func64, Try.ntmps64
  go_wp2_with fail
  go_loop [9] (fun i => ∃ k : Nat, k ≤ n ∧ i = .int .i64 k ∧ Hid (x ∉ z.take k)) (fun i => n - (intOf i).toNat)
  case atStart => exact ⟨0, Nat.zero_le _, rfl, Lib.hid (by simp)⟩
  case round =>
    obtain ⟨k, hk, rfl, hn'⟩ := hrel
    by_cases hlt : k < n
    · obtain ⟨b, o, y, rfl, hb1, hb2, hx, c0⟩ := z_at HA.out (Below.refl _ _) hlt
      have HX := Lib.hid hx
      clear hx
      by_cases e : y = x
      · subst e
        go_wp2_with fail
        go_ret
        exact ⟨by rw [hasZ_at HX.out]; rfl, rfl⟩
      · have e1 : (y == x) = false := by simpa using e
        have E := Lib.hid e
        clear e
        go_wp2_with fail
        go_round
        case rel => exact ⟨k + 1, by omega, by go_num, hasZ_step HX.out hn'.out E.out⟩
        case measure => simp [intOf]; omega
    · obtain rfl : k = n := by omega
      have HE := Lib.hid (hasZ_end HL.out hn'.out)
      go_wp2_with fail
      go_ret
      exact ⟨by rw [HE.out]; rfl, rfl⟩
set_option maxHeartbeats 1000000 in
theorem c_l02Text (s : ByteArray) (r : Bool) (h : textB 33 100 (bl s) = r) (w : World) (hs : s.size ≤ maxLen) :
    Calls Try.prog 57 #[.string s] w fun e w' => e = .returned (.bool r) ∧ w = w' := by
  subst h
  unfold maxLen at hs
  go_enter Try.func57, Try.ntmps57
  go_wp2_with fail
  go_loop [3] (fun i => ∃ k : Nat, k ≤ s.size ∧ i = .int .i64 k ∧ Hid (((bl s).take k).all (okB 33) = true)) (fun i => s.size - (intOf i).toNat)
  case atStart => exact ⟨0, Nat.zero_le _, rfl, rfl⟩
  case round =>
    obtain ⟨k, hk, rfl, hn⟩ := hrel
    by_cases hlt : k < s.size
    · have hg := Lib.hid (bl_get s k hlt)
      by_cases h1 : (s[k].toNat : Int) < 33
      · go_wp2_with fail
        go_ret
        exact ⟨by rw [textB_bad hg.out (okB_lo (lo := 33) h1)]; rfl, rfl⟩
      · by_cases h2 : (s[k].toNat : Int) ≤ 126
        · have h3 : ¬ (126 : Int) < (s[k].toNat : Int) := by omega
          go_wp2_with fail
          go_round
          case rel => exact ⟨k + 1, by omega, by go_num, all_bytes hg.out hn.out (okB_yes (lo := 33) h1 h2)⟩
          case measure => simp [intOf]; omega
        · have h3 : (126 : Int) < (s[k].toNat : Int) := by omega
          go_wp2_with fail
          go_ret
          exact ⟨by rw [textB_bad hg.out (okB_hi (lo := 33) h3)]; rfl, rfl⟩
    · go_wp2_with fail
      go_ret
      obtain rfl : k = s.size := by omega
      exact ⟨by rw [textB_end hn.out]; rfl, rfl⟩
end Go.Proofs.Ytajcdaclbammaaa
