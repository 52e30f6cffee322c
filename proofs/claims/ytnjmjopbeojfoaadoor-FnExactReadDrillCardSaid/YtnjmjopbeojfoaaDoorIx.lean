/- Contracts: where a byte stands in a text; texts of letters. -/
import Derived.Test.YtnjmjopbeojfoaaDoorTx
namespace Go.Proofs.YtnjmjopbeojfoaaDoor
open Go.RowKit Go.BigFrame
attribute [local go_sem] sub_cell sub_frozen drewN_setCell

/-- Where a byte stands first, counted from o on; -1 if nowhere. -/
def idxA : List UInt8 → UInt8 → Int → Int
  | [], _, _ => -1
  | a :: l, c, o => if a = c then o else idxA l c (o + 1)
theorem idx_at {l : List UInt8} {c : UInt8} {k : Nat} (o : Int) (h : l[k]? = some c) (hn : ∀ j, j < k → l[j]? ≠ some c) : idxA l c o = o + k := by
  induction l generalizing k o with
  | nil => simp at h
  | cons a l ih =>
    cases k with
    | zero => simp at h; simp [idxA, h]
    | succ k =>
      have h0 := hn 0 (by omega)
      simp at h0
      rw [idxA, if_neg h0, ih (k := k) (o + 1) (by simpa using h) (fun j hj => by simpa using hn (j + 1) (by omega))]
      omega
theorem idx_none {l : List UInt8} {c : UInt8} (o : Int) (hn : ∀ j : Nat, l[j]? ≠ some c) : idxA l c o = -1 := by
  induction l generalizing o with
  | nil => rfl
  | cons a l ih =>
    have h0 := hn 0
    simp at h0
    rw [idxA, if_neg h0]
    exact ih (o + 1) (fun j => by simpa using hn (j + 1))
theorem idx_le {l : List UInt8} {c : UInt8} {j : Nat} (o : Int) (h : l[j]? = some c) : idxA l c o ≤ o + j := by
  induction l generalizing j o with
  | nil => simp at h
  | cons a l ih =>
    rw [idxA]
    split
    · omega
    · rename_i hne
      cases j with
      | zero => simp at h; exact absurd h hne
      | succ j =>
        have := ih (j := j) (o + 1) (by simpa using h)
        omega
theorem idx_bd (l : List UInt8) (c : UInt8) (o : Int) (ho : 0 ≤ o) : -1 ≤ idxA l c o ∧ idxA l c o ≤ o + l.length := by
  induction l generalizing o with
  | nil => simp [idxA]; omega
  | cons a l ih =>
    rw [idxA]
    split
    · simp; omega
    · have := ih (o + 1) (by omega)
      simp; omega

set_option maxHeartbeats 400000 in
theorem c_l05Index (s : ByteArray) (c : UInt8) (w : World) (hs : s.size ≤ maxLen) :
    Calls Tryd.prog 20 #[.string s, .int .u8 (c.toNat : Int)] w fun r w' => r = .returned (.int .i64 (idxA (bl s) c 0)) ∧ w = w' := by
  unfold maxLen at hs
  go_enter Tryd.func20, Tryd.ntmps20
  go_wp2_with fail
  go_loop [5] (fun i => ∃ k : Nat, k ≤ s.size ∧ i = .int .i64 k ∧ Hid (∀ j, j < k → (bl s)[j]? ≠ some c)) (fun i => s.size - (intOf i).toNat)
  case atStart => exact ⟨0, Nat.zero_le _, rfl, fun j hj => by omega⟩
  case round =>
    obtain ⟨k, hk, rfl, hn⟩ := hrel
    by_cases hlt : k < s.size
    · have hg := Lib.hid (bl_get s k hlt)
      by_cases hc : s[k] = c
      · have h1 : ((s[k].toNat : Int) == (c.toNat : Int)) = true := by simp [hc]
        have HC := Lib.hid hc
        clear hc
        go_wp2_with fail
        go_ret
        exact ⟨by rw [idx_at 0 (hg.out.trans (by rw [HC.out])) hn.out]; simp, rfl⟩
      · have h1 : ((s[k].toNat : Int) == (c.toNat : Int)) = false := by
          simp only [beq_eq_false_iff_ne, ne_eq, Int.natCast_inj]
          intro e
          exact hc (UInt8.toNat_inj.1 e)
        have HC := Lib.hid hc
        clear hc
        go_wp2_with fail
        go_round
        case rel =>
          refine ⟨k + 1, by omega, by go_num, fun j hj => ?_⟩
          by_cases hjk : j = k
          · subst hjk
            rw [hg.out]
            intro e
            exact HC.out (Option.some.inj e)
          · exact hn.out j (by omega)
        case measure => simp [intOf]; omega
    · go_wp2_with fail
      go_ret
      refine ⟨?_, rfl⟩
      rw [idx_none 0 (fun j => by
        by_cases hj : j < s.size
        · exact hn.out j (by omega)
        · rw [bl_none s j (by omega)]; simp)]
      rfl

set_option maxHeartbeats 1000000 in
theorem c_l17Text (s : ByteArray) (m : Int) (r : Bool) (h : textB 33 m (bl s) = r) (w : World) (hs : s.size ≤ maxLen) :
    Calls Tryd.prog 22 #[.string s, .int .i64 m] w fun e w' => e = .returned (.bool r) ∧ w = w' := by
  subst h
  unfold maxLen at hs
  go_enter Tryd.func22, Tryd.ntmps22
  go_wp2_with fail
  go_loop [5] (fun i => ∃ k : Nat, k ≤ s.size ∧ i = .int .i64 k ∧ Hid (((bl s).take k).all (okB 33) = true)) (fun i => s.size - (intOf i).toNat)
  case atStart => exact ⟨0, Nat.zero_le _, rfl, rfl⟩
  case round =>
    obtain ⟨k, hk, rfl, hn⟩ := hrel
    by_cases hlt : k < s.size
    · have hg := Lib.hid (bl_get s k hlt)
      by_cases h1 : (s[k].toNat : Int) < 33
      · go_wp2_with fail
        go_ret
        exact ⟨by rw [textB_bad hg.out (okB_lo (lo := 33) h1)]; rfl, rfl⟩
      · by_cases h2 : (s[k].toNat : Int) ≤ 126
        · have h3 : ¬ (126 : Int) < (s[k].toNat : Int) := by omega
          go_wp2_with fail
          go_round
          case rel => exact ⟨k + 1, by omega, by go_num, all_bytes hg.out hn.out (okB_yes (lo := 33) h1 h2)⟩
          case measure => simp [intOf]; omega
        · have h3 : (126 : Int) < (s[k].toNat : Int) := by omega
          go_wp2_with fail
          go_ret
          exact ⟨by rw [textB_bad hg.out (okB_hi (lo := 33) h3)]; rfl, rfl⟩
    · go_wp2_with fail
      go_ret
      obtain rfl : k = s.size := by omega
      exact ⟨by rw [textB_end hn.out]; rfl, rfl⟩
end Go.Proofs.YtnjmjopbeojfoaaDoor
