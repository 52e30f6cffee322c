/- Contracts: steps of an alignment, bytes of texts. -/
import Derived.Test.YthgoofjojanakaaTx
namespace Go.Proofs.Ythgoofjojanakaa
open Go.RowKit Go.BigFrame
attribute [local go_sem] sub_cell sub_frozen drewN_setCell

/-- Where a byte stands first, counted from o on; -1 if nowhere. -/
def idxA : List UInt8 → UInt8 → Int → Int
  | [], _, _ => -1
  | a :: l, c, o => if a = c then o else idxA l c (o + 1)
theorem idx_at {l : List UInt8} {c : UInt8} {k : Nat} (o : Int) (h : l[k]? = some c) (hn : ∀ j, j < k → l[j]? ≠ some c) : idxA l c o = o + k := by
  induction l generalizing k o with
  | nil => simp at h
  | cons a l ih =>
    cases k with
    | zero => simp at h; simp [idxA, h]
    | succ k =>
      have h0 := hn 0 (by omega)
      simp at h0
      rw [idxA, if_neg h0, ih (k := k) (o + 1) (by simpa using h) (fun j hj => by simpa using hn (j + 1) (by omega))]
      omega
theorem idx_none {l : List UInt8} {c : UInt8} (o : Int) (hn : ∀ j : Nat, l[j]? ≠ some c) : idxA l c o = -1 := by
  induction l generalizing o with
  | nil => rfl
  | cons a l ih =>
    have h0 := hn 0
    simp at h0
    rw [idxA, if_neg h0]
    exact ih (o + 1) (fun j => by simpa using hn (j + 1))

set_option maxHeartbeats 400000 in
theorem c_l05Index (s : ByteArray) (c : UInt8) (w : World) (hs : s.size ≤ maxLen) :
    Calls Try.prog 38 #[.string s, .int .u8 (c.toNat : Int)] w fun r w' => r = .returned (.int .i64 (idxA (bl s) c 0)) ∧ w = w' := by
  unfold maxLen at hs
  go_enter Try.func38, Try.ntmps38
  go_wp2_with fail
  go_loop [5] (fun i => ∃ k : Nat, k ≤ s.size ∧ i = .int .i64 k ∧ Hid (∀ j, j < k → (bl s)[j]? ≠ some c)) (fun i => s.size - (intOf i).toNat)
  case atStart => exact ⟨0, Nat.zero_le _, rfl, fun j hj => by omega⟩
  case round =>
    obtain ⟨k, hk, rfl, hn⟩ := hrel
    by_cases hlt : k < s.size
    · have hg := Lib.hid (bl_get s k hlt)
      by_cases hc : s[k] = c
      · have h1 : ((s[k].toNat : Int) == (c.toNat : Int)) = true := by simp [hc]
        have HC := Lib.hid hc
        clear hc
        go_wp2_with fail
        go_ret
        exact ⟨by rw [idx_at 0 (hg.out.trans (by rw [HC.out])) hn.out]; simp, rfl⟩
      · have h1 : ((s[k].toNat : Int) == (c.toNat : Int)) = false := by
          simp only [beq_eq_false_iff_ne, ne_eq, Int.natCast_inj]
          intro e
          exact hc (UInt8.toNat_inj.1 e)
        have HC := Lib.hid hc
        clear hc
        go_wp2_with fail
        go_round
        case rel =>
          refine ⟨k + 1, by omega, by go_num, fun j hj => ?_⟩
          by_cases hjk : j = k
          · subst hjk
            rw [hg.out]
            intro e
            exact HC.out (Option.some.inj e)
          · exact hn.out j (by omega)
        case measure => simp [intOf]; omega
    · go_wp2_with fail
      go_ret
      refine ⟨?_, rfl⟩
      rw [idx_none 0 (fun j => by
        by_cases hj : j < s.size
        · exact hn.out j (by omega)
        · rw [bl_none s j (by omega)]; simp)]
      rfl

/-- A step of an alignment. -/
def isStepB (c : UInt8) : Bool := c == 43 || (c == 45 || (c == 61 || (c == 120 || c == 126)))
theorem idx_steps (c : UInt8) : (idxA [43, 45, 61, 120, 126] c 0 < 0) ↔ isStepB c = false := by
  simp only [idxA, isStepB]
  by_cases h1 : (43 : UInt8) = c
  · subst h1; simp
  by_cases h2 : (45 : UInt8) = c
  · subst h2; simp
  by_cases h3 : (61 : UInt8) = c
  · subst h3; simp
  by_cases h4 : (120 : UInt8) = c
  · subst h4; simp
  by_cases h5 : (126 : UInt8) = c
  · subst h5; simp
  simp [h1, h2, h3, h4, h5, eq_comm (a := c)]
def stepsB (l : List UInt8) : Bool := l.all isStepB && decide (l.length ≤ 120)
theorem stepsB_bad {l : List UInt8} {k : Nat} {c : UInt8} (h : l[k]? = some c) (hc : isStepB c = false) : stepsB l = false := by
  simp only [stepsB, Bool.and_eq_false_iff]
  left
  rw [List.all_eq_false]
  exact ⟨c, List.mem_of_getElem? h, by simp [hc]⟩
theorem stepsB_end {l : List UInt8} {n : Nat} (hl : l.length = n) (h : (l.take n).all isStepB = true) : stepsB l = decide ((n : Int) ≤ 120) := by
  rw [List.take_of_length_le (by omega)] at h
  simp only [stepsB, h, Bool.true_and, hl]
  simp; omega
set_option maxHeartbeats 1000000 in
theorem c_l19Steps (s : ByteArray) (r : Bool) (h : stepsB (bl s) = r) (w : World) (hs : s.size ≤ maxLen) :
    Calls Try.prog 37 #[.string s] w fun e w' => e = .returned (.bool r) ∧ w = w' := by
  subst h
  unfold maxLen at hs
  go_enter Try.func37, Try.ntmps37
  go_wp2_with fail
  go_loop [3] (fun i => ∃ k : Nat, k ≤ s.size ∧ i = .int .i64 k ∧ Hid (((bl s).take k).all isStepB = true)) (fun i => s.size - (intOf i).toNat)
  case atStart => exact ⟨0, Nat.zero_le _, rfl, rfl⟩
  case round =>
    obtain ⟨k, hk, rfl, hn⟩ := hrel
    by_cases hlt : k < s.size
    · have hg := Lib.hid (bl_get s k hlt)
      have hi := idx_steps s[k]
      cases hc : isStepB s[k]
      · have h1 : idxA (bl ⟨#[43, 45, 61, 120, 126]⟩) s[k] 0 < 0 := hi.2 hc
        have HC := Lib.hid hc
        clear hc hi
        go_wp2_with (go_at_call 38; refine (c_l05Index _ _ _ (by decide)).mono ?_; rintro r_ w' ⟨rfl, rfl⟩)
        go_ret
        exact ⟨by rw [stepsB_bad hg.out HC.out]; rfl, rfl⟩
      · have h1 : ¬ idxA (bl ⟨#[43, 45, 61, 120, 126]⟩) s[k] 0 < 0 := fun e => by rw [hi.1 e] at hc; cases hc
        have HC := Lib.hid hc
        clear hc hi
        go_wp2_with (go_at_call 38; refine (c_l05Index _ _ _ (by decide)).mono ?_; rintro r_ w' ⟨rfl, rfl⟩)
        go_round
        case rel => exact ⟨k + 1, by omega, by go_num, all_bytes hg.out hn.out HC.out⟩
        case measure => simp [intOf]; omega
    · go_wp2_with fail
      go_ret
      obtain rfl : k = s.size := by omega
      exact ⟨by rw [stepsB_end (bl_len s) hn.out]; rfl, rfl⟩

set_option maxHeartbeats 2000000 in
theorem c_areSteps (s : ByteArray) (r : Bool) (h : stepsB (bl s) = r) (w : World) (hs : s.size ≤ maxLen) :
    Calls Try.prog 39 #[.string s] w fun e w' => e = .returned (.bool r) ∧ w = w' := by
  subst h
  unfold maxLen at hs
  go_enter Try.func39, Try.ntmps39
  go_wp2_with fail
  go_loop [6] (fun i => ∃ k : Nat, k ≤ s.size ∧ i = .int .i64 k ∧ Hid (((bl s).take k).all isStepB = true)) (fun i => s.size - (intOf i).toNat)
  case atStart => exact ⟨0, Nat.zero_le _, rfl, rfl⟩
  case round =>
    obtain ⟨k, hk, rfl, hn⟩ := hrel
    by_cases hlt : k < s.size
    · have hg := Lib.hid (bl_get s k hlt)
      have q1 : ((s[k].toNat : Int) == 61) = (s[k] == 61) := u8_lit rfl
      have q2 : ((s[k].toNat : Int) == 120) = (s[k] == 120) := u8_lit rfl
      have q3 : ((s[k].toNat : Int) == 45) = (s[k] == 45) := u8_lit rfl
      have q4 : ((s[k].toNat : Int) == 43) = (s[k] == 43) := u8_lit rfl
      have q5 : ((s[k].toNat : Int) == 126) = (s[k] == 126) := u8_lit rfl
      cases f1 : (s[k] == 61)
      rotate_left
      · go_wp2_with fail
        first
          | (go_ret; exact ⟨by rw [stepsB_bad hg.out (by simp only [isStepB, *]; rfl)]; rfl, rfl⟩)
          | (go_round; (case rel => exact ⟨k + 1, by omega, by go_num, all_bytes hg.out hn.out (by simp [isStepB, *])⟩); (case measure => simp [intOf]; omega))
      cases f2 : (s[k] == 120)
      rotate_left
      · go_wp2_with fail
        first
          | (go_ret; exact ⟨by rw [stepsB_bad hg.out (by simp only [isStepB, *]; rfl)]; rfl, rfl⟩)
          | (go_round; (case rel => exact ⟨k + 1, by omega, by go_num, all_bytes hg.out hn.out (by simp [isStepB, *])⟩); (case measure => simp [intOf]; omega))
      cases f3 : (s[k] == 45)
      rotate_left
      · go_wp2_with fail
        first
          | (go_ret; exact ⟨by rw [stepsB_bad hg.out (by simp only [isStepB, *]; rfl)]; rfl, rfl⟩)
          | (go_round; (case rel => exact ⟨k + 1, by omega, by go_num, all_bytes hg.out hn.out (by simp [isStepB, *])⟩); (case measure => simp [intOf]; omega))
      cases f4 : (s[k] == 43)
      rotate_left
      · go_wp2_with fail
        first
          | (go_ret; exact ⟨by rw [stepsB_bad hg.out (by simp only [isStepB, *]; rfl)]; rfl, rfl⟩)
          | (go_round; (case rel => exact ⟨k + 1, by omega, by go_num, all_bytes hg.out hn.out (by simp [isStepB, *])⟩); (case measure => simp [intOf]; omega))
      cases f5 : (s[k] == 126)
      rotate_left
      · go_wp2_with fail
        first
          | (go_ret; exact ⟨by rw [stepsB_bad hg.out (by simp only [isStepB, *]; rfl)]; rfl, rfl⟩)
          | (go_round; (case rel => exact ⟨k + 1, by omega, by go_num, all_bytes hg.out hn.out (by simp [isStepB, *])⟩); (case measure => simp [intOf]; omega))
      · go_wp2_with fail
        first
          | (go_ret; exact ⟨by rw [stepsB_bad hg.out (by simp only [isStepB, *]; rfl)]; rfl, rfl⟩)
          | (go_round; (case rel => exact ⟨k + 1, by omega, by go_num, all_bytes hg.out hn.out (by simp [isStepB, *])⟩); (case measure => simp [intOf]; omega))
    · go_wp2_with fail
      go_ret
      obtain rfl : k = s.size := by omega
      exact ⟨by rw [stepsB_end (bl_len s) hn.out]; rfl, rfl⟩

/-- How often a byte stands in a text. -/
def cntB (c : UInt8) (l : List UInt8) : Nat := (l.filter (· == c)).length
theorem cntB_le (c : UInt8) (l : List UInt8) : cntB c l ≤ l.length := List.length_filter_le _ _
theorem cntB_step {l : List UInt8} {c d : UInt8} {k : Nat} (h : l[k]? = some d) : cntB c (l.take (k + 1)) = cntB c (l.take k) + if d == c then 1 else 0 := by
  unfold cntB
  rw [List.take_add_one, h, List.filter_append, List.length_append]
  by_cases e : d == c <;> simp [List.filter_cons, e]

set_option maxHeartbeats 1000000 in
theorem c_countByte (s : ByteArray) (c : UInt8) (w : World) (hs : s.size ≤ maxLen) :
    Calls Try.prog 40 #[.string s, .int .u8 (c.toNat : Int)] w fun r w' => r = .returned (.int .i64 (cntB c (bl s) : Nat)) ∧ w = w' := by
  unfold maxLen at hs
  go_enter Try.func40, Try.ntmps40
  go_wp2_with fail
  go_loop [5, 9] (fun q i => ∃ k m : Nat, k ≤ s.size ∧ m ≤ k ∧ i = .int .i64 k ∧ q = .int .i64 m ∧ Hid (cntB c ((bl s).take k) = m)) (fun _ i => s.size - (intOf i).toNat)
  case atStart => exact ⟨0, 0, Nat.zero_le _, Nat.zero_le _, rfl, rfl, rfl⟩
  case round =>
    obtain ⟨k, m, hk, hm, rfl, rfl, hn⟩ := hrel
    by_cases hlt : k < s.size
    · have hg := Lib.hid (cntB_step (c := c) (bl_get s k hlt))
      have q1 : ((s[k].toNat : Int) == (c.toNat : Int)) = (s[k] == c) := u8_eq
      cases f1 : (s[k] == c) <;> rw [f1] at q1 <;> have F := Lib.hid f1 <;> clear f1
      · go_wp2_with fail
        go_round
        case rel => exact ⟨k + 1, m, by omega, by omega, by go_num, rfl, by have h1 := hg.out; rw [F.out, hn.out] at h1; exact h1⟩
        case measure => simp [intOf]; omega
      · go_wp2_with fail
        go_round
        case rel => exact ⟨k + 1, m + 1, by omega, by omega, by go_num, by go_num, by have h1 := hg.out; rw [F.out, hn.out] at h1; exact h1⟩
        case measure => simp [intOf]; omega
    · go_wp2_with fail
      go_ret
      obtain rfl : k = s.size := by omega
      have h1 := hn.out
      rw [List.take_of_length_le (by rw [bl_len]; omega)] at h1
      exact ⟨by rw [h1]; rfl, rfl⟩
end Go.Proofs.Ythgoofjojanakaa
