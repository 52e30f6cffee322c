/- Contracts: names. -/
import Derived.Test.YtkpnkilpaokkcaaSb
import Derived.Test.YtkpnkilpaokkcaaBt
namespace Go.Proofs.Ytkpnkilpaokkcaa
open Go.RowKit Go.BigFrame
attribute [local go_sem] sub_cell sub_frozen drewN_setCell

def smallB (c : UInt8) : Bool := decide ((97 : Int) ≤ c.toNat) && decide ((c.toNat : Int) ≤ 122)
def digB (c : UInt8) : Bool := decide ((48 : Int) ≤ c.toNat) && decide ((c.toNat : Int) ≤ 57)
def nmB (c : UInt8) : Bool := smallB c || (digB c || c == 45)
def nameB (l : List UInt8) : Bool := decide (l.length ≤ 12) && (l.all nmB && match l with | [] => false | a :: _ => smallB a)
theorem smallB_yes {c : UInt8} (h : smallB c = true) : (97 : Int) ≤ c.toNat ∧ (c.toNat : Int) ≤ 122 := by
  simpa [smallB] using h
theorem smallB_no {c : UInt8} (h : smallB c = false) : (c.toNat : Int) < 97 ∨ (122 : Int) < c.toNat := by
  simp only [smallB, Bool.and_eq_false_iff, decide_eq_false_iff_not] at h
  omega
theorem smallB_ok {c : UInt8} (h : (97 : Int) ≤ c.toNat) (h2 : (c.toNat : Int) ≤ 122) : smallB c = true := by simp [smallB, h, h2]
theorem nameB_nil {s : ByteArray} (h : s.size = 0) : nameB (bl s) = false := by
  have : bl s = [] := List.eq_nil_of_length_eq_zero (by rw [bl_len, h])
  rw [this]; rfl
theorem nameB_long {s : ByteArray} (h : (12 : Int) < (s.size : Int)) : nameB (bl s) = false := by
  have h1 := bl_len s
  simp only [nameB, Bool.and_eq_false_iff, decide_eq_false_iff_not]
  omega
theorem nameB_head {l : List UInt8} {c : UInt8} (h : l[0]? = some c) (hc : smallB c = false) : nameB l = false := by
  cases l with
  | nil => rfl
  | cons a l =>
    simp at h
    subst h
    simp [nameB, hc]
theorem nameB_bad {l : List UInt8} {k : Nat} {c : UInt8} (h : l[k]? = some c) (hc : nmB c = false) : nameB l = false := by
  simp only [nameB, Bool.and_eq_false_iff]
  right; left
  rw [List.all_eq_false]
  exact ⟨c, List.mem_of_getElem? h, by simp [hc]⟩
theorem nameB_end {s : ByteArray} {c : UInt8} (h0 : (bl s)[0]? = some c) (hc : smallB c = true) (h12 : ¬ (12 : Int) < (s.size : Int)) (h : ((bl s).take s.size).all nmB = true) : nameB (bl s) = true := by
  have h1 := bl_len s
  rw [List.take_of_length_le (by omega)] at h
  generalize hl : bl s = l at *
  cases l with
  | nil => simp at h0
  | cons a l =>
    simp at h0
    subst h0
    simp only [nameB, h, hc, Bool.and_true, decide_eq_true_eq]
    omega
theorem nmB_no {c : UInt8} (h1 : smallB c = false) (h2 : digB c = false) (h3 : (c == 45) = false) : nmB c = false := by simp only [nmB, h1, h2, h3]; rfl

set_option maxHeartbeats 400000 in
theorem c_l01Small (c : UInt8) (r : Bool) (h : smallB c = r) (w : World) :
    Calls Try.prog 29 #[.int .u8 (c.toNat : Int)] w fun e w' => e = .returned (.bool r) ∧ w = w' := by
  subst h
  unfold smallB
  by_cases h1 : (97 : Int) ≤ c.toNat <;> by_cases h2 : (c.toNat : Int) ≤ 122 <;>
  · go_enter Try.func29, Try.ntmps29
    go_wp2
    go_ret
    simp [*]
set_option maxHeartbeats 400000 in
theorem c_l01Digit (c : UInt8) (r : Bool) (h : digB c = r) (w : World) :
    Calls Try.prog 30 #[.int .u8 (c.toNat : Int)] w fun e w' => e = .returned (.bool r) ∧ w = w' := by
  subst h
  unfold digB
  by_cases h1 : (48 : Int) ≤ c.toNat <;> by_cases h2 : (c.toNat : Int) ≤ 57 <;>
  · go_enter Try.func30, Try.ntmps30
    go_wp2
    go_ret
    simp [*]
set_option maxHeartbeats 400000 in
theorem c_isDigit (c : UInt8) (r : Bool) (h : digB c = r) (w : World) :
    Calls Try.prog 28 #[.int .u8 (c.toNat : Int)] w fun e w' => e = .returned (.bool r) ∧ w = w' := by
  subst h
  unfold digB
  by_cases h1 : (48 : Int) ≤ c.toNat <;> by_cases h2 : (c.toNat : Int) ≤ 57 <;>
  · go_enter Try.func28, Try.ntmps28
    go_wp2
    go_ret
    simp [*]

attribute [local go_sem] mt_toList cons_beq_nil nil_beq_nil
set_option maxHeartbeats 2000000 in
theorem c_sIsName (s : ByteArray) (r : Bool) (h : nameB (bl s) = r) (w : World) (hs : s.size ≤ maxLen) :
    Calls Try.prog 26 #[.string s] w fun e w' => e = .returned (.bool r) ∧ w = w' := by
  subst h
  unfold maxLen at hs
  by_cases h0 : s.size = 0
  · rw [nameB_nil h0]
    have hT := toList_nil h0
    clear h0
    go_enter Try.func26, Try.ntmps26
    go_wp2_with fail
    go_ret
    exact ⟨rfl, rfl⟩
  · have hp : 0 < s.size := by omega
    obtain ⟨a, l, hT⟩ := toList_cons hp
    clear h0
    by_cases h1 : (12 : Int) < (s.size : Int)
    · rw [nameB_long h1]
      go_enter Try.func26, Try.ntmps26
      go_wp2_with fail
      go_ret
      exact ⟨rfl, rfl⟩
    · have hg0 := Lib.hid (bl_get s 0 hp)
      cases h2 : smallB s[0]
      · rw [nameB_head hg0.out h2]
        go_enter Try.func26, Try.ntmps26
        go_wp2_with (go_at_call 29; refine (c_l01Small _ _ (by assumption) _).mono ?_; rintro e w' ⟨rfl, rfl⟩)
        go_ret
        exact ⟨rfl, rfl⟩
      · have H2 := Lib.hid h2
        go_enter Try.func26, Try.ntmps26
        go_wp2_with (go_at_call 29; refine (c_l01Small _ _ H2.out _).mono ?_; rintro e w' ⟨rfl, rfl⟩)
        clear h2
        go_loop [3] (fun i => ∃ k : Nat, k ≤ s.size ∧ i = .int .i64 k ∧ Hid (((bl s).take k).all nmB = true)) (fun i => s.size - (intOf i).toNat)
        case atStart => exact ⟨0, Nat.zero_le _, rfl, rfl⟩
        case round =>
          obtain ⟨k, hk, rfl, hn⟩ := hrel
          by_cases hlt : k < s.size
          · have hg := Lib.hid (bl_get s k hlt)
            cases f1 : smallB s[k]
            · have F1 := Lib.hid f1
              clear f1
              cases f2 : digB s[k]
              · have F2 := Lib.hid f2
                clear f2
                have q := u8_litn (a := s[k]) (c := 45) (n := 45) rfl
                cases f3 : (s[k] == 45) <;> rw [f3] at q <;> have F3 := Lib.hid f3 <;> clear f3
                · go_wp2_with (first | (go_at_call 29; refine (c_l01Small _ _ F1.out _).mono ?_; rintro e w' ⟨rfl, rfl⟩) | (go_at_call 30; refine (c_l01Digit _ _ F2.out _).mono ?_; rintro e w' ⟨rfl, rfl⟩))
                  go_ret
                  exact ⟨by rw [nameB_bad hg.out (nmB_no F1.out F2.out F3.out)]; rfl, rfl⟩
                · go_wp2_with (first | (go_at_call 29; refine (c_l01Small _ _ F1.out _).mono ?_; rintro e w' ⟨rfl, rfl⟩) | (go_at_call 30; refine (c_l01Digit _ _ F2.out _).mono ?_; rintro e w' ⟨rfl, rfl⟩))
                  go_round
                  case rel => exact ⟨k + 1, by omega, by go_num, all_bytes hg.out hn.out (by simp only [nmB, F3.out, Bool.or_true])⟩
                  case measure => simp [intOf]; omega
              · have F2 := Lib.hid f2
                clear f2
                go_wp2_with (first | (go_at_call 29; refine (c_l01Small _ _ F1.out _).mono ?_; rintro e w' ⟨rfl, rfl⟩) | (go_at_call 30; refine (c_l01Digit _ _ F2.out _).mono ?_; rintro e w' ⟨rfl, rfl⟩))
                go_round
                case rel => exact ⟨k + 1, by omega, by go_num, all_bytes hg.out hn.out (by simp only [nmB, F2.out, Bool.true_or, Bool.or_true])⟩
                case measure => simp [intOf]; omega
            · have F1 := Lib.hid f1
              clear f1
              go_wp2_with (go_at_call 29; refine (c_l01Small _ _ F1.out _).mono ?_; rintro e w' ⟨rfl, rfl⟩)
              go_round
              case rel => exact ⟨k + 1, by omega, by go_num, all_bytes hg.out hn.out (by simp only [nmB, F1.out, Bool.true_or])⟩
              case measure => simp [intOf]; omega
          · go_wp2_with fail
            go_ret
            obtain rfl : k = s.size := by omega
            exact ⟨by rw [nameB_end hg0.out H2.out (by omega) hn.out]; rfl, rfl⟩

set_option maxHeartbeats 2000000 in
theorem c_iIsName (s : ByteArray) (r : Bool) (h : nameB (bl s) = r) (w : World) (hs : s.size ≤ maxLen) :
    Calls Try.prog 24 #[.string s] w fun e w' => e = .returned (.bool r) ∧ w = w' := by
  subst h
  unfold maxLen at hs
  by_cases h0 : s.size = 0
  · rw [nameB_nil h0]
    have hT : ((s.size : Int) == 0) = true := by simp [h0]
    clear h0
    go_enter Try.func24, Try.ntmps24
    go_wp2_with fail
    go_ret
    exact ⟨rfl, rfl⟩
  · have hp : 0 < s.size := by omega
    have hT : ((s.size : Int) == 0) = false := beq_eq_false_iff_ne.2 (by omega)
    clear h0
    by_cases h1 : (12 : Int) < (s.size : Int)
    · rw [nameB_long h1]
      go_enter Try.func24, Try.ntmps24
      go_wp2_with fail
      go_ret
      exact ⟨rfl, rfl⟩
    · go_enter Try.func24, Try.ntmps24
      go_wp2_with fail
      go_loop [15] (fun i => ∃ k : Nat, k ≤ s.size ∧ i = .int .i64 k ∧ Hid (((bl s).take k).all nmB = true ∧ (0 < k → ∀ c, (bl s)[0]? = some c → smallB c = true))) (fun i => s.size - (intOf i).toNat)
      case atStart => exact ⟨0, Nat.zero_le _, rfl, rfl, fun h => absurd h (by omega)⟩
      case round =>
        obtain ⟨k, hk, rfl, hn⟩ := hrel
        by_cases hlt : k < s.size
        · have hg := Lib.hid (bl_get s k hlt)
          cases f1 : smallB s[k]
          · have F1 := Lib.hid f1
            have hor := smallB_no f1
            clear f1
            by_cases hk0 : k = 0
            · subst hk0
              rcases hor with ho | ho
              · have ho1 : ¬ (97 : Int) ≤ s[0].toNat := by omega
                go_wp2_with fail
                go_ret
                exact ⟨by rw [nameB_head hg.out F1.out]; rfl, rfl⟩
              · have ho1 : ¬ (s[0].toNat : Int) ≤ 122 := by omega
                have ho2 : (97 : Int) ≤ s[0].toNat := by omega
                go_wp2_with fail
                go_ret
                exact ⟨by rw [nameB_head hg.out F1.out]; rfl, rfl⟩
            · have hk1 : ((k : Int) == 0) = false := by simp; omega
              have q := u8_litn (a := s[k]) (c := 45) (n := 45) rfl
              have hk2 : 0 < k := by omega
              clear hk0
              rcases hor with ho | ho
              · have ho1 : ¬ (97 : Int) ≤ s[k].toNat := by omega
                cases f3 : (s[k] == 45) <;> rw [f3] at q <;> have F3 := Lib.hid f3 <;> clear f3
                · cases f2 : digB s[k] <;> have F2 := Lib.hid f2 <;> clear f2
                  · go_wp2_with (go_at_call 28; refine (c_isDigit _ _ F2.out _).mono ?_; rintro e w' ⟨rfl, rfl⟩)
                    go_ret
                    exact ⟨by rw [nameB_bad hg.out (nmB_no F1.out F2.out F3.out)]; rfl, rfl⟩
                  · go_wp2_with (go_at_call 28; refine (c_isDigit _ _ F2.out _).mono ?_; rintro e w' ⟨rfl, rfl⟩)
                    go_round
                    case rel => exact ⟨k + 1, by omega, by go_num, all_bytes hg.out hn.out.1 (by simp only [nmB, F2.out, Bool.true_or, Bool.or_true]), fun _ => hn.out.2 hk2⟩
                    case measure => simp [intOf]; omega
                · go_wp2_with fail
                  go_round
                  case rel => exact ⟨k + 1, by omega, by go_num, all_bytes hg.out hn.out.1 (by simp only [nmB, F3.out, Bool.or_true]), fun _ => hn.out.2 hk2⟩
                  case measure => simp [intOf]; omega
              · have ho1 : ¬ (s[k].toNat : Int) ≤ 122 := by omega
                have ho2 : (97 : Int) ≤ s[k].toNat := by omega
                have f2 : digB s[k] = false := by simp only [digB, Bool.and_eq_false_iff, decide_eq_false_iff_not]; right; omega
                have f3 : (s[k] == 45) = false := by rw [beq_eq_false_iff_ne]; intro e; rw [e] at ho2; exact absurd ho2 (by decide)
                rw [f3] at q
                have F2 := Lib.hid f2
                have F3 := Lib.hid f3
                clear f2 f3
                go_wp2_with (go_at_call 28; refine (c_isDigit _ _ F2.out _).mono ?_; rintro e w' ⟨rfl, rfl⟩)
                go_ret
                exact ⟨by rw [nameB_bad hg.out (nmB_no F1.out F2.out F3.out)]; rfl, rfl⟩
          · have F1 := Lib.hid f1
            obtain ⟨g1, g2⟩ := smallB_yes f1
            clear f1
            go_wp2_with fail
            go_round
            case rel => exact ⟨k + 1, by omega, by go_num, all_bytes hg.out hn.out.1 (by simp only [nmB, F1.out, Bool.true_or]), fun _ c hc => by
              by_cases hk0 : 0 < k
              · exact hn.out.2 hk0 c hc
              · obtain rfl : k = 0 := by omega
                rw [hg.out] at hc
                rw [← Option.some.inj hc]
                exact F1.out⟩
            case measure => simp [intOf]; omega
        · go_wp2_with fail
          go_ret
          obtain rfl : k = s.size := by omega
          have hg0 := bl_get s 0 hp
          exact ⟨by rw [nameB_end hg0 (hn.out.2 hp _ hg0) (by omega) hn.out.1]; rfl, rfl⟩
end Go.Proofs.Ytkpnkilpaokkcaa
