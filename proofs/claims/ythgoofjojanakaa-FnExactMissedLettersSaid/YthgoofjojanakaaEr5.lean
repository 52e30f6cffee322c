/- Contracts: whether steps are an alignment (the reference). -/
import Derived.Test.YthgoofjojanakaaEr4
namespace Go.Proofs.Ythgoofjojanakaa
open Go.RowKit Go.BigFrame
attribute [local go_sem] sub_cell sub_frozen drewN_setCell

theorem sb_ex1 (a : UInt8) (l : List UInt8) : (sb (a :: l)).extract 1 (l.length + 1) = sb l := sb_extract (a :: l) 1
theorem sb_ex2 (a b : UInt8) (l : List UInt8) : (sb (a :: b :: l)).extract 2 (l.length + 1 + 1) = sb l := sb_extract (a :: b :: l) 2
theorem step_at {l : List UInt8} {m : Nat} {c : UInt8} (h : l.all isStepB = true) (hc : l[m]? = some c) : isStepB c = true := List.all_eq_true.1 h c (List.mem_of_getElem? hc)
attribute [local go_sem] sb_size sb_get0 sb_get1 sb_toList mt_toList cons_beq_nil nil_beq_nil List.length_cons List.length_nil u8_eq u8_ne sb_ex1 sb_ex2
set_option maxHeartbeats 4000000 in
theorem c_l19Is (W T : List UInt8) (s : ByteArray) (r : Bool) (hr : isAl W T (bl s) = r) (hst : (bl s).all isStepB = true) (w : World) (hW : W.length ≤ 1048576) (hT : T.length ≤ 1048576) (hs : s.size ≤ 1048576) :
    Calls Try.prog 45 #[.string (sb W), .string (sb T), .string s] w fun e w' => e = .returned (.bool r) ∧ Below w.heap.size w w' := by
  subst hr
  have HST := Lib.hid hst
  clear hst
  go_enter Try.func45, Try.ntmps45
  go_wp2_with fail
  go_loopw [0, 1, 7] (fun x y z wr => ∃ W' T' : List UInt8, ∃ m : Nat, W'.length ≤ 1048576 ∧ T'.length ≤ 1048576 ∧ m ≤ s.size ∧ x = .string (sb W') ∧ y = .string (sb T') ∧ z = .int .i64 m ∧ Below w.heap.size w wr ∧ Hid (isAl W' T' ((bl s).drop m) = isAl W T (bl s))) (fun _ _ z _ => s.size - (intOf z).toNat)
  case atStart => exact ⟨W, T, 0, hW, hT, by omega, rfl, rfl, rfl, Below.refl _ _, rfl⟩
  case round =>
    clear hW hT
    obtain ⟨W', T', m, hW, hT, hm, rfl, rfl, rfl, hB, hn⟩ := hrel
    have hz := hB.size
    by_cases hlt : m < s.size
    · have hg := Lib.hid (bl_get s m hlt)
      have hsb := step_at HST.out hg.out
      rcases stC s[m] with hc | hc | hc | hc | hc | ⟨_, _, _, _, _, e1, e2, e3, e4⟩
      · have q43 : ((s[m].toNat : Int) == 43) = false := by rw [hc]; rfl
        have q45 : ((s[m].toNat : Int) == 45) = false := by rw [hc]; rfl
        have q126 : ((s[m].toNat : Int) == 126) = false := by rw [hc]; rfl
        have q61 : ((s[m].toNat : Int) == 61) = true := by rw [hc]; rfl
        have HC := Lib.hid hc
        clear hc hsb
        rcases W' with _ | ⟨a, W'⟩ <;> rcases T' with _ | ⟨b, T'⟩
        rotate_right
        · cases f1 : (a == b)
          · go_wp2_with fail
            refine wp_region_below (by kernel_rfl) (by kernel_rfl) ?_
            repeat (go_big_quiet_step (fail))
            refine wpQuiet_nil ?_
            intro _ hw'
            obtain ⟨⟨w9, hb9⟩, hw''⟩ := hw'
            subst hw''
            have hB9 := later hb9 (w := w) hB
            go_wp2_with fail
            go_ret
            exact ⟨by rw [← hn.out, isAl_stop hg.out (by rw [HC.out]; simp [stO, f1])]; rfl, hB9⟩
          · go_wp2_with fail
            refine wp_region_below (by kernel_rfl) (by kernel_rfl) ?_
            repeat (go_big_quiet_step (fail))
            refine wpQuiet_nil ?_
            intro _ hw'
            obtain ⟨⟨w9, hb9⟩, hw''⟩ := hw'
            subst hw''
            have hB9 := later hb9 (w := w) hB
            go_wp2_with fail
            go_roundw
            case rel => exact ⟨W', T', m + 1, by simp at hW ⊢; omega, by simp at hT ⊢; omega, by omega, rfl, rfl, by go_num, hB9, by have h1 := isAl_step hg.out (W := a :: W') (T := b :: T') (by rw [HC.out]; simp [stO, f1]); rw [HC.out] at h1; simp [stD, stK] at h1; exact h1.symm.trans hn.out⟩
            case measure => simp [intOf]; omega
        all_goals
          go_wp2_with fail
          refine wp_region_below (by kernel_rfl) (by kernel_rfl) ?_
          repeat (go_big_quiet_step (fail))
          refine wpQuiet_nil ?_
          intro _ hw'
          obtain ⟨⟨w9, hb9⟩, hw''⟩ := hw'
          subst hw''
          have hB9 := later hb9 (w := w) hB
          go_wp2_with fail
          go_ret
          exact ⟨by rw [← hn.out, isAl_stop hg.out (by rw [HC.out]; simp [stO])]; rfl, hB9⟩
      · have q43 : ((s[m].toNat : Int) == 43) = false := by rw [hc]; rfl
        have q45 : ((s[m].toNat : Int) == 45) = false := by rw [hc]; rfl
        have q126 : ((s[m].toNat : Int) == 126) = false := by rw [hc]; rfl
        have q61 : ((s[m].toNat : Int) == 61) = false := by rw [hc]; rfl
        have HC := Lib.hid hc
        clear hc hsb
        rcases W' with _ | ⟨a, W'⟩ <;> rcases T' with _ | ⟨b, T'⟩
        rotate_right
        · cases f1 : (a == b)
          · go_wp2_with fail
            refine wp_region_below (by kernel_rfl) (by kernel_rfl) ?_
            repeat (go_big_quiet_step (fail))
            refine wpQuiet_nil ?_
            intro _ hw'
            obtain ⟨⟨w9, hb9⟩, hw''⟩ := hw'
            subst hw''
            have hB9 := later hb9 (w := w) hB
            go_wp2_with fail
            go_roundw
            case rel => exact ⟨W', T', m + 1, by simp at hW ⊢; omega, by simp at hT ⊢; omega, by omega, rfl, rfl, by go_num, hB9, by have h1 := isAl_step hg.out (W := a :: W') (T := b :: T') (by rw [HC.out]; simp [stO, f1]); rw [HC.out] at h1; simp [stD, stK] at h1; exact h1.symm.trans hn.out⟩
            case measure => simp [intOf]; omega
          · go_wp2_with fail
            refine wp_region_below (by kernel_rfl) (by kernel_rfl) ?_
            repeat (go_big_quiet_step (fail))
            refine wpQuiet_nil ?_
            intro _ hw'
            obtain ⟨⟨w9, hb9⟩, hw''⟩ := hw'
            subst hw''
            have hB9 := later hb9 (w := w) hB
            go_wp2_with fail
            go_ret
            exact ⟨by rw [← hn.out, isAl_stop hg.out (by rw [HC.out]; simp [stO, f1])]; rfl, hB9⟩
        all_goals
          go_wp2_with fail
          refine wp_region_below (by kernel_rfl) (by kernel_rfl) ?_
          repeat (go_big_quiet_step (fail))
          refine wpQuiet_nil ?_
          intro _ hw'
          obtain ⟨⟨w9, hb9⟩, hw''⟩ := hw'
          subst hw''
          have hB9 := later hb9 (w := w) hB
          go_wp2_with fail
          go_ret
          exact ⟨by rw [← hn.out, isAl_stop hg.out (by rw [HC.out]; simp [stO])]; rfl, hB9⟩
      · have q43 : ((s[m].toNat : Int) == 43) = false := by rw [hc]; rfl
        have q45 : ((s[m].toNat : Int) == 45) = true := by rw [hc]; rfl
        have q126 : ((s[m].toNat : Int) == 126) = false := by rw [hc]; rfl
        have q61 : ((s[m].toNat : Int) == 61) = false := by rw [hc]; rfl
        have HC := Lib.hid hc
        clear hc hsb
        rcases W' with _ | ⟨a, W'⟩
        · go_wp2_with fail
          go_ret
          exact ⟨by rw [← hn.out, isAl_stop hg.out (by rw [HC.out]; simp [stO])]; rfl, hB⟩
        · go_wp2_with fail
          go_roundw
          case rel => exact ⟨W', T', m + 1, by simp at hW ⊢; omega, by omega, by omega, rfl, rfl, by go_num, hB, by have h1 := isAl_step hg.out (W := a :: W') (T := T') (by rw [HC.out]; simp [stO]); rw [HC.out] at h1; simp [stD, stK] at h1; exact h1.symm.trans hn.out⟩
          case measure => simp [intOf]; omega
      · have q43 : ((s[m].toNat : Int) == 43) = true := by rw [hc]; rfl
        have q45 : ((s[m].toNat : Int) == 45) = false := by rw [hc]; rfl
        have q126 : ((s[m].toNat : Int) == 126) = false := by rw [hc]; rfl
        have q61 : ((s[m].toNat : Int) == 61) = false := by rw [hc]; rfl
        have HC := Lib.hid hc
        clear hc hsb
        rcases T' with _ | ⟨a, T'⟩
        · go_wp2_with fail
          go_ret
          exact ⟨by rw [← hn.out, isAl_stop hg.out (by rw [HC.out]; simp [stO])]; rfl, hB⟩
        · go_wp2_with fail
          go_roundw
          case rel => exact ⟨W', T', m + 1, by omega, by simp at hT ⊢; omega, by omega, rfl, rfl, by go_num, hB, by have h1 := isAl_step hg.out (W := W') (T := a :: T') (by rw [HC.out]; simp [stO]); rw [HC.out] at h1; simp [stD, stK] at h1; exact h1.symm.trans hn.out⟩
          case measure => simp [intOf]; omega
      · have q43 : ((s[m].toNat : Int) == 43) = false := by rw [hc]; rfl
        have q45 : ((s[m].toNat : Int) == 45) = false := by rw [hc]; rfl
        have q126 : ((s[m].toNat : Int) == 126) = true := by rw [hc]; rfl
        have q61 : ((s[m].toNat : Int) == 61) = false := by rw [hc]; rfl
        have HC := Lib.hid hc
        clear hc hsb
        cases ho : stO W' T' 126
        · have HO := Lib.hid ho
          clear ho
          go_wp2_with (go_at_call 56; refine (c_l19Swap W' T' false HO.out _ (by omega) (by omega)).mono ?_; rintro r_ w1 ⟨rfl, hd1⟩; have hB1 := later (hd1.below (B := wr.heap.size)) (w := w) hB)
          go_ret
          exact ⟨by rw [← hn.out, isAl_stop hg.out (by rw [HC.out]; exact HO.out)]; rfl, hB1⟩
        · rcases W' with _ | ⟨a, _ | ⟨b, W'⟩⟩
          · cases ho
          · cases ho
          · rcases T' with _ | ⟨a', _ | ⟨b', T'⟩⟩
            · cases ho
            · cases ho
            · have HO := Lib.hid ho
              have hW3 : (2 : Int) ≤ (W'.length : Int) + 1 + 1 := by omega
              have hT3 : (2 : Int) ≤ (T'.length : Int) + 1 + 1 := by omega
              have HW : (a :: b :: W').length ≤ 4611686018427387904 := by omega
              have HT : (a' :: b' :: T').length ≤ 4611686018427387904 := by omega
              clear ho
              go_wp2_with (go_at_call 56; refine (c_l19Swap (a :: b :: W') (a' :: b' :: T') true HO.out _ HW HT).mono ?_; rintro r_ w1 ⟨rfl, hd1⟩; have hB1 := later (hd1.below (B := wr.heap.size)) (w := w) hB)
              go_roundw
              case rel => exact ⟨W', T', m + 1, by simp at hW ⊢; omega, by simp at hT ⊢; omega, by omega, rfl, rfl, by go_num, hB1, by have h1 := isAl_step hg.out (W := a :: b :: W') (T := a' :: b' :: T') (by rw [HC.out]; exact HO.out); rw [HC.out] at h1; simp [stD, stK] at h1; exact h1.symm.trans hn.out⟩
              case measure => simp [intOf]; omega
      · exfalso
        revert hsb
        generalize s[m] = c at *
        intro hsb
        have h2 : ∀ W T, stO W T c = false := e4
        simp only [isStepB, Bool.or_eq_true, beq_iff_eq] at hsb
        rcases hsb with rfl | rfl | rfl | rfl | rfl
        · exact absurd (h2 [0] [0]) (by decide)
        · exact absurd (h2 [0] [0]) (by decide)
        · exact absurd (h2 [0] [0]) (by decide)
        · exact absurd (h2 [0] [1]) (by decide)
        · exact absurd (h2 [0, 1] [1, 0]) (by decide)
    · obtain rfl : m = s.size := by omega
      have hfin := hn.out
      rw [isAl_end (by rw [bl_len]; omega)] at hfin
      clear hn
      rcases W' with _ | ⟨a, W'⟩ <;> rcases T' with _ | ⟨b, T'⟩ <;> have HF := Lib.hid hfin <;> clear hfin
      all_goals
        go_wp2_with fail
        go_ret
        exact ⟨by rw [← HF.out]; rfl, hB⟩

/-- What IsAlignment says. -/
def alB (w t s : List UInt8) : Bool := if twoC w t = 0 ∧ stepsB s = true then isAl w t s else false
def alC (w t s : List UInt8) : Int := if twoC w t = 0 then (if stepsB s = true then 0 else 7) else 2
theorem twoC_cases (w t : List UInt8) : (twoC w t = 0 ∧ typB w = true ∧ typB t = true) ∨ (twoC w t = 2 ∧ (typB w = false ∨ typB w = true ∧ typB t = false)) := by
  unfold twoC
  cases typB w <;> cases typB t <;> simp
theorem steps_all {l : List UInt8} (h : stepsB l = true) : l.all isStepB = true ∧ l.length ≤ 120 := by
  simp only [stepsB, Bool.and_eq_true, decide_eq_true_eq] at h
  exact h
theorem typB_len {s : ByteArray} (h : typB (bl s) = true) : s.size ≤ 60 := by
  have := textB_len h
  omega
set_option maxHeartbeats 2000000 in
theorem c_sIsAlignment (a b s : ByteArray) (w : World) (ha : a.size ≤ maxLen) (hb : b.size ≤ maxLen) (hs : s.size ≤ maxLen) :
    Calls Try.prog 19 #[.string a, .string b, .string s] w fun e w' => e = .returned (.tuple #[.bool (alB (bl a) (bl b) (bl s)), .int .i64 (alC (bl a) (bl b) (bl s))]) ∧ Below w.heap.size w w' := by
  rcases twoC_cases (bl a) (bl b) with ⟨h, t1, t2⟩ | ⟨h, _⟩
  · cases hst : stepsB (bl s)
    · have e1 : alB (bl a) (bl b) (bl s) = false := by simp [alB, hst]
      have e2 : alC (bl a) (bl b) (bl s) = 7 := by simp [alC, h, hst]
      rw [e1, e2]
      have H := Lib.hid h
      have HS := Lib.hid hst
      clear h hst e1 e2 t1 t2
      go_enter Try.func19, Try.ntmps19
      go_wp2_with (first | (go_at_call 41; refine (c_l19Two _ _ _ H.out _ ha hb).mono ?_; rintro r_ w' ⟨rfl, rfl⟩) | (go_at_call 37; refine (c_l19Steps _ _ HS.out _ hs).mono ?_; rintro r_ w' ⟨rfl, rfl⟩))
      go_returns
      exact ⟨rfl, Below.refl _ _⟩
    · have e1 : alB (bl a) (bl b) (bl s) = isAl (bl a) (bl b) (bl s) := by simp [alB, h, hst]
      have e2 : alC (bl a) (bl b) (bl s) = 0 := by simp [alC, h, hst]
      rw [e1, e2]
      obtain ⟨s1, s2⟩ := steps_all hst
      have n1 := typB_len t1
      have n2 := typB_len t2
      rw [bl_len] at s2
      have C := Lib.hid (fun W => c_l19Is (bl a) (bl b) s _ rfl s1 W (by rw [bl_len]; omega) (by rw [bl_len]; omega) (by omega))
      rw [sb_bl, sb_bl] at C
      have H := Lib.hid h
      have HS := Lib.hid hst
      clear h hst e1 e2 t1 t2 s1
      go_enter Try.func19, Try.ntmps19
      go_wp2_with (first | (go_at_call 41; refine (c_l19Two _ _ _ H.out _ ha hb).mono ?_; rintro r_ w' ⟨rfl, rfl⟩) | (go_at_call 37; refine (c_l19Steps _ _ HS.out _ hs).mono ?_; rintro r_ w' ⟨rfl, rfl⟩) | (go_at_call 45; refine (C.out _).mono ?_; rintro r_ w1 ⟨rfl, hb1⟩))
      go_returns
      exact ⟨rfl, hb1⟩
  · have e1 : alB (bl a) (bl b) (bl s) = false := by simp [alB, h]
    have e2 : alC (bl a) (bl b) (bl s) = 2 := by simp [alC, h]
    rw [e1, e2]
    have H := Lib.hid h
    clear h e1 e2
    go_enter Try.func19, Try.ntmps19
    go_wp2_with (go_at_call 41; refine (c_l19Two _ _ _ H.out _ ha hb).mono ?_; rintro r_ w' ⟨rfl, rfl⟩)
    go_returns
    exact ⟨rfl, Below.refl _ _⟩
set_option maxHeartbeats 2000000 in
theorem c_iIsAlignment (a b s : ByteArray) (w : World) (ha : a.size ≤ maxLen) (hb : b.size ≤ maxLen) (hs : s.size ≤ maxLen) :
    Calls Try.prog 20 #[.string a, .string b, .string s] w fun e w' => e = .returned (.tuple #[.bool (alB (bl a) (bl b) (bl s)), .int .i64 (alC (bl a) (bl b) (bl s))]) ∧ Below w.heap.size w w' := by
  rcases twoC_cases (bl a) (bl b) with ⟨h, t1, t2⟩ | ⟨h, hor⟩
  · have n1 := typB_len t1
    have n2 := typB_len t2
    have T1 := Lib.hid t1
    have T2 := Lib.hid t2
    cases hst : stepsB (bl s)
    · have e1 : alB (bl a) (bl b) (bl s) = false := by simp [alB, hst]
      have e2 : alC (bl a) (bl b) (bl s) = 7 := by simp [alC, h, hst]
      rw [e1, e2]
      have HS := Lib.hid hst
      clear h hst e1 e2 t1 t2
      go_enter Try.func20, Try.ntmps20
      go_wp2_with (first | (go_at_call 43; refine (c_isTyped a _ T1.out _ ha).mono ?_; rintro r_ w' ⟨rfl, rfl⟩) | (go_at_call 43; refine (c_isTyped b _ T2.out _ hb).mono ?_; rintro r_ w' ⟨rfl, rfl⟩) | (go_at_call 39; refine (c_areSteps _ _ HS.out _ hs).mono ?_; rintro r_ w' ⟨rfl, rfl⟩))
      go_returns
      exact ⟨rfl, Below.refl _ _⟩
    · have e1 : alB (bl a) (bl b) (bl s) = isAl (bl a) (bl b) (bl s) := by simp [alB, h, hst]
      have e2 : alC (bl a) (bl b) (bl s) = 0 := by simp [alC, h, hst]
      rw [e1, e2]
      obtain ⟨s1, s2⟩ := steps_all hst
      rw [bl_len] at s2
      have C := Lib.hid (fun W => c_aligns (bl a) (bl b) s _ rfl W (by rw [bl_len]; omega) (by rw [bl_len]; omega) (by omega))
      rw [sb_bl, sb_bl] at C
      have HS := Lib.hid hst
      clear h hst e1 e2 t1 t2 s1
      go_enter Try.func20, Try.ntmps20
      go_wp2_with (first | (go_at_call 43; refine (c_isTyped a _ T1.out _ ha).mono ?_; rintro r_ w' ⟨rfl, rfl⟩) | (go_at_call 43; refine (c_isTyped b _ T2.out _ hb).mono ?_; rintro r_ w' ⟨rfl, rfl⟩) | (go_at_call 39; refine (c_areSteps _ _ HS.out _ hs).mono ?_; rintro r_ w' ⟨rfl, rfl⟩) | (go_at_call 46; refine (C.out _).mono ?_; rintro r_ w1 ⟨rfl, hb1⟩))
      go_returns
      exact ⟨rfl, hb1⟩
  · have e1 : alB (bl a) (bl b) (bl s) = false := by simp [alB, h]
    have e2 : alC (bl a) (bl b) (bl s) = 2 := by simp [alC, h]
    rw [e1, e2]
    clear h e1 e2
    rcases hor with t1 | ⟨t1, t2⟩
    · have T1 := Lib.hid t1
      clear t1
      go_enter Try.func20, Try.ntmps20
      go_wp2_with (go_at_call 43; refine (c_isTyped a _ T1.out _ ha).mono ?_; rintro r_ w' ⟨rfl, rfl⟩)
      go_returns
      exact ⟨rfl, Below.refl _ _⟩
    · have T1 := Lib.hid t1
      have T2 := Lib.hid t2
      clear t1 t2
      go_enter Try.func20, Try.ntmps20
      go_wp2_with (first | (go_at_call 43; refine (c_isTyped a _ T1.out _ ha).mono ?_; rintro r_ w' ⟨rfl, rfl⟩) | (go_at_call 43; refine (c_isTyped b _ T2.out _ hb).mono ?_; rintro r_ w' ⟨rfl, rfl⟩))
      go_returns
      exact ⟨rfl, Below.refl _ _⟩
end Go.Proofs.Ythgoofjojanakaa
