/- Contracts: whether steps are an alignment. -/
import Derived.Test.YthgoofjojanakaaEr3
namespace Go.Proofs.Ythgoofjojanakaa
open Go.RowKit Go.BigFrame
attribute [local go_sem] sub_cell sub_frozen drewN_setCell

theorem stO_len {W T : List UInt8} {c : UInt8} (h : stO W T c = true) : stD c ≤ W.length ∧ stK c ≤ T.length := by
  rcases stC c with rfl | rfl | rfl | rfl | rfl | ⟨_, _, _, _, _, e1, e2, e3, e4⟩
  · rcases W with _ | ⟨a, W⟩ <;> rcases T with _ | ⟨b, T⟩ <;> simp_all [stO, stD, stK]
  · rcases W with _ | ⟨a, W⟩ <;> rcases T with _ | ⟨b, T⟩ <;> simp_all [stO, stD, stK]
  · rcases W with _ | ⟨a, W⟩ <;> simp_all [stO, stD, stK]
  · rcases T with _ | ⟨a, T⟩ <;> simp_all [stO, stD, stK]
  · rcases W with _ | ⟨a, _ | ⟨b, W⟩⟩ <;> rcases T with _ | ⟨a', _ | ⟨b', T⟩⟩ <;> simp_all [stO, stD, stK]
  · rw [e4] at h; cases h
theorem stD_le (c : UInt8) : stD c ≤ 2 := by unfold stD; split; omega; split <;> omega
theorem stK_le (c : UInt8) : stK c ≤ 2 := by unfold stK; split; omega; split <;> omega
theorem isAl_step {W T S : List UInt8} {c : UInt8} {m : Nat} (hc : S[m]? = some c) (ho : stO W T c = true) : isAl W T (S.drop m) = isAl (W.drop (stD c)) (T.drop (stK c)) (S.drop (m + 1)) := by
  rw [List.drop_eq_getElem?_toList_append, hc]
  show isAl W T (c :: S.drop (m + 1)) = _
  rw [isAl, ho, Bool.true_and]
theorem isAl_stop {W T S : List UInt8} {c : UInt8} {m : Nat} (hc : S[m]? = some c) (ho : stO W T c = false) : isAl W T (S.drop m) = false := by
  rw [List.drop_eq_getElem?_toList_append, hc]
  show isAl W T (c :: S.drop (m + 1)) = _
  rw [isAl, ho, Bool.false_and]
theorem isAl_end {W T S : List UInt8} {m : Nat} (hm : S.length ≤ m) : isAl W T (S.drop m) = (W.isEmpty && T.isEmpty) := by
  rw [List.drop_of_length_le hm, isAl]
theorem drop_empty {α : Type} {l : List α} {i : Nat} (h : i ≤ l.length) : ((i : Int) == (l.length : Int)) = (l.drop i).isEmpty := by
  by_cases e : i = l.length
  · subst e; simp
  · have h1 : ((i : Int) == (l.length : Int)) = false := by simp; omega
    rw [h1]
    symm
    simp
    omega

attribute [local go_sem] sb_size sb_get0 sb_get1 sb_toList mt_toList cons_beq_nil nil_beq_nil List.length_cons List.length_nil u8_eq u8_ne sb_extract
set_option maxHeartbeats 2000000 in
theorem c_aligns (W T : List UInt8) (s : ByteArray) (r : Bool) (hr : isAl W T (bl s) = r) (w : World) (hW : W.length ≤ 1048576) (hT : T.length ≤ 1048576) (hs : s.size ≤ 1048576) :
    Calls Try.prog 46 #[.string (sb W), .string (sb T), .string s] w fun e w' => e = .returned (.bool r) ∧ Below w.heap.size w w' := by
  subst hr
  go_enter Try.func46, Try.ntmps46
  go_wp2_with fail
  go_loopw [7, 8, 16] (fun x y z wr => ∃ i k m : Nat, i ≤ W.length ∧ k ≤ T.length ∧ m ≤ s.size ∧ x = .int .i64 i ∧ y = .int .i64 k ∧ z = .int .i64 m ∧ Below w.heap.size w wr ∧ Hid (isAl (W.drop i) (T.drop k) ((bl s).drop m) = isAl W T (bl s))) (fun _ _ z _ => s.size - (intOf z).toNat)
  case atStart => exact ⟨0, 0, 0, by omega, by omega, by omega, rfl, rfl, rfl, Below.refl _ _, rfl⟩
  case round =>
    obtain ⟨i, k, m, hi, hk, hm, rfl, rfl, rfl, hB, hn⟩ := hrel
    by_cases hlt : m < s.size
    · have hg := Lib.hid (bl_get s m hlt)
      have hDl := stD_le s[m]
      have hKl := stK_le s[m]
      have hlen := @stO_len (W.drop i) (T.drop k) s[m]
      obtain ⟨o, HO⟩ : ∃ o, Hid (stO (W.drop i) (T.drop k) s[m] = o) := ⟨_, Lib.hid rfl⟩
      obtain ⟨d, hd⟩ : ∃ d, stD s[m] = d := ⟨_, rfl⟩
      obtain ⟨q, hq⟩ : ∃ q, stK s[m] = q := ⟨_, rfl⟩
      obtain ⟨e, HE⟩ : ∃ e, Hid (stE s[m] = e) := ⟨_, Lib.hid rfl⟩
      rw [hd, hq, HO.out] at hlen
      rw [hd] at hDl
      rw [hq] at hKl
      simp only [List.length_drop] at hlen
      have HD := Lib.hid hd
      have HK := Lib.hid hq
      have hz := hB.size
      clear hd hq
      cases o
      · clear hlen
        go_wp2_with fail
        refine wp_region_below (by kernel_rfl) (by kernel_rfl) ?_
        repeat (go_big_quiet_step ((go_at_call 58; refine qBg (c_stepAt _ _ _ _ _ _ _ HO.out HD.out HK.out HE.out _ (by simp; omega) (by simp; omega)) (by simp) ?_; intro w_ h_; first | exact h_ | exact h_.below | (subst h_; exact Below.refl _ _) | (subst h_; (repeat' (first | (with_reducible exact Below.refl _ _) | (with_reducible assumption) | (with_reducible refine below_drewN ?_ _) | (with_reducible refine Below.drew ?_) | (with_reducible refine Below.alloc ?_ ?_ _) | (with_reducible refine Below.setCell ?_ ?_ _) | go_size))) | (obtain ⟨n_, rfl⟩ := h_; (repeat' (first | (with_reducible exact Below.refl _ _) | (with_reducible assumption) | (with_reducible refine below_drewN ?_ _) | (with_reducible refine Below.drew ?_) | (with_reducible refine Below.alloc ?_ ?_ _) | (with_reducible refine Below.setCell ?_ ?_ _) | go_size))))))
        refine wpQuiet_nil ?_
        intro _ hw'
        obtain ⟨⟨w9, hb9⟩, hw''⟩ := hw'
        subst hw''
        have hB9 := later hb9 (w := w) hB
        go_wp2_with fail
        go_ret
        exact ⟨by rw [← hn.out, isAl_stop hg.out HO.out]; rfl, hB9⟩
      · obtain ⟨l1, l2⟩ := hlen rfl
        go_wp2_with fail
        refine wp_region_below (by kernel_rfl) (by kernel_rfl) ?_
        repeat (go_big_quiet_step ((go_at_call 58; refine qBg (c_stepAt _ _ _ _ _ _ _ HO.out HD.out HK.out HE.out _ (by simp; omega) (by simp; omega)) (by simp) ?_; intro w_ h_; first | exact h_ | exact h_.below | (subst h_; exact Below.refl _ _) | (subst h_; (repeat' (first | (with_reducible exact Below.refl _ _) | (with_reducible assumption) | (with_reducible refine below_drewN ?_ _) | (with_reducible refine Below.drew ?_) | (with_reducible refine Below.alloc ?_ ?_ _) | (with_reducible refine Below.setCell ?_ ?_ _) | go_size))) | (obtain ⟨n_, rfl⟩ := h_; (repeat' (first | (with_reducible exact Below.refl _ _) | (with_reducible assumption) | (with_reducible refine below_drewN ?_ _) | (with_reducible refine Below.drew ?_) | (with_reducible refine Below.alloc ?_ ?_ _) | (with_reducible refine Below.setCell ?_ ?_ _) | go_size))))))
        refine wpQuiet_nil ?_
        intro _ hw'
        obtain ⟨⟨w9, hb9⟩, hw''⟩ := hw'
        subst hw''
        have hB9 := later hb9 (w := w) hB
        go_wp2_with fail
        go_roundw
        case rel => exact ⟨i + d, k + q, m + 1, by omega, by omega, by omega, by go_num, by go_num, by go_num, hB9, by have h1 := isAl_step hg.out HO.out; rw [HD.out, HK.out, List.drop_drop, List.drop_drop] at h1; exact h1.symm.trans hn.out⟩
        case measure => simp [intOf]; omega
    · obtain rfl : m = s.size := by omega
      have r1 := drop_empty hi
      have r2 := drop_empty hk
      have hfin := hn.out
      rw [isAl_end (by rw [bl_len]; omega), ← r1, ← r2] at hfin
      clear hn r1 r2
      cases q1 : ((i : Int) == (W.length : Int)) <;> rw [q1] at hfin <;> have HF := Lib.hid hfin <;> clear hfin
      all_goals
        go_wp2_with fail
        go_ret
        exact ⟨by rw [← HF.out]; rfl, hB⟩

set_option maxHeartbeats 2000000 in
theorem c_l19Swap (W T : List UInt8) (o : Bool) (ho : stO W T 126 = o) (w : World) (hW : W.length ≤ 4611686018427387904) (hT : T.length ≤ 4611686018427387904) :
    Calls Try.prog 56 #[.string (sb W), .string (sb T)] w fun r w' => r = .returned (.bool o) ∧ Draws w w' := by
  subst ho
  rcases W with _ | ⟨a, _ | ⟨b, W⟩⟩ <;> rcases T with _ | ⟨a', _ | ⟨b', T⟩⟩ <;> simp only [List.length_cons, List.length_nil] at hW hT <;> (try have hW3 : (2 : Int) ≤ (W.length : Int) + 1 + 1 := by omega) <;> (try have hT3 : (2 : Int) ≤ (T.length : Int) + 1 + 1 := by omega)
  rotate_right
  · cases f1 : (a == b) <;> cases f2 : (a == b') <;> cases f3 : (b == a')
    all_goals
      go_enter Try.func56, Try.ntmps56
      go_wp2_with fail
      go_quiet (fail)
      go_wp2_with fail
      go_returns
      exact ⟨by have g1 := f1; have g2 := f2; have g3 := f3; simp at g1 g2 g3; simp [stO, u8int, f1, f2, f3, g1, g2, g3]; try (subst g2; subst g3; exact g1), ⟨_, rfl⟩⟩
  all_goals
    go_enter Try.func56, Try.ntmps56
    go_wp2_with fail
    go_quiet (fail)
    go_wp2_with fail
    go_returns
    exact ⟨by simp [stO], ⟨_, rfl⟩⟩
end Go.Proofs.Ythgoofjojanakaa
