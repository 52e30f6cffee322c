/- Contracts: the text that was typed (the program). -/
import Derived.Test.YthgoofjojanakaaEr19
import Derived.Test.YthgoofjojanakaaEr7
namespace Go.Proofs.Ythgoofjojanakaa
open Go.RowKit Go.BigFrame
attribute [local go_sem] sub_cell sub_frozen drewN_setCell
attribute [local go_sem] sb_size sb_toList mt_toList cons_beq_nil nil_beq_nil

theorem drop_nil {l : List UInt8} {i : Nat} (h : l.length ≤ i) : l.drop i = [] := List.drop_of_length_le h
theorem tf_none {a s x : List UInt8} (h0 : twoC a x = 0) (h1 : stepsB s = true) (h : typF s a x [] = none) : tfC a s x = 9 := by simp [tfC, h0, h1, typR_none h]
theorem tf_some {a s x t r : List UInt8} (h0 : twoC a x = 0) (h1 : stepsB s = true) (h : typF s a x [] = some (t, r)) : tfC a s x = if r.isEmpty = true ∧ isAl a t s = true then (if t.length ≤ 60 then 0 else 5) else 9 := by simp [tfC, h0, h1, typR_some h]
set_option maxRecDepth 20000 in
set_option maxHeartbeats 8000000 in
theorem c_iTypedFrom (W X : List UInt8) (s : ByteArray) (w : World) (ha : (sb W).size ≤ maxLen) (hs : s.size ≤ maxLen) (hx : (sb X).size ≤ maxLen) :
    Calls Try.prog 31 #[.string (sb W), .string s, .string (sb X)] w fun e w' => e = .returned (.tuple #[.string (tfA W (bl s) X), .int .i64 (tfC W (bl s) X)]) ∧ Below w.heap.size w w' := by
  rcases twoC_cases W X with ⟨h, t1, t2⟩ | ⟨h, hor⟩
  rotate_left
  · have hc : tfC W (bl s) X = 2 := by simp [tfC, h]
    rw [tf_bad hc (by decide), hc]
    clear h hc
    rw [← bl_sb W, ← bl_sb X] at hor
    rcases hor with t1 | ⟨t1, t2⟩
    · have T1 := Lib.hid t1
      clear t1
      go_enter Try.func31, Try.ntmps31
      go_wp2_with (go_at_call 43; refine (c_isTyped (sb W) _ T1.out _ ha).mono ?_; rintro r_ w' ⟨rfl, rfl⟩)
      go_returns
      exact ⟨rfl, Below.refl _ _⟩
    · have T1 := Lib.hid t1
      have T2 := Lib.hid t2
      clear t1 t2
      go_enter Try.func31, Try.ntmps31
      go_wp2_with (go_at_call 43; first | (with_reducible refine (c_isTyped (sb W) _ T1.out _ ha).mono ?_; rintro r_ w' ⟨rfl, rfl⟩) | (with_reducible refine (c_isTyped (sb X) _ T2.out _ hx).mono ?_; rintro r_ w' ⟨rfl, rfl⟩))
      go_returns
      exact ⟨rfl, Below.refl _ _⟩
  rw [← bl_sb W] at t1
  rw [← bl_sb X] at t2
  have T1 := Lib.hid t1
  have T2 := Lib.hid t2
  have n1 := typB_len t1
  have n2 := typB_len t2
  rw [sb_size] at n1 n2
  cases h1 : stepsB (bl s)
  · have hc : tfC W (bl s) X = 7 := by simp [tfC, h, h1]
    rw [tf_bad hc (by decide), hc]
    have H1 := Lib.hid h1
    clear h h1 hc t1 t2
    go_enter Try.func31, Try.ntmps31
    go_wp2_with (first | (go_at_call 39; refine (c_areSteps _ _ H1.out _ hs).mono ?_; rintro r_ w' ⟨rfl, rfl⟩) | (go_at_call 43; first | (with_reducible refine (c_isTyped (sb W) _ T1.out _ ha).mono ?_; rintro r_ w' ⟨rfl, rfl⟩) | (with_reducible refine (c_isTyped (sb X) _ T2.out _ hx).mono ?_; rintro r_ w' ⟨rfl, rfl⟩)))
    go_returns
    exact ⟨rfl, Below.refl _ _⟩
  obtain ⟨s1, s2⟩ := steps_two h1
  rw [bl_len] at s2
  have HST := Lib.hid s1
  have H1 := Lib.hid h1
  have HN : Hid (typF (bl s) W X [] = none → tfC W (bl s) X = 9) := fun hh => tf_none h h1 hh
  have HS : Hid (∀ t r, typF (bl s) W X [] = some (t, r) → tfC W (bl s) X = if r.isEmpty = true ∧ isAl W t (bl s) = true then (if t.length ≤ 60 then 0 else 5) else 9) := fun t r hh => tf_some h h1 hh
  have HR : Hid (∀ t r, typF (bl s) W X [] = some (t, r) → (typR (bl s) W X).1 = t) := fun t r hh => by rw [typR_some hh]
  clear h h1 t1 t2 s1
  go_enter Try.func31, Try.ntmps31
  go_wp2_with (first | (go_at_call 39; refine (c_areSteps _ _ H1.out _ hs).mono ?_; rintro r_ w' ⟨rfl, rfl⟩) | (go_at_call 43; first | (with_reducible refine (c_isTyped (sb W) _ T1.out _ ha).mono ?_; rintro r_ w' ⟨rfl, rfl⟩) | (with_reducible refine (c_isTyped (sb X) _ T2.out _ hx).mono ?_; rintro r_ w' ⟨rfl, rfl⟩)))
  go_loopw [8, 9, 10, 29] (fun v x y z wr => ∃ i u m : Nat, ∃ o : List UInt8, i ≤ W.length ∧ u ≤ X.length ∧ o.length ≤ 2 * m ∧ m ≤ s.size ∧ x = .int .i64 i ∧ y = .int .i64 u ∧ z = .int .i64 m ∧ Below w.heap.size w wr ∧ Hid (BRow wr w.heap.size v o) ∧ Hid (typF ((bl s).drop m) (W.drop i) (X.drop u) o = typF (bl s) W X [])) (fun _ _ _ z _ => s.size - (intOf z).toNat)
  case atStart => exact ⟨0, 0, 0, [], by omega, by omega, by simp, by omega, rfl, rfl, rfl, by (repeat' (first | (with_reducible exact Below.refl _ _) | (with_reducible assumption) | (with_reducible refine below_drewN ?_ _) | (with_reducible refine Below.drew ?_) | (with_reducible refine Below.alloc ?_ ?_ _) | (with_reducible refine Below.setCell ?_ ?_ _) | go_size)), BRow.made _, rfl⟩
  case round =>
    obtain ⟨i, u, m, o, hi, hu, ho, hm, rfl, rfl, rfl, hB, hrow, hn⟩ := hrel
    have hz := hB.size
    by_cases hlt : m < s.size
    · have hg := Lib.hid (bl_get s m hlt)
      have hsb := step_at HST.out hg.out
      have HLN : Hid (o.length + 1 ≤ 1099511627776) := by show _ ≤ _; omega
      have HLN2 : Hid (o.length + 2 ≤ 1099511627776) := by show _ ≤ _; omega
      have HO := Lib.hid ho
      clear ho
      rcases stC s[m] with hc | hc | hc | hc | hc | ⟨_, _, _, _, _, e1, e2, e3, e4⟩
      · skip
        have q43 : ((s[m].toNat : Int) == 43) = false := by rw [hc]; rfl
        have q120 : ((s[m].toNat : Int) == 120) = false := by rw [hc]; rfl
        have q45 : ((s[m].toNat : Int) == 45) = false := by rw [hc]; rfl
        have q61 : ((s[m].toNat : Int) == 61) = true := by rw [hc]; rfl
        have q126 : ((s[m].toNat : Int) == 126) = false := by rw [hc]; rfl
        have HC := Lib.hid hc
        clear hc hsb
        by_cases hiw : i < W.length
        rotate_left
        · skip
          have hiI : (W.length : Int) < (i : Int) + 1 := by omega
          have HTS : typS s[m] (W.drop i) (X.drop u) = none := by rw [HC.out, drop_nil (l := W) (by omega)]; rfl
          have HE : Hid (tfC W (bl s) X = 9) := HN.out (hn.out.symm.trans (typF_stop hg.out HTS))
          clear HTS
          go_wp2_with fail
          go_returns
          exact ⟨by rw [tf_bad HE.out (by decide), HE.out]; rfl, hB⟩
        obtain ⟨a, ha1, ha2⟩ := drop_at hiw
        have his : i < (sb W).size := by rw [sb_size]; exact hiw
        have HA := Lib.hid (ha2 his)
        have hiI : ¬ ((W.length : Int) < (i : Int) + 1) := by omega
        have hiJ : (i : Int) < W.length := by omega
        have huI : ¬ ((X.length : Int) < (u : Int)) := by omega
        have HSTP := Lib.hid (typF_step (o := o) hg.out ((show typS s[m] (W.drop i) (X.drop u) = some (W.drop (i + 1), X.drop u, [a]) by rw [HC.out, ha1]; rfl)))
        clear ha1 ha2
        go_wp2_with (at_builtin; refine app1 rfl (.tmp 59) (.tmp 63) _ rfl w.heap.size 5 _ 1 Try.underlying51 info_uint8 rfl _ _ rfl _ _ _ rfl hrow.out rfl HLN.out (by omega) hz ?_; intro v' w2 hown2 hb2 hg2)
        go_roundw
        case rel => exact ⟨i + 1, u, m + 1, o ++ [a], by omega, by omega, by simp only [List.length_append, List.length_cons, List.length_nil]; have := HO.out; omega, by omega, by go_num, by go_num, by go_num, hB.trans hb2, by show BRow _ _ _ _; have h9 := BRow.snoc hown2; rw [HA.out] at h9; exact h9, HSTP.out.symm.trans hn.out⟩
        case measure => simp [intOf]; omega
      · skip
        have q43 : ((s[m].toNat : Int) == 43) = false := by rw [hc]; rfl
        have q120 : ((s[m].toNat : Int) == 120) = true := by rw [hc]; rfl
        have q45 : ((s[m].toNat : Int) == 45) = false := by rw [hc]; rfl
        have q61 : ((s[m].toNat : Int) == 61) = false := by rw [hc]; rfl
        have q126 : ((s[m].toNat : Int) == 126) = false := by rw [hc]; rfl
        have HC := Lib.hid hc
        clear hc hsb
        by_cases hiw : i < W.length
        rotate_left
        · skip
          have hiI : (W.length : Int) < (i : Int) + 1 := by omega
          have HTS : typS s[m] (W.drop i) (X.drop u) = none := by rw [HC.out, drop_nil (l := W) (by omega)]; rfl
          have HE : Hid (tfC W (bl s) X = 9) := HN.out (hn.out.symm.trans (typF_stop hg.out HTS))
          clear HTS
          go_wp2_with fail
          go_returns
          exact ⟨by rw [tf_bad HE.out (by decide), HE.out]; rfl, hB⟩
        obtain ⟨a, ha1, ha2⟩ := drop_at hiw
        have his : i < (sb W).size := by rw [sb_size]; exact hiw
        have HA := Lib.hid (ha2 his)
        have hiI : ¬ ((W.length : Int) < (i : Int) + 1) := by omega
        have hiJ : (i : Int) < W.length := by omega
        by_cases huw : u < X.length
        rotate_left
        · skip
          have huI : (X.length : Int) < (u : Int) + 1 := by omega
          have HTS : typS s[m] (W.drop i) (X.drop u) = none := by rw [HC.out, ha1, drop_nil (l := X) (by omega)]; rfl
          clear ha1 ha2
          have HE : Hid (tfC W (bl s) X = 9) := HN.out (hn.out.symm.trans (typF_stop hg.out HTS))
          clear HTS
          go_wp2_with fail
          go_returns
          exact ⟨by rw [tf_bad HE.out (by decide), HE.out]; rfl, hB⟩
        obtain ⟨b, hb1, hb2'⟩ := drop_at huw
        have hus : u < (sb X).size := by rw [sb_size]; exact huw
        have HB := Lib.hid (hb2' hus)
        have huI : ¬ ((X.length : Int) < (u : Int) + 1) := by omega
        have huJ : (u : Int) < X.length := by omega
        have HSTP := Lib.hid (typF_step (o := o) hg.out ((show typS s[m] (W.drop i) (X.drop u) = some (W.drop (i + 1), X.drop (u + 1), [b]) by rw [HC.out, ha1, hb1]; rfl)))
        clear ha1 ha2 hb1 hb2'
        go_wp2_with (at_builtin; refine app1 rfl (.tmp 68) (.tmp 72) _ rfl w.heap.size 5 _ 1 Try.underlying51 info_uint8 rfl _ _ rfl _ _ _ rfl hrow.out rfl HLN.out (by omega) hz ?_; intro v' w2 hown2 hb2 hg2)
        go_roundw
        case rel => exact ⟨i + 1, u + 1, m + 1, o ++ [b], by omega, by omega, by simp only [List.length_append, List.length_cons, List.length_nil]; have := HO.out; omega, by omega, by go_num, by go_num, by go_num, hB.trans hb2, by show BRow _ _ _ _; have h9 := BRow.snoc hown2; rw [HB.out] at h9; exact h9, HSTP.out.symm.trans hn.out⟩
        case measure => simp [intOf]; omega
      · skip
        have q43 : ((s[m].toNat : Int) == 43) = false := by rw [hc]; rfl
        have q120 : ((s[m].toNat : Int) == 120) = false := by rw [hc]; rfl
        have q45 : ((s[m].toNat : Int) == 45) = true := by rw [hc]; rfl
        have q61 : ((s[m].toNat : Int) == 61) = false := by rw [hc]; rfl
        have q126 : ((s[m].toNat : Int) == 126) = false := by rw [hc]; rfl
        have HC := Lib.hid hc
        clear hc hsb
        by_cases hiw : i < W.length
        rotate_left
        · skip
          have hiI : (W.length : Int) < (i : Int) + 1 := by omega
          have HTS : typS s[m] (W.drop i) (X.drop u) = none := by rw [HC.out, drop_nil (l := W) (by omega)]; rfl
          have HE : Hid (tfC W (bl s) X = 9) := HN.out (hn.out.symm.trans (typF_stop hg.out HTS))
          clear HTS
          go_wp2_with fail
          go_returns
          exact ⟨by rw [tf_bad HE.out (by decide), HE.out]; rfl, hB⟩
        obtain ⟨a, ha1, ha2⟩ := drop_at hiw
        have his : i < (sb W).size := by rw [sb_size]; exact hiw
        have HA := Lib.hid (ha2 his)
        have hiI : ¬ ((W.length : Int) < (i : Int) + 1) := by omega
        have hiJ : (i : Int) < W.length := by omega
        have huI : ¬ ((X.length : Int) < (u : Int)) := by omega
        have HSTP := Lib.hid (typF_step (o := o) hg.out ((show typS s[m] (W.drop i) (X.drop u) = some (W.drop (i + 1), X.drop u, []) by rw [HC.out, ha1]; rfl)))
        clear ha1 ha2
        go_wp2_with fail
        go_roundw
        case rel => exact ⟨i + 1, u, m + 1, o ++ [], by omega, by omega, by simp only [List.length_append, List.length_cons, List.length_nil]; have := HO.out; omega, by omega, by go_num, by go_num, by go_num, hB, by rw [List.append_nil]; exact hrow.out, HSTP.out.symm.trans hn.out⟩
        case measure => simp [intOf]; omega
      · skip
        have q43 : ((s[m].toNat : Int) == 43) = true := by rw [hc]; rfl
        have q120 : ((s[m].toNat : Int) == 120) = false := by rw [hc]; rfl
        have q45 : ((s[m].toNat : Int) == 45) = false := by rw [hc]; rfl
        have q61 : ((s[m].toNat : Int) == 61) = false := by rw [hc]; rfl
        have q126 : ((s[m].toNat : Int) == 126) = false := by rw [hc]; rfl
        have HC := Lib.hid hc
        clear hc hsb
        by_cases huw : u < X.length
        rotate_left
        · skip
          have huI : (X.length : Int) < (u : Int) + 1 := by omega
          have HTS : typS s[m] (W.drop i) (X.drop u) = none := by rw [HC.out, drop_nil (l := X) (by omega)]; rfl
          have HE : Hid (tfC W (bl s) X = 9) := HN.out (hn.out.symm.trans (typF_stop hg.out HTS))
          clear HTS
          go_wp2_with fail
          go_returns
          exact ⟨by rw [tf_bad HE.out (by decide), HE.out]; rfl, hB⟩
        obtain ⟨b, hb1, hb2'⟩ := drop_at huw
        have hus : u < (sb X).size := by rw [sb_size]; exact huw
        have HB := Lib.hid (hb2' hus)
        have huI : ¬ ((X.length : Int) < (u : Int) + 1) := by omega
        have huJ : (u : Int) < X.length := by omega
        have hiI : ¬ ((W.length : Int) < (i : Int)) := by omega
        have HSTP := Lib.hid (typF_step (o := o) hg.out ((show typS s[m] (W.drop i) (X.drop u) = some (W.drop i, X.drop (u + 1), [b]) by rw [HC.out, hb1]; rfl)))
        clear hb1 hb2'
        go_wp2_with (at_builtin; refine app1 rfl (.tmp 68) (.tmp 72) _ rfl w.heap.size 5 _ 1 Try.underlying51 info_uint8 rfl _ _ rfl _ _ _ rfl hrow.out rfl HLN.out (by omega) hz ?_; intro v' w2 hown2 hb2 hg2)
        go_roundw
        case rel => exact ⟨i, u + 1, m + 1, o ++ [b], by omega, by omega, by simp only [List.length_append, List.length_cons, List.length_nil]; have := HO.out; omega, by omega, by go_num, by go_num, by go_num, hB.trans hb2, by show BRow _ _ _ _; have h9 := BRow.snoc hown2; rw [HB.out] at h9; exact h9, HSTP.out.symm.trans hn.out⟩
        case measure => simp [intOf]; omega
      · skip
        have q43 : ((s[m].toNat : Int) == 43) = false := by rw [hc]; rfl
        have q120 : ((s[m].toNat : Int) == 120) = false := by rw [hc]; rfl
        have q45 : ((s[m].toNat : Int) == 45) = false := by rw [hc]; rfl
        have q61 : ((s[m].toNat : Int) == 61) = false := by rw [hc]; rfl
        have q126 : ((s[m].toNat : Int) == 126) = true := by rw [hc]; rfl
        have HC := Lib.hid hc
        clear hc hsb
        by_cases hiw : i + 1 < W.length
        rotate_left
        · skip
          have hiI : (W.length : Int) < (i : Int) + 2 := by omega
          have HTS : typS s[m] (W.drop i) (X.drop u) = none := by
            rw [HC.out]
            have hl : (W.drop i).length ≤ 1 := by rw [List.length_drop]; omega
            rcases h9 : W.drop i with _ | ⟨a, _ | ⟨b, l⟩⟩
            · rfl
            · rfl
            · rw [h9] at hl; simp at hl
          have HE : Hid (tfC W (bl s) X = 9) := HN.out (hn.out.symm.trans (typF_stop hg.out HTS))
          clear HTS
          go_wp2_with fail
          go_returns
          exact ⟨by rw [tf_bad HE.out (by decide), HE.out]; rfl, hB⟩
        obtain ⟨a, ha1, ha2⟩ := drop_at (show i < W.length by omega)
        obtain ⟨b, hb1, hb2'⟩ := drop_at hiw
        have his : i < (sb W).size := by rw [sb_size]; omega
        have hit : i + 1 < (sb W).size := by rw [sb_size]; exact hiw
        have HA := Lib.hid (ha2 his)
        obtain ⟨j, hj⟩ : ∃ j, i + 1 = j := ⟨_, rfl⟩
        have hjs : j < (sb W).size := by omega
        have HB : Hid ((sb W)[j] = b) := by subst hj; exact hb2' hit
        have hwI : IntKind.i64.wrap ((i : Int) + 1) = (j : Int) := by rw [IntWalk.i64_in _ (by omega)]; omega
        have hj0 : (0 : Int) ≤ (j : Int) := by omega
        have hj1 : (j : Int) < W.length := by omega
        have hiI : ¬ ((W.length : Int) < (i : Int) + 2) := by omega
        have hiJ : (i : Int) < W.length := by omega
        have huI : ¬ ((X.length : Int) < (u : Int)) := by omega
        have HSTP := Lib.hid (typF_step (o := o) hg.out ((show typS s[m] (W.drop i) (X.drop u) = some (W.drop (i + 2), X.drop u, [b, a]) by rw [HC.out, ha1, hb1]; rfl)))
        clear ha1 ha2 hb1 hb2'
        go_wp2_with fail
        go_region_law ((refine stepAppM (by rfl) (.tmp 76) (.tmp 84) _ (by rfl) w.heap.size 5 _ 1 1 2 Try.underlying51 info_uint8 (by rfl) (by decide) (by decide) _ _ (by rfl) (by simp [Value.oneCell']) _ _ _ (by rfl) (hrow.out.later (Below.drew (Below.refl _ _))) (by rfl) HLN2.out (by decide) (by simp; omega) ?_; intro v' w2 hown2 hb2 hg2))
        all_goals
          go_wp2_with fail
          go_roundw
          case rel => exact ⟨i + 2, u, m + 1, o ++ [b, a], by omega, by omega, by simp only [List.length_append, List.length_cons, List.length_nil]; have := HO.out; omega, by omega, by go_num, by go_num, by go_num, hB.trans ((Below.drew (Below.refl _ _)).trans hb2), by show BRow _ _ _ _; have h9 := BRow.snoc2 hown2; rw [HA.out, HB.out] at h9; exact h9, HSTP.out.symm.trans hn.out⟩
          case measure => simp [intOf]; omega
      · exfalso
        revert hsb
        generalize s[m] = c at *
        intro hsb
        have h2 : ∀ W T, stO W T c = false := e4
        simp only [isStepB, Bool.or_eq_true, beq_iff_eq] at hsb
        rcases hsb with rfl | rfl | rfl | rfl | rfl
        · exact absurd (h2 [0] [0]) (by decide)
        · exact absurd (h2 [0] [0]) (by decide)
        · exact absurd (h2 [0] [0]) (by decide)
        · exact absurd (h2 [0] [1]) (by decide)
        · exact absurd (h2 [0, 1] [1, 0]) (by decide)
    · obtain rfl : m = s.size := by omega
      have hend := hn.out.symm.trans (typF_end (by rw [bl_len]; omega))
      have hC := HS.out _ _ hend
      have hT := HR.out _ _ hend
      have hconv := hrow.out.text
      have HRW := Lib.hid hrow.out.form
      clear hn hend
      by_cases hue : u = X.length
      rotate_left
      · have hC2 : tfC W (bl s) X = 9 := by
          rw [hC, if_neg]
          intro h9
          have h8 := h9.1
          rw [List.isEmpty_iff, List.drop_eq_nil_iff] at h8
          omega
        have HE := Lib.hid hC2
        have huI : ((u : Int) != (X.length : Int)) = true := by rw [bne_iff_ne]; omega
        clear hC hC2 hT hrow HRW
        go_wp2_with fail
        go_returns
        exact ⟨by rw [tf_bad HE.out (by decide), HE.out]; rfl, hB⟩
      · have huI : ((u : Int) != (X.length : Int)) = false := by rw [bne_eq_false_iff_eq]; omega
        have hX : (X.drop u).isEmpty = true := by rw [List.isEmpty_iff, List.drop_eq_nil_iff]; omega
        rw [hX] at hC
        simp only [true_and] at hC
        cases h3 : isAl W o (bl s)
        · rw [h3, if_neg (by decide)] at hC
          have HE := Lib.hid hC
          have I := Lib.hid (fun V : World => c_aligns W o s false h3 V (by omega) (by omega) (by omega))
          clear hC hT h3 hX hrow HRW hue
          go_wp2_with (go_at_call 46; refine (I.out _).mono ?_; rintro r_ w2 ⟨rfl, hb2⟩; have hB2 := later hb2 (w := w) hB)
          go_returns
          exact ⟨by rw [tf_bad HE.out (by decide), HE.out]; rfl, hB2⟩
        · rw [h3, if_pos rfl] at hC
          have I := Lib.hid (fun V : World => c_aligns W o s true h3 V (by omega) (by omega) (by omega))
          by_cases h4 : o.length ≤ 60
          · rw [if_pos h4] at hC
            have HA := Lib.hid (show tfA W (bl s) X = sb o by rw [tf_ok hC, hT])
            have HE := Lib.hid hC
            have HROW := Lib.hid hrow.out
            have h5 : ¬ (60 : Int) < (o.length : Int) := by omega
            clear hC hT h3 hX hrow hue
            rcases HRW.out with ⟨rfl, h9⟩ | ⟨g, cap, rfl, _, _, _⟩
            · subst h9
              clear HRW
              go_wp2_with (go_at_call 46; refine (I.out _).mono ?_; rintro r_ w2 ⟨rfl, hb2⟩; have hB2 := later hb2 (w := w) hB; have hconv2 := (HROW.out.later hb2).text)
              go_returns
              exact ⟨by rw [HA.out, HE.out]; rfl, hB2⟩
            · clear HRW
              go_wp2_with (go_at_call 46; refine (I.out _).mono ?_; rintro r_ w2 ⟨rfl, hb2⟩; have hB2 := later hb2 (w := w) hB; have hconv2 := (HROW.out.later hb2).text)
              go_returns
              exact ⟨by rw [HA.out, HE.out]; rfl, hB2⟩
          · rw [if_neg h4] at hC
            have HE := Lib.hid hC
            have h5 : (60 : Int) < (o.length : Int) := by omega
            clear hC hT h3 hX hrow hue
            rcases HRW.out with ⟨rfl, h9⟩ | ⟨g, cap, rfl, _, _, _⟩
            · subst h9; simp at h4
            · clear HRW
              go_wp2_with (go_at_call 46; refine (I.out _).mono ?_; rintro r_ w2 ⟨rfl, hb2⟩; have hB2 := later hb2 (w := w) hB)
              go_returns
              exact ⟨by rw [tf_bad HE.out (by decide), HE.out]; rfl, hB2⟩
end Go.Proofs.Ythgoofjojanakaa
