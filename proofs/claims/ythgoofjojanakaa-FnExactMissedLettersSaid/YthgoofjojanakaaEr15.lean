/- Contracts: the least alignment (the reference). -/
import Derived.Test.YthgoofjojanakaaEr14
namespace Go.Proofs.Ythgoofjojanakaa
open Go.RowKit Go.BigFrame
attribute [local go_sem] sub_cell sub_frozen drewN_setCell
attribute [local go_sem] sb_size sb_toList mt_toList cons_beq_nil nil_beq_nil List.length_cons List.length_nil u8_eq u8_ne

theorem ok43 {W T : List UInt8} {i k : Nat} (hk : k < T.length) : okS (W.drop i) (T.drop k) 43 = decide (cC W T i (k + 1) + 1 = cC W T i k) := by
  unfold okS cC
  rw [o43, sd43.1, sd43.2.1, sd43.2.2, List.drop_drop, List.drop_drop, List.drop_eq_getElem_cons hk]
  simp
theorem ok43n {W T : List UInt8} {i k : Nat} (hk : T.length ≤ k) : okS (W.drop i) (T.drop k) 43 = false := by
  unfold okS
  rw [o43, List.drop_of_length_le hk]
  simp
theorem ok45 {W T : List UInt8} {i k : Nat} (hi : i < W.length) : okS (W.drop i) (T.drop k) 45 = decide (cC W T (i + 1) k + 1 = cC W T i k) := by
  unfold okS cC
  rw [o45, sd45.1, sd45.2.1, sd45.2.2, List.drop_drop, List.drop_drop, List.drop_eq_getElem_cons hi]
  simp
theorem ok45n {W T : List UInt8} {i k : Nat} (hi : W.length ≤ i) : okS (W.drop i) (T.drop k) 45 = false := by
  unfold okS
  rw [o45, List.drop_of_length_le hi]
  simp
theorem ok61 {W T : List UInt8} {i k : Nat} {a b : UInt8} (ha : W.drop i = a :: W.drop (i + 1)) (hb : T.drop k = b :: T.drop (k + 1)) : okS (W.drop i) (T.drop k) 61 = ((a == b) && decide (cC W T (i + 1) (k + 1) = cC W T i k)) := by
  unfold okS cC
  rw [o61, sd61.1, sd61.2.1, sd61.2.2, List.drop_drop, List.drop_drop, ha, hb]
  simp
theorem ok120 {W T : List UInt8} {i k : Nat} {a b : UInt8} (ha : W.drop i = a :: W.drop (i + 1)) (hb : T.drop k = b :: T.drop (k + 1)) : okS (W.drop i) (T.drop k) 120 = (!(a == b) && decide (cC W T (i + 1) (k + 1) + 1 = cC W T i k)) := by
  unfold okS cC
  rw [o120, sd120.1, sd120.2.1, sd120.2.2, List.drop_drop, List.drop_drop, ha, hb]
  simp
theorem ok61n {w t : List UInt8} (h : w = [] ∨ t = []) : okS w t 61 = false := by
  unfold okS
  rcases h with h | h
  · subst h
    rw [o61]
    simp
  · subst h
    rw [o61]
    cases w <;> simp
theorem nx43 {w t : List UInt8} (h : okS w t 43 = true) : nxt w t = some 43 := by unfold nxt; simp [steps5, List.find?_cons, h]
theorem nx45 {w t : List UInt8} (h0 : okS w t 43 = false) (h : okS w t 45 = true) : nxt w t = some 45 := by unfold nxt; simp [steps5, List.find?_cons, h, h0]
theorem nx61 {w t : List UInt8} (h0 : okS w t 43 = false) (h1 : okS w t 45 = false) (h : okS w t 61 = true) : nxt w t = some 61 := by unfold nxt; simp [steps5, List.find?_cons, h, h0, h1]
theorem nx120 {w t : List UInt8} (h0 : okS w t 43 = false) (h1 : okS w t 45 = false) (h2 : okS w t 61 = false) (h : okS w t 120 = true) : nxt w t = some 120 := by unfold nxt; simp [steps5, List.find?_cons, h, h0, h1, h2]
theorem nx126 {w t : List UInt8} {c : UInt8} (h0 : okS w t 43 = false) (h1 : okS w t 45 = false) (h2 : okS w t 61 = false) (h3 : okS w t 120 = false) (h : nxt w t = some c) : nxt w t = some 126 ∧ okS w t 126 = true := by
  obtain ⟨hok, hc⟩ := nxt_ok h
  simp only [steps5, List.mem_cons, List.not_mem_nil, or_false] at hc
  rcases hc with rfl | rfl | rfl | rfl | rfl
  · rw [h0] at hok; cases hok
  · rw [h1] at hok; cases hok
  · rw [h2] at hok; cases hok
  · rw [h3] at hok; cases hok
  · exact ⟨h, hok⟩

set_option maxRecDepth 20000 in
set_option maxHeartbeats 8000000 in
theorem c_l19Align (W T : List UInt8) (w : World) (hW : W.length ≤ 60) (hT : T.length ≤ 60) :
    Calls Try.prog 48 #[.string (sb W), .string (sb T)] w fun e w' => e = .returned (.string (sb (alnL W T))) ∧ Below w.heap.size w w' := by
  obtain ⟨n, hn⟩ : ∃ n, W.length = n := ⟨_, rfl⟩
  obtain ⟨m, hm⟩ : ∃ m, T.length = m := ⟨_, rfl⟩
  have HBD : Hid (∀ i k, 0 ≤ cC W T i k ∧ cC W T i k ≤ 120) := fun i k => cC_bd W T i k hW hT
  have CL := Lib.hid ((c_l19Costs W T w hW hT).mono fun _ _ h => And.intro h.1 (And.intro h.2.1.toR h.2.2))
  rw [hn] at hW
  rw [hm] at hT
  rw [hn, hm] at CL
  have HNM := Lib.hid (And.intro hn hm)
  go_enter Try.func48, Try.ntmps48
  go_wp2_with (go_at_call 42; refine CL.out.mono ?_; rintro r_ w1 ⟨rfl, hR, hb1⟩)
  have hz1 := hb1.size
  have hGz := hR.1
  have HR1 := Lib.hid hR
  clear hR
  go_loopw [6, 7, 8] (fun v x y wr => ∃ i k : Nat, ∃ l : List UInt8, i ≤ n ∧ k ≤ m ∧ x = .int .i64 i ∧ y = .int .i64 k ∧ Below w1.heap.size w1 wr ∧ Hid (BRow wr w1.heap.size v l) ∧ Hid (AlnInv W T i k l)) (fun _ x y _ => n + m - (intOf x).toNat - (intOf y).toNat)
  case atStart => exact ⟨0, 0, [], by omega, by omega, rfl, rfl, by (repeat' (first | (with_reducible exact Below.refl _ _) | (with_reducible assumption) | (with_reducible refine below_drewN ?_ _) | (with_reducible refine Below.drew ?_) | (with_reducible refine Below.alloc ?_ ?_ _) | (with_reducible refine Below.setCell ?_ ?_ _) | go_size)), BRow.made _, AlnInv.start W T⟩
  case round =>
    obtain ⟨i, k, l, hi, hk, rfl, rfl, hB, hrow, hinv⟩ := hrel
    have hzr := hB.size
    by_cases hne : i < n ∨ k < m
    · have HNE := Lib.hid hne
      obtain ⟨c0, hc0⟩ := nxt_some (w := W.drop i) (t := T.drop k) (by simp only [List.length_drop]; have := HNM.out.1; have := HNM.out.2; omega)
      have HC0 := Lib.hid hc0
      have hR := HR1.out.later hB
      obtain ⟨r, _, g0, rowc⟩ := hR.2 i hi
      have g1 := rowc k hk
      have bd0 := HBD.out i k
      have bd00 := bd0.1
      have bd01 := bd0.2
      clear hne hc0 bd0
      by_cases hiN : i < n
      · obtain ⟨a, ea, ga⟩ := drop_at (l := W) (i := i) (by have := HNM.out.1; omega)
        obtain ⟨r', _, g2, rowc2⟩ := hR.2 (i + 1) (by omega)
        have g3 := rowc2 k hk
        have bdb := HBD.out (i + 1) k
        have bd10 := bdb.1
        have bd11 := bdb.2
        have hiI : (i : Int) < n := by omega
        have hi0 : (0 : Int) ≤ (i : Int) := by omega
        have o45 := ok45 (W := W) (T := T) (i := i) (k := k) (by have := HNM.out.1; omega)
        clear bdb
        by_cases hkM : k < m
        · obtain ⟨b, eb, gb⟩ := drop_at (l := T) (i := k) (by have := HNM.out.2; omega)
          have g4 := rowc (k + 1) (by omega)
          have g5 := rowc2 (k + 1) (by omega)
          have bda := HBD.out i (k + 1)
          have bd20 := bda.1
          have bd21 := bda.2
          have bdc := HBD.out (i + 1) (k + 1)
          have bd30 := bdc.1
          have bd31 := bdc.2
          have hkI : (k : Int) < m := by omega
          have hk0 : (0 : Int) ≤ (k : Int) := by omega
          have o43 := ok43 (W := W) (T := T) (i := i) (k := k) (by have := HNM.out.2; omega)
          have o61 := ok61 ea eb
          have o120 := ok120 ea eb
          have EA := Lib.hid (And.intro ea eb)
          clear bda bdc hR rowc rowc2 ea eb
          by_cases e1 : cC W T i (k + 1) + 1 = cC W T i k
          · have e1' : (cC W T i (k + 1) + 1 == cC W T i k) = true := beq_iff_eq.2 e1
            rw [decide_eq_true e1] at o43
            have HN := Lib.hid (nx43 o43)
            have hln2 : l.length + 1 ≤ 1099511627776 := by have h1 := HNM.out.1; have h2 := HNM.out.2; have := hinv.out.len; omega
            have HLN := Lib.hid hln2
            have hinv2 := Lib.hid (hinv.out.step (by have h1 := HNM.out.1; have h2 := HNM.out.2; have := HNE.out; omega) HN.out)
            clear hln2 o43 o45 o61 o120 e1
            go_wp2_with (at_builtin; refine app1 rfl (.tmp 56) (.tmp 57) _ rfl w1.heap.size 5 _ 1 Try.underlying51 info_uint8 rfl _ _ rfl _ _ _ rfl hrow.out rfl HLN.out (by omega) (by first | exact hzr | (simp; omega)) ?_; intro v' w2 hown2 hb2 hg2)
            go_roundw
            case rel => exact ⟨i, k + 1, l ++ [43], by omega, by omega, by go_num, by go_num, (by first | exact hB | exact below_drewN hB _ : Below w1.heap.size w1 _).trans hb2, BRow.snoc (c := 43) hown2, hinv2.out⟩
            case measure => simp [intOf]; omega
          have e1' : (cC W T i (k + 1) + 1 == cC W T i k) = false := beq_eq_false_iff_ne.2 e1
          rw [decide_eq_false e1] at o43
          clear e1
          by_cases e2 : cC W T (i + 1) k + 1 = cC W T i k
          · have e2' : (cC W T (i + 1) k + 1 == cC W T i k) = true := beq_iff_eq.2 e2
            rw [decide_eq_true e2] at o45
            have HN := Lib.hid (nx45 o43 o45)
            have hln2 : l.length + 1 ≤ 1099511627776 := by have h1 := HNM.out.1; have h2 := HNM.out.2; have := hinv.out.len; omega
            have HLN := Lib.hid hln2
            have hinv2 := Lib.hid (hinv.out.step (by have h1 := HNM.out.1; have h2 := HNM.out.2; have := HNE.out; omega) HN.out)
            clear hln2 o43 o45 o61 o120 e2
            go_wp2_with (at_builtin; refine app1 rfl (.tmp 79) (.tmp 80) _ rfl w1.heap.size 5 _ 1 Try.underlying51 info_uint8 rfl _ _ rfl _ _ _ rfl hrow.out rfl HLN.out (by omega) (by first | exact hzr | (simp; omega)) ?_; intro v' w2 hown2 hb2 hg2)
            go_roundw
            case rel => exact ⟨i + 1, k, l ++ [45], by omega, by omega, by go_num, by go_num, (by first | exact hB | exact below_drewN hB _ : Below w1.heap.size w1 _).trans hb2, BRow.snoc (c := 45) hown2, hinv2.out⟩
            case measure => simp [intOf]; omega
          have e2' : (cC W T (i + 1) k + 1 == cC W T i k) = false := beq_eq_false_iff_ne.2 e2
          rw [decide_eq_false e2] at o45
          clear e2
          cases he : (a == b)
          · rw [he] at o61 o120
            by_cases e4 : cC W T (i + 1) (k + 1) + 1 = cC W T i k
            · have e4' : (cC W T (i + 1) (k + 1) + 1 == cC W T i k) = true := beq_iff_eq.2 e4
              rw [decide_eq_true e4] at o120
              have HN := Lib.hid (nx120 o43 o45 o61 o120)
              have hln2 : l.length + 1 ≤ 1099511627776 := by have h1 := HNM.out.1; have h2 := HNM.out.2; have := hinv.out.len; omega
              have HLN := Lib.hid hln2
              have hinv2 := Lib.hid (hinv.out.step (by have h1 := HNM.out.1; have h2 := HNM.out.2; have := HNE.out; omega) HN.out)
              clear hln2 o43 o45 o61 o120 e4
              go_wp2_with fail
              go_quiet (fail)
              have hrow2 := Lib.hid (hrow.out.later (below_drewN (Below.refl _ _) nq))
              go_wp2_with fail
              go_quiet (fail)
              have hrow3 := Lib.hid (hrow2.out.later (below_drewN (Below.refl _ _) nq))
              go_wp2_with (at_builtin; refine app1 rfl (.tmp 158) (.tmp 159) _ rfl w1.heap.size 5 _ 1 Try.underlying51 info_uint8 rfl _ _ rfl _ _ _ rfl hrow3.out rfl HLN.out (by omega) (by first | exact hzr | (simp; omega)) ?_; intro v' w2 hown2 hb2 hg2)
              go_roundw
              case rel => exact ⟨i + 1, k + 1, l ++ [120], by omega, by omega, by go_num, by go_num, (by first | exact hB | exact below_drewN hB _ : Below w1.heap.size w1 _).trans hb2, BRow.snoc (c := 120) hown2, hinv2.out⟩
              case measure => simp [intOf]; omega
            · have e4' : (cC W T (i + 1) (k + 1) + 1 == cC W T i k) = false := beq_eq_false_iff_ne.2 e4
              rw [decide_eq_false e4] at o120
              obtain ⟨hnx, hok⟩ := nx126 o43 o45 o61 o120 HC0.out
              obtain ⟨l1, l2, _⟩ := okS_len hok
              rw [sd126.1, List.length_drop, HNM.out.1] at l1
              rw [sd126.2.1, List.length_drop, HNM.out.2] at l2
              have HN := Lib.hid (hnx)
              have hln2 : l.length + 1 ≤ 1099511627776 := by have h1 := HNM.out.1; have h2 := HNM.out.2; have := hinv.out.len; omega
              have HLN := Lib.hid hln2
              have hinv2 := Lib.hid (hinv.out.step (by have h1 := HNM.out.1; have h2 := HNM.out.2; have := HNE.out; omega) HN.out)
              clear hln2 o43 o45 o61 o120 e4 hnx hok
              go_wp2_with fail
              go_quiet (fail)
              have hrow2 := Lib.hid (hrow.out.later (below_drewN (Below.refl _ _) nq))
              go_wp2_with fail
              go_quiet (fail)
              have hrow3 := Lib.hid (hrow2.out.later (below_drewN (Below.refl _ _) nq))
              go_wp2_with (at_builtin; refine app1 rfl (.tmp 31) (.tmp 32) _ rfl w1.heap.size 5 _ 1 Try.underlying51 info_uint8 rfl _ _ rfl _ _ _ rfl hrow3.out rfl HLN.out (by omega) (by first | exact hzr | (simp; omega)) ?_; intro v' w2 hown2 hb2 hg2)
              go_roundw
              case rel => exact ⟨i + 2, k + 2, l ++ [126], by omega, by omega, by go_num, by go_num, (by first | exact hB | exact below_drewN hB _ : Below w1.heap.size w1 _).trans hb2, BRow.snoc (c := 126) hown2, hinv2.out⟩
              case measure => simp [intOf]; omega
          · rw [he] at o61 o120
            by_cases e3 : cC W T (i + 1) (k + 1) = cC W T i k
            · have e3' : (cC W T (i + 1) (k + 1) == cC W T i k) = true := beq_iff_eq.2 e3
              rw [decide_eq_true e3] at o61
              have HN := Lib.hid (nx61 o43 o45 o61)
              have hln2 : l.length + 1 ≤ 1099511627776 := by have h1 := HNM.out.1; have h2 := HNM.out.2; have := hinv.out.len; omega
              have HLN := Lib.hid hln2
              have hinv2 := Lib.hid (hinv.out.step (by have h1 := HNM.out.1; have h2 := HNM.out.2; have := HNE.out; omega) HN.out)
              clear hln2 o43 o45 o61 o120 e3
              go_wp2_with fail
              go_quiet (fail)
              have hrow2 := Lib.hid (hrow.out.later (below_drewN (Below.refl _ _) nq))
              go_wp2_with (at_builtin; refine app1 rfl (.tmp 117) (.tmp 118) _ rfl w1.heap.size 5 _ 1 Try.underlying51 info_uint8 rfl _ _ rfl _ _ _ rfl hrow2.out rfl HLN.out (by omega) (by first | exact hzr | (simp; omega)) ?_; intro v' w2 hown2 hb2 hg2)
              go_roundw
              case rel => exact ⟨i + 1, k + 1, l ++ [61], by omega, by omega, by go_num, by go_num, (by first | exact hB | exact below_drewN hB _ : Below w1.heap.size w1 _).trans hb2, BRow.snoc (c := 61) hown2, hinv2.out⟩
              case measure => simp [intOf]; omega
            · have e3' : (cC W T (i + 1) (k + 1) == cC W T i k) = false := beq_eq_false_iff_ne.2 e3
              rw [decide_eq_false e3] at o61
              obtain ⟨hnx, hok⟩ := nx126 o43 o45 o61 o120 HC0.out
              obtain ⟨l1, l2, _⟩ := okS_len hok
              rw [sd126.1, List.length_drop, HNM.out.1] at l1
              rw [sd126.2.1, List.length_drop, HNM.out.2] at l2
              have HN := Lib.hid (hnx)
              have hln2 : l.length + 1 ≤ 1099511627776 := by have h1 := HNM.out.1; have h2 := HNM.out.2; have := hinv.out.len; omega
              have HLN := Lib.hid hln2
              have hinv2 := Lib.hid (hinv.out.step (by have h1 := HNM.out.1; have h2 := HNM.out.2; have := HNE.out; omega) HN.out)
              clear hln2 o43 o45 o61 o120 e3 hnx hok
              go_wp2_with fail
              go_quiet (fail)
              have hrow2 := Lib.hid (hrow.out.later (below_drewN (Below.refl _ _) nq))
              go_wp2_with fail
              go_quiet (fail)
              have hrow3 := Lib.hid (hrow2.out.later (below_drewN (Below.refl _ _) nq))
              go_wp2_with (at_builtin; refine app1 rfl (.tmp 31) (.tmp 32) _ rfl w1.heap.size 5 _ 1 Try.underlying51 info_uint8 rfl _ _ rfl _ _ _ rfl hrow3.out rfl HLN.out (by omega) (by first | exact hzr | (simp; omega)) ?_; intro v' w2 hown2 hb2 hg2)
              go_roundw
              case rel => exact ⟨i + 2, k + 2, l ++ [126], by omega, by omega, by go_num, by go_num, (by first | exact hB | exact below_drewN hB _ : Below w1.heap.size w1 _).trans hb2, BRow.snoc (c := 126) hown2, hinv2.out⟩
              case measure => simp [intOf]; omega
        · have hkM2 : T.length ≤ k := by have := HNM.out.2; omega
          have o43 := ok43n (W := W) (i := i) hkM2
          have o61 := ok61n (w := W.drop i) (t := T.drop k) (.inr (List.drop_of_length_le hkM2))
          have hkI : ¬ (k : Int) < m := by omega
          obtain ⟨hok, hc⟩ := nxt_ok HC0.out
          have hc45 : c0 = 45 := by
            simp only [steps5, List.mem_cons, List.not_mem_nil, or_false] at hc
            rcases hc with rfl | rfl | rfl | rfl | rfl
            · rw [o43] at hok; cases hok
            · rfl
            · rw [o61] at hok; cases hok
            · have := (okS_len hok).2.1
              rw [sd120.2.1, List.length_drop] at this
              omega
            · have := (okS_len hok).2.1
              rw [sd126.2.1, List.length_drop] at this
              omega
          subst hc45
          rw [o45, decide_eq_true_eq] at hok
          have e2' : (cC W T (i + 1) k + 1 == cC W T i k) = true := beq_iff_eq.2 hok
          clear hR rowc rowc2 ea hok hc hkM2
          have HN := Lib.hid (HC0.out)
          have hln2 : l.length + 1 ≤ 1099511627776 := by have h1 := HNM.out.1; have h2 := HNM.out.2; have := hinv.out.len; omega
          have HLN := Lib.hid hln2
          have hinv2 := Lib.hid (hinv.out.step (by have h1 := HNM.out.1; have h2 := HNM.out.2; have := HNE.out; omega) HN.out)
          clear hln2 o43 o45 o61
          go_wp2_with (at_builtin; refine app1 rfl (.tmp 79) (.tmp 80) _ rfl w1.heap.size 5 _ 1 Try.underlying51 info_uint8 rfl _ _ rfl _ _ _ rfl hrow.out rfl HLN.out (by omega) (by first | exact hzr | (simp; omega)) ?_; intro v' w2 hown2 hb2 hg2)
          go_roundw
          case rel => exact ⟨i + 1, k, l ++ [45], by omega, by omega, by go_num, by go_num, (by first | exact hB | exact below_drewN hB _ : Below w1.heap.size w1 _).trans hb2, BRow.snoc (c := 45) hown2, hinv2.out⟩
          case measure => simp [intOf]; omega
      · have hiN2 : W.length ≤ i := by have := HNM.out.1; omega
        have hkM : k < m := by have := HNE.out; omega
        have hiI : ¬ (i : Int) < n := by omega
        have hkI : (k : Int) < m := by omega
        have g4 := rowc (k + 1) (by omega)
        have bda := HBD.out i (k + 1)
        have bd20 := bda.1
        have bd21 := bda.2
        have o43 := ok43 (W := W) (T := T) (i := i) (k := k) (by have := HNM.out.2; omega)
        obtain ⟨hok, hc⟩ := nxt_ok HC0.out
        have hc43 : c0 = 43 := by
          simp only [steps5, List.mem_cons, List.not_mem_nil, or_false] at hc
          have h1 := (okS_len hok).1
          rw [List.length_drop] at h1
          rcases hc with rfl | rfl | rfl | rfl | rfl
          · rfl
          · rw [sd45.1] at h1; omega
          · rw [sd61.1] at h1; omega
          · rw [sd120.1] at h1; omega
          · rw [sd126.1] at h1; omega
        subst hc43
        rw [o43, decide_eq_true_eq] at hok
        have e1' : (cC W T i (k + 1) + 1 == cC W T i k) = true := beq_iff_eq.2 hok
        clear hR rowc hok hc hiN2 bda
        have HN := Lib.hid (HC0.out)
        have hln2 : l.length + 1 ≤ 1099511627776 := by have h1 := HNM.out.1; have h2 := HNM.out.2; have := hinv.out.len; omega
        have HLN := Lib.hid hln2
        have hinv2 := Lib.hid (hinv.out.step (by have h1 := HNM.out.1; have h2 := HNM.out.2; have := HNE.out; omega) HN.out)
        clear hln2 o43
        go_wp2_with (at_builtin; refine app1 rfl (.tmp 56) (.tmp 57) _ rfl w1.heap.size 5 _ 1 Try.underlying51 info_uint8 rfl _ _ rfl _ _ _ rfl hrow.out rfl HLN.out (by omega) (by first | exact hzr | (simp; omega)) ?_; intro v' w2 hown2 hb2 hg2)
        go_roundw
        case rel => exact ⟨i, k + 1, l ++ [43], by omega, by omega, by go_num, by go_num, (by first | exact hB | exact below_drewN hB _ : Below w1.heap.size w1 _).trans hb2, BRow.snoc (c := 43) hown2, hinv2.out⟩
        case measure => simp [intOf]; omega
    · have h1 : ¬ (i : Int) < n := by omega
      have h2 : ¬ (k : Int) < m := by omega
      have hl := hinv.out.done (by have := HNM.out.1; omega) (by have := HNM.out.2; omega)
      subst hl
      have hconv := hrow.out.text
      clear hrow hinv
      have hBf := hb1.trans (hB.mono hb1.size)
      go_wp2_with fail
      go_ret
      exact ⟨rfl, hBf⟩
end Go.Proofs.Ythgoofjojanakaa
