/- Contracts: the least alignment (the program). -/
import Derived.Test.YthgoofjojanakaaEr13
import Derived.Test.YthgoofjojanakaaEr11
import Derived.Test.YthgoofjojanakaaBy
namespace Go.Proofs.Ythgoofjojanakaa
open Go.RowKit Go.BigFrame
attribute [local go_sem] sub_cell sub_frozen drewN_setCell
attribute [local go_sem] sb_size List.length_cons List.length_nil

theorem MatR.at_ {w : World} {G n m : Nat} {C : Nat → Nat → Int} (h : MatR w G n m C) {i k : Nat} (hi : i ≤ n) (hk : k ≤ m) : ∃ r, w.cell? ⟨G, i, none⟩ = some (.slice (some ⟨r, 0, none⟩) (m + 1) (m + 1)) ∧ w.cell? ⟨r, k, none⟩ = some (.int .i64 (C i k)) := by
  obtain ⟨r, _, h1, h2⟩ := h.2 i hi
  exact ⟨r, h1, h2 k hk⟩
set_option maxRecDepth 20000 in
set_option maxHeartbeats 8000000 in
theorem c_alignment (W T : List UInt8) (w : World) (hW : W.length ≤ 60) (hT : T.length ≤ 60) :
    Calls Try.prog 49 #[.string (sb W), .string (sb T)] w fun e w' => e = .returned (.string (sb (alnL W T))) ∧ Below w.heap.size w w' := by
  obtain ⟨n, hn⟩ : ∃ n, W.length = n := ⟨_, rfl⟩
  obtain ⟨m, hm⟩ : ∃ m, T.length = m := ⟨_, rfl⟩
  have HBD : Hid (∀ i k, 0 ≤ cC W T i k ∧ cC W T i k ≤ 120) := fun i k => cC_bd W T i k hW hT
  have CL := Lib.hid (c_leastFrom W T w hW hT)
  have kc := fun V : World => Lib.run_convert_bytes_const (P := Try.prog) V 51 5 #[.int .u8 43, .int .u8 45, .int .u8 61, .int .u8 120, .int .u8 126] 5 5 Try.underlying51 Try.underlying5
  rw [hn] at hW
  rw [hm] at hT
  rw [hn, hm] at CL
  have HNM := Lib.hid (And.intro hn hm)
  go_enter Try.func49, Try.ntmps49
  go_wp2_with (go_at_call 44; refine CL.out.mono ?_; rintro r_ w1 ⟨rfl, hR, hb1⟩)
  have hz1 := hb1.size
  have hGz := hR.1
  have HR1 := Lib.hid hR
  clear hR
  go_loopw [6, 7, 8] (fun v x y wr => ∃ i k : Nat, ∃ l : List UInt8, i ≤ n ∧ k ≤ m ∧ x = .int .i64 i ∧ y = .int .i64 k ∧ Below w1.heap.size w1 wr ∧ Hid (BRow wr w1.heap.size v l) ∧ Hid (AlnInv W T i k l)) (fun _ x y _ => n + m - (intOf x).toNat - (intOf y).toNat)
  case atStart => exact ⟨0, 0, [], by omega, by omega, rfl, rfl, by (repeat' (first | (with_reducible exact Below.refl _ _) | (with_reducible assumption) | (with_reducible refine below_drewN ?_ _) | (with_reducible refine Below.drew ?_) | (with_reducible refine Below.alloc ?_ ?_ _) | (with_reducible refine Below.setCell ?_ ?_ _) | go_size)), BRow.made _, AlnInv.start W T⟩
  case round =>
    rename World => wr
    obtain ⟨i, k, l, hi, hk, rfl, rfl, hB, hrow, hinv⟩ := hrel
    have hzr := hB.size
    by_cases hne : i < n ∨ k < m
    · have HNE := Lib.hid hne
      obtain ⟨c0, hc0⟩ := nxt_some (w := W.drop i) (t := T.drop k) (by simp only [List.length_drop]; have := HNM.out.1; have := HNM.out.2; omega)
      have HC0 := Lib.hid hc0
      have bd0 := HBD.out i k
      have kc' := kc wr
      have hgood : (i : Int) < n ∨ (¬ (i : Int) < n ∧ (k : Int) < m) := by have := HNE.out; omega
      clear kc hc0 hne
      rcases hgood with h1 | ⟨h1, h2⟩
      all_goals
        go_wp2_with fail
        go_loopw [6, 7, 8, 32] (fun v x' y' y wr3 => ∃ j : Nat, j ≤ 5 ∧ x' = .int .i64 i ∧ y' = .int .i64 k ∧ y = .int .i64 j ∧ Below w1.heap.size w1 wr3 ∧ wr.heap.size < wr3.heap.size ∧ wr3.heap[wr.heap.size]? = some (.cells bytes5 5 (5, 6)) ∧ Hid (BRow wr3 w1.heap.size v l) ∧ Hid (∀ q, q < j → okS (W.drop i) (T.drop k) (step5 q) = false)) (fun _ _ _ y _ => 5 - (intOf y).toNat)
        case atStart => exact ⟨0, by omega, rfl, rfl, rfl, by (repeat' (first | (with_reducible exact Below.refl _ _) | (with_reducible assumption) | (with_reducible refine below_drewN ?_ _) | (with_reducible refine Below.drew ?_) | (with_reducible refine Below.alloc ?_ ?_ _) | (with_reducible refine Below.setCell ?_ ?_ _) | go_size)), by simp, Array.getElem?_push_size (xs := wr.heap) (x := .cells bytes5 5 (5, 6)), hrow.out.later (Below.alloc (Below.refl _ _) (Nat.le_refl _) _), fun q hq => by omega⟩
        case round =>
          rename World => wr3
          clear kc' hrow hB
          obtain ⟨j, hj, rfl, rfl, rfl, hB, hzr3, hbl, hrow, hno⟩ := hrel
          have hzr2 := hB.size
          have hR := Lib.hid (HR1.out.later hB)
          by_cases hlt : j < 5
          · have r0 : wr3.cell? ⟨wr.heap.size, j, none⟩ = some (.int .u8 ((step5 j).toNat : Int)) := by simp only [World.cell?, hbl]; exact bytes5_at j hlt
            have hWl : (W.drop i).length ≤ 4611686018427387904 := by simp only [List.length_drop]; have := HNM.out.1; omega
            have hTl : (T.drop k).length ≤ 4611686018427387904 := by simp only [List.length_drop]; have := HNM.out.2; omega
            have x1 : (sb W).extract i n = sb (W.drop i) := HNM.out.1 ▸ sb_extract W i
            have x2 : (sb T).extract k m = sb (T.drop k) := HNM.out.2 ▸ sb_extract T k
            have hlen := @stO_len (W.drop i) (T.drop k) (step5 j)
            have hDl := stD_le (step5 j)
            have hKl := stK_le (step5 j)
            have hEl := stE_le (step5 j)
            have hpos := @stDK_pos (W.drop i) (T.drop k) (step5 j)
            have hat := @nxt_at (W.drop i) (T.drop k) j hlt hno.out
            have hokd : okS (W.drop i) (T.drop k) (step5 j) = (stO (W.drop i) (T.drop k) (step5 j) && decide (cC W T (i + stD (step5 j)) (k + stK (step5 j)) + (stE (step5 j) : Int) = cC W T i k)) := by
              unfold okS cC
              rw [List.drop_drop, List.drop_drop]
            obtain ⟨o, HO⟩ : ∃ o, Hid (stO (W.drop i) (T.drop k) (step5 j) = o) := ⟨_, Lib.hid rfl⟩
            obtain ⟨d, hd⟩ : ∃ d, stD (step5 j) = d := ⟨_, rfl⟩
            obtain ⟨u, hu⟩ : ∃ u, stK (step5 j) = u := ⟨_, rfl⟩
            obtain ⟨e, he⟩ : ∃ e, stE (step5 j) = e := ⟨_, rfl⟩
            rw [hd, hu, HO.out] at hlen
            rw [hd, hu, HO.out] at hpos
            rw [hd, hu, he, HO.out] at hokd
            rw [hd] at hDl
            rw [hu] at hKl
            rw [he] at hEl
            simp only [List.length_drop] at hlen
            have hlen' : o = true → d ≤ n - i ∧ u ≤ m - k := fun h => by have := hlen h; have h1 := HNM.out.1; have h2 := HNM.out.2; omega
            have HD := Lib.hid hd
            have HK := Lib.hid hu
            have HE := Lib.hid he
            have HBL := Lib.hid hbl
            have HAT := Lib.hid hat
            clear hd hu he hbl hat hlen
            cases o
            · have HOK := Lib.hid (hokd.trans (Bool.false_and _))
              clear hokd hlen' hpos
              go_wp2_with fail
              go_quiet ((go_at_call 58; exact d0 (c_stepAt (W.drop i) (T.drop k) (step5 j) false d u e HO.out HD.out HK.out HE.out _ hWl hTl)))
              go_wp2_with fail
              go_quiet (fail)
              go_wp2_with fail
              go_roundw
              case rel => exact ⟨j + 1, by omega, rfl, rfl, by go_num, by (repeat' (first | (with_reducible exact Below.refl _ _) | (with_reducible assumption) | (with_reducible refine below_drewN ?_ _) | (with_reducible refine Below.drew ?_) | (with_reducible refine Below.alloc ?_ ?_ _) | (with_reducible refine Below.setCell ?_ ?_ _) | go_size)), by simp; omega, HBL.out, hrow.out.later (below_drewN (Below.refl _ _) _), fun q hq => by
                by_cases e : q = j
                · subst e; exact HOK.out
                · exact hno.out q (by omega)⟩
              case measure => simp [intOf]; omega
            · obtain ⟨l1, l2⟩ := hlen' rfl
              have hp1 := hpos rfl
              obtain ⟨r1, q0, q1⟩ := hR.out.at_ (i := i + d) (k := k + u) (by omega) (by omega)
              obtain ⟨r2, q2, q3⟩ := hR.out.at_ hi hk
              have bd1 := HBD.out (i + d) (k + u)
              obtain ⟨y, hy⟩ : ∃ y, cC W T (i + d) (k + u) = y := ⟨_, rfl⟩
              obtain ⟨z, hz⟩ : ∃ z, cC W T i k = z := ⟨_, rfl⟩
              rw [hy] at q1 bd1
              rw [hz] at q3 bd0
              rw [hy, hz, Bool.true_and] at hokd
              obtain ⟨y0, y1⟩ := bd1
              clear hlen' hpos hy hz
              by_cases hyz : y + (e : Int) = z
              · have hyz' : (y + (e : Int) == z) = true := beq_iff_eq.2 hyz
                have HN := Lib.hid (HAT.out (hokd.trans (decide_eq_true hyz)))
                have hln := hinv.out.len
                have hln2 : l.length + 1 ≤ 1099511627776 := by have h1 := HNM.out.1; have h2 := HNM.out.2; omega
                have HLN := Lib.hid hln2
                have hinv2 := Lib.hid (hinv.out.step (by have h1 := HNM.out.1; have h2 := HNM.out.2; have := HNE.out; omega) HN.out)
                clear hyz hokd hln hln2
                go_wp2_with fail
                go_quiet ((go_at_call 58; exact d0 (c_stepAt (W.drop i) (T.drop k) (step5 j) true d u e HO.out HD.out HK.out HE.out _ hWl hTl)))
                have hrow2 := Lib.hid (hrow.out.later (below_drewN (Below.refl _ _) nq))
                go_wp2_with fail
                go_quiet (fail)
                have hrow3 := Lib.hid (hrow2.out.later (below_drewN (Below.refl _ _) nq))
                go_wp2_with (at_builtin; refine app1 rfl (.tmp 73) (.tmp 75) _ rfl w1.heap.size 5 _ 1 Try.underlying51 info_uint8 rfl _ _ rfl _ _ _ rfl hrow3.out rfl HLN.out (by omega) (by first | exact hzr2 | (simp; omega)) ?_; intro v' w2 hown2 hb2 hg2)
                go_roundw
                case rel => exact ⟨i + d, k + u, l ++ [step5 j], by omega, by omega, by go_num, by go_num, (below_drewN hB _).trans hb2, BRow.snoc hown2, by have h9 := hinv2.out; rw [HD.out, HK.out] at h9; exact h9⟩
                case measure => simp [intOf]; omega
              · have hyz' : (y + (e : Int) == z) = false := beq_eq_false_iff_ne.2 hyz
                have HOK := Lib.hid (hokd.trans (decide_eq_false hyz))
                clear hyz hokd
                go_wp2_with fail
                go_quiet ((go_at_call 58; exact d0 (c_stepAt (W.drop i) (T.drop k) (step5 j) true d u e HO.out HD.out HK.out HE.out _ hWl hTl)))
                go_wp2_with fail
                go_quiet (fail)
                go_wp2_with fail
                go_roundw
                case rel => exact ⟨j + 1, by omega, rfl, rfl, by go_num, by (repeat' (first | (with_reducible exact Below.refl _ _) | (with_reducible assumption) | (with_reducible refine below_drewN ?_ _) | (with_reducible refine Below.drew ?_) | (with_reducible refine Below.alloc ?_ ?_ _) | (with_reducible refine Below.setCell ?_ ?_ _) | go_size)), by simp; omega, HBL.out, hrow.out.later (below_drewN (Below.refl _ _) _), fun q hq => by
                  by_cases e : q = j
                  · subst e; exact HOK.out
                  · exact hno.out q (by omega)⟩
                case measure => simp [intOf]; omega
          · exfalso
            have := nxt_none (w := W.drop i) (t := T.drop k) (fun q hq => hno.out q (by omega))
            rw [HC0.out] at this
            cases this
    · have h1 : ¬ (i : Int) < n := by omega
      have h2 : ¬ (k : Int) < m := by omega
      have hl := hinv.out.done (by have := HNM.out.1; omega) (by have := HNM.out.2; omega)
      subst hl
      have hconv := hrow.out.text
      clear hrow hinv kc
      have hBf := hb1.trans (hB.mono hb1.size)
      go_wp2_with fail
      go_ret
      exact ⟨rfl, hBf⟩
end Go.Proofs.Ythgoofjojanakaa
