/- Contracts: the least numbers of errors from all places of two texts on (the program): the walk. -/
import Derived.Test.YthgoofjojanakaaEr9
namespace Go.Proofs.Ythgoofjojanakaa
open Go.RowKit Go.BigFrame
attribute [local go_sem] sub_cell sub_frozen drewN_setCell
attribute [local go_sem] sb_size List.length_cons List.length_nil

theorem info_int' : (Try.prog.info? 3).map (fun i => (i.zero, i.size, i.bytes)) = some (some (.int .i64 0), 1, 8) := by kernel_rfl
theorem info_intS : (Try.prog.info? 56).map (fun i => (i.zero, i.size, i.bytes)) = some (some (.slice none 0 0), 1, 24) := by kernel_rfl
set_option maxRecDepth 20000 in
set_option maxHeartbeats 8000000 in
theorem c_leastFrom (W T : List UInt8) (w : World) (hW : W.length ≤ 60) (hT : T.length ≤ 60) :
    Calls Try.prog 44 #[.string (sb W), .string (sb T)] w fun e w' => e = .returned (.slice (some ⟨w.heap.size, 0, none⟩) (W.length + 1) (W.length + 1)) ∧ MatR w' w.heap.size W.length T.length (cC W T) ∧ Below w.heap.size w w' := by
  obtain ⟨n, hn⟩ : ∃ n, W.length = n := ⟨_, rfl⟩
  obtain ⟨m, hm⟩ : ∃ m, T.length = m := ⟨_, rfl⟩
  have HBD : Hid (∀ i k, 0 ≤ cC W T i k ∧ cC W T i k ≤ 120) := fun i k => cC_bd W T i k hW hT
  have hmk1 : ∀ V : World, (Instr.makeSlice 57 (.int .i64 ((n : Int) + 1)) (.int .i64 ((n : Int) + 1))).run Try.prog V = .ok (.slice (some ⟨V.heap.size, 0, none⟩) (n + 1) (n + 1)) (V.alloc (.cells (madeCells (Value.cells (.slice none 0 0)) (n + 1)) 56)) := fun V => by
    have h := run_make_any (P := Try.prog) 57 56 _ 1 24 Try.underlying57 info_intS .i64 .i64 (n + 1) (by omega) (by omega) V
    rw [Nat.mul_one] at h
    exact h
  have hmk2 : ∀ V : World, (Instr.makeSlice 56 (.int .i64 ((m : Int) + 1)) (.int .i64 ((m : Int) + 1))).run Try.prog V = .ok (.slice (some ⟨V.heap.size, 0, none⟩) (m + 1) (m + 1)) (V.alloc (.cells (madeCells (Value.cells (.int .i64 0)) (m + 1)) 3)) := fun V => by
    have h := run_make_any (P := Try.prog) 56 3 _ 1 8 Try.underlying56 info_int' .i64 .i64 (m + 1) (by omega) (by omega) V
    rw [Nat.mul_one] at h
    exact h
  have kc := fun V : World => Lib.run_convert_bytes_const (P := Try.prog) V 51 5 #[.int .u8 43, .int .u8 45, .int .u8 61, .int .u8 120, .int .u8 126] 5 5 Try.underlying51 Try.underlying5
  rw [hn] at hW
  rw [hm] at hT
  rw [hn, hm]
  go_enter Try.func44, Try.ntmps44
  go_wp2_with fail
  go_loopw [22] (fun i wa => ∃ p : Nat, p ≤ n + 1 ∧ i = .int .i64 p ∧ MatP 56 3 wa w.heap.size n m p ∧ Below w.heap.size w wa) (fun i _ => n + 1 - (intOf i).toNat)
  case atStart => exact ⟨0, by omega, rfl, MatP.start, by (repeat' (first | (with_reducible exact Below.refl _ _) | (with_reducible assumption) | (with_reducible refine below_drewN ?_ _) | (with_reducible refine Below.drew ?_) | (with_reducible refine Below.alloc ?_ ?_ _) | (with_reducible refine Below.setCell ?_ ?_ _) | go_size))⟩
  case round =>
    obtain ⟨p, hp, rfl, hM, hB⟩ := hrel
    have hG := hM.lt
    by_cases hlt : p < n + 1
    · obtain ⟨v0, hv0⟩ := hM.old (j := p) (by omega)
      have f0 := hM.frozen p
      have hle : p ≤ n := by omega
      have HM := Lib.hid hM
      clear hM kc
      go_wp2_with fail
      go_roundw
      case rel => exact ⟨p + 1, by omega, by go_num, HM.out.add hle, by (repeat' (first | (with_reducible exact Below.refl _ _) | (with_reducible assumption) | (with_reducible refine below_drewN ?_ _) | (with_reducible refine Below.drew ?_) | (with_reducible refine Below.alloc ?_ ?_ _) | (with_reducible refine Below.setCell ?_ ?_ _) | go_size))⟩
      case measure => simp [intOf]; omega
    · obtain rfl : p = n + 1 := by omega
      have HM := Lib.hid hM.done
      clear hM hmk1 hmk2
      go_wp2_with fail
      go_loopw [7] (fun x wr => ∃ p : Nat, ∃ F : Nat → Nat → Int, p ≤ n + 1 ∧ ((x = .int .i64 (-1) ∧ p = 0) ∨ ∃ i : Nat, x = .int .i64 i ∧ p = i + 1) ∧ Mat 56 3 wr w.heap.size n m F ∧ Below w.heap.size w wr ∧ Hid (MDone (cC W T) F n m p 0)) (fun x _ => (intOf x + 1).toNat)
      case atStart => exact ⟨n + 1, _, by omega, .inr ⟨n, rfl, rfl⟩, HM.out, hB, fun j k hj hk hor => by omega⟩
      case round =>
        clear HM hB hlt hp hG
        obtain ⟨p, F, hp, hor, hM, hB, hD⟩ := hrel
        rcases hor with ⟨rfl, rfl⟩ | ⟨i, rfl, rfl⟩
        · clear kc
          go_wp2_with fail
          go_returns
          exact ⟨rfl, hM.toR (fun j k hj hk => hD.out j k hj hk (by omega)), hB⟩
        · have HM := Lib.hid hM
          have hin : i ≤ n := by omega
          clear hM
          go_wp2_with fail
          go_loopw [8] (fun y wr2 => ∃ q : Nat, ∃ F : Nat → Nat → Int, q ≤ m + 1 ∧ ((y = .int .i64 (-1) ∧ q = 0) ∨ ∃ k : Nat, y = .int .i64 k ∧ q = k + 1) ∧ Mat 56 3 wr2 w.heap.size n m F ∧ Below w.heap.size w wr2 ∧ Hid (MDone (cC W T) F n m i q)) (fun y _ => (intOf y + 1).toNat)
          case atStart => exact ⟨m + 1, F, by omega, .inr ⟨m, rfl, rfl⟩, HM.out, hB, hD.out.up⟩
          case round =>
            rename World => wr2
            clear HM hB hD F
            obtain ⟨q, F, hq, hor2, hM, hB, hD⟩ := hrel
            rcases hor2 with ⟨rfl, rfl⟩ | ⟨k, rfl, rfl⟩
            · clear kc
              go_wp2_with fail
              go_roundw
              case rel => exact ⟨i, F, by omega, by rcases i with _ | i; exact .inl ⟨by go_num, rfl⟩; exact .inr ⟨i, by go_num, rfl⟩, hM, hB, hD.out⟩
              case measure => simp [intOf] <;> omega
            · have HM := Lib.hid hM
              have hz2 := hB.size
              have hkm : k ≤ m := by omega
              have kc' := kc wr2
              clear hM kc
              go_wp2_with fail
              go_loopw [9, 48] (fun x y wr3 => ∃ j : Nat, ∃ v : Int, j ≤ 5 ∧ x = .int .i64 v ∧ y = .int .i64 j ∧ -1 ≤ v ∧ Hid (lsJ (W.drop i) (T.drop k) j = v) ∧ Mat 56 3 wr3 w.heap.size n m F ∧ wr3.heap[wr2.heap.size]? = some (.cells bytes5 5 (5, 6)) ∧ Below w.heap.size w wr3) (fun _ y _ => 5 - (intOf y).toNat)
              case atStart => exact ⟨0, -1, by omega, rfl, rfl, by omega, lsJ_zero _ _, HM.out.later (Below.alloc (Below.refl _ _) (Nat.le_refl _) _), Array.getElem?_push_size (xs := wr2.heap) (x := .cells bytes5 5 (5, 6)), by (repeat' (first | (with_reducible exact Below.refl _ _) | (with_reducible assumption) | (with_reducible refine below_drewN ?_ _) | (with_reducible refine Below.drew ?_) | (with_reducible refine Below.alloc ?_ ?_ _) | (with_reducible refine Below.setCell ?_ ?_ _) | go_size))⟩
              case round =>
                rename World => wr3
                clear kc' HM hB
                obtain ⟨j, v, hj, rfl, rfl, hv1, hv, hM, hbl, hB⟩ := hrel
                by_cases hlt : j < 5
                · have r0 : wr3.cell? ⟨wr2.heap.size, j, none⟩ = some (.int .u8 ((step5 j).toNat : Int)) := by simp only [World.cell?, hbl]; exact bytes5_at j hlt
                  have hWl : (W.drop i).length ≤ 4611686018427387904 := by simp only [List.length_drop]; omega
                  have hTl : (T.drop k).length ≤ 4611686018427387904 := by simp only [List.length_drop]; omega
                  have x1 : (sb W).extract i n = sb (W.drop i) := hn ▸ sb_extract W i
                  have x2 : (sb T).extract k m = sb (T.drop k) := hm ▸ sb_extract T k
                  have hlen := @stO_len (W.drop i) (T.drop k) (step5 j)
                  have hpos := @stDK_pos (W.drop i) (T.drop k) (step5 j)
                  have hDl := stD_le (step5 j)
                  have hKl := stK_le (step5 j)
                  have hEl := stE_le (step5 j)
                  obtain ⟨o, HO⟩ : ∃ o, Hid (stO (W.drop i) (T.drop k) (step5 j) = o) := ⟨_, Lib.hid rfl⟩
                  obtain ⟨d, hd⟩ : ∃ d, stD (step5 j) = d := ⟨_, rfl⟩
                  obtain ⟨u, hu⟩ : ∃ u, stK (step5 j) = u := ⟨_, rfl⟩
                  obtain ⟨e, he⟩ : ∃ e, stE (step5 j) = e := ⟨_, rfl⟩
                  rw [hd, hu, HO.out] at hlen
                  rw [hd, hu, HO.out] at hpos
                  rw [hd] at hDl
                  rw [hu] at hKl
                  rw [he] at hEl
                  simp only [List.length_drop] at hlen
                  have HD := Lib.hid hd
                  have HK := Lib.hid hu
                  have HE := Lib.hid he
                  have HBL := Lib.hid hbl
                  clear hd hu he hbl
                  cases o
                  · have HM := Lib.hid hM
                    clear hM hlen hpos
                    go_wp2_with fail
                    go_quiet ((go_at_call 58; exact d0 (c_stepAt (W.drop i) (T.drop k) (step5 j) false d u e HO.out HD.out HK.out HE.out _ hWl hTl)))
                    go_wp2_with fail
                    go_roundw
                    case rel => exact ⟨j + 1, v, by omega, rfl, by go_num, hv1, (lsJ_no hlt HO.out).trans hv.out, HM.out.later (below_drewN (Below.refl _ _) _), HBL.out, by (repeat' (first | (with_reducible exact Below.refl _ _) | (with_reducible assumption) | (with_reducible refine below_drewN ?_ _) | (with_reducible refine Below.drew ?_) | (with_reducible refine Below.alloc ?_ ?_ _) | (with_reducible refine Below.setCell ?_ ?_ _) | go_size))⟩
                    case measure => simp [intOf]; omega
                  · obtain ⟨l1, l2⟩ := hlen rfl
                    have hp1 := hpos rfl
                    obtain ⟨r1, c1, g1, s1, c2, z1⟩ := hM.row (j := i + d) (by omega)
                    have c3 := c2 (k + u) (by omega)
                    rw [hD.out (i + d) (k + u) (by omega) (by omega) (by omega)] at c3
                    have bd := HBD.out (i + d) (k + u)
                    obtain ⟨y, hy⟩ : ∃ y, cC W T (i + d) (k + u) = y := ⟨_, rfl⟩
                    rw [hy] at c3 bd
                    have HY : Hid (cst ((W.drop i).drop d) ((T.drop k).drop u) = y) := by show cst ((W.drop i).drop d) ((T.drop k).drop u) = y; rw [List.drop_drop, List.drop_drop]; exact hy
                    have HM := Lib.hid hM
                    clear hM hlen hpos c2 z1 hy
                    have hSt := Lib.hid (lsJ_yes hlt HO.out HD.out HK.out HE.out hv.out HY.out)
                    by_cases hv0 : v < 0
                    · have hS2 := Lib.hid (hSt.out.trans (if_pos (.inl hv0)))
                      go_wp2_with fail
                      go_quiet ((go_at_call 58; exact d0 (c_stepAt (W.drop i) (T.drop k) (step5 j) true d u e HO.out HD.out HK.out HE.out _ hWl hTl)))
                      go_wp2_with fail
                      go_roundw
                      case rel => first | exact ⟨j + 1, y + e, by omega, rfl, by go_num, by omega, hS2.out, HM.out.later (below_drewN (Below.refl _ _) _), HBL.out, by (repeat' (first | (with_reducible exact Below.refl _ _) | (with_reducible assumption) | (with_reducible refine below_drewN ?_ _) | (with_reducible refine Below.drew ?_) | (with_reducible refine Below.alloc ?_ ?_ _) | (with_reducible refine Below.setCell ?_ ?_ _) | go_size))⟩ | ((repeat apply Exists.intro); exact ⟨⟨j + 1, y + e, by omega, rfl, by go_num, by omega, hS2.out, HM.out.later (below_drewN (Below.refl _ _) _), HBL.out, by (repeat' (first | (with_reducible exact Below.refl _ _) | (with_reducible assumption) | (with_reducible refine below_drewN ?_ _) | (with_reducible refine Below.drew ?_) | (with_reducible refine Below.alloc ?_ ?_ _) | (with_reducible refine Below.setCell ?_ ?_ _) | go_size))⟩, rfl⟩)
                      case measure => simp [intOf]; omega
                    · by_cases hv2 : y + e < v
                      · have hS2 := Lib.hid (hSt.out.trans (if_pos (.inr hv2)))
                        go_wp2_with fail
                        go_quiet ((go_at_call 58; exact d0 (c_stepAt (W.drop i) (T.drop k) (step5 j) true d u e HO.out HD.out HK.out HE.out _ hWl hTl)))
                        go_wp2_with fail
                        go_roundw
                        case rel => first | exact ⟨j + 1, y + e, by omega, rfl, by go_num, by omega, hS2.out, HM.out.later (below_drewN (Below.refl _ _) _), HBL.out, by (repeat' (first | (with_reducible exact Below.refl _ _) | (with_reducible assumption) | (with_reducible refine below_drewN ?_ _) | (with_reducible refine Below.drew ?_) | (with_reducible refine Below.alloc ?_ ?_ _) | (with_reducible refine Below.setCell ?_ ?_ _) | go_size))⟩ | ((repeat apply Exists.intro); exact ⟨⟨j + 1, y + e, by omega, rfl, by go_num, by omega, hS2.out, HM.out.later (below_drewN (Below.refl _ _) _), HBL.out, by (repeat' (first | (with_reducible exact Below.refl _ _) | (with_reducible assumption) | (with_reducible refine below_drewN ?_ _) | (with_reducible refine Below.drew ?_) | (with_reducible refine Below.alloc ?_ ?_ _) | (with_reducible refine Below.setCell ?_ ?_ _) | go_size))⟩, rfl⟩)
                        case measure => simp [intOf]; omega
                      · have hS2 := Lib.hid (hSt.out.trans (if_neg (by omega)))
                        go_wp2_with fail
                        go_quiet ((go_at_call 58; exact d0 (c_stepAt (W.drop i) (T.drop k) (step5 j) true d u e HO.out HD.out HK.out HE.out _ hWl hTl)))
                        go_wp2_with fail
                        go_roundw
                        case rel => first | exact ⟨j + 1, v, by omega, rfl, by go_num, hv1, hS2.out, HM.out.later (below_drewN (Below.refl _ _) _), HBL.out, by (repeat' (first | (with_reducible exact Below.refl _ _) | (with_reducible assumption) | (with_reducible refine below_drewN ?_ _) | (with_reducible refine Below.drew ?_) | (with_reducible refine Below.alloc ?_ ?_ _) | (with_reducible refine Below.setCell ?_ ?_ _) | go_size))⟩ | ((repeat apply Exists.intro); exact ⟨⟨j + 1, v, by omega, rfl, by go_num, hv1, hS2.out, HM.out.later (below_drewN (Below.refl _ _) _), HBL.out, by (repeat' (first | (with_reducible exact Below.refl _ _) | (with_reducible assumption) | (with_reducible refine below_drewN ?_ _) | (with_reducible refine Below.drew ?_) | (with_reducible refine Below.alloc ?_ ?_ _) | (with_reducible refine Below.setCell ?_ ?_ _) | go_size))⟩, rfl⟩)
                        case measure => simp [intOf]; omega
                · obtain rfl : j = 5 := by omega
                  have hend : cC W T i k = max v 0 := by unfold cC; rw [lsJ_end, hv.out]
                  obtain ⟨r1, c1, g1, s1, c2, z1⟩ := hM.row hin
                  have c3 := c2 k hkm
                  have z2 := z1 k
                  have HS := Lib.hid (fun x => hM.set (k := k) (v := x) c1 hin)
                  clear hM c2 z1 hbl
                  by_cases hv0 : v < 0
                  · have HV : Hid ((0 : Int) = cC W T i k) := by show (0 : Int) = cC W T i k; rw [hend]; omega
                    clear hend hv
                    go_wp2_with fail
                    go_roundw
                    case rel => exact ⟨k, _, by omega, by rcases k with _ | k; exact .inl ⟨by go_num, rfl⟩; exact .inr ⟨k, by go_num, rfl⟩, HS.out _, by (repeat' (first | (with_reducible exact Below.refl _ _) | (with_reducible assumption) | (with_reducible refine below_drewN ?_ _) | (with_reducible refine Below.drew ?_) | (with_reducible refine Below.alloc ?_ ?_ _) | (with_reducible refine Below.setCell ?_ ?_ _) | go_size)), hD.out.step HV.out⟩
                    case measure => simp [intOf] <;> omega
                  · have HV : Hid (v = cC W T i k) := by show v = cC W T i k; rw [hend]; omega
                    clear hend hv
                    go_wp2_with fail
                    go_roundw
                    case rel => exact ⟨k, _, by omega, by rcases k with _ | k; exact .inl ⟨by go_num, rfl⟩; exact .inr ⟨k, by go_num, rfl⟩, HS.out _, by (repeat' (first | (with_reducible exact Below.refl _ _) | (with_reducible assumption) | (with_reducible refine below_drewN ?_ _) | (with_reducible refine Below.drew ?_) | (with_reducible refine Below.alloc ?_ ?_ _) | (with_reducible refine Below.setCell ?_ ?_ _) | go_size)), hD.out.step HV.out⟩
                    case measure => simp [intOf] <;> omega
end Go.Proofs.Ythgoofjojanakaa
