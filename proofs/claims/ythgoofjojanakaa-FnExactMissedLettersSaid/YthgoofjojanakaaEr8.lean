/- Contracts: the matrix of the least errors (the reference). -/
import Derived.Test.YthgoofjojanakaaEr7
namespace Go.Proofs.Ythgoofjojanakaa
open Go.RowKit Go.BigFrame
attribute [local go_sem] sub_cell sub_frozen drewN_setCell
attribute [local go_sem] sb_size sb_extract u8_eq u8_ne
theorem info_ints : (Try.prog.info? 22).map (fun i => (i.zero, i.size, i.bytes)) = some (some (.slice none 0 0), 1, 24) := by kernel_rfl

set_option maxRecDepth 20000 in
set_option maxHeartbeats 8000000 in
theorem c_l19Costs (W T : List UInt8) (w : World) (hW : W.length ≤ 60) (hT : T.length ≤ 60) :
    Calls Try.prog 42 #[.string (sb W), .string (sb T)] w fun e w' => e = .returned (.slice (some ⟨w.heap.size, 0, none⟩) (W.length + 1) (W.length + 1)) ∧ Mtx 22 2 w' w.heap.size W.length T.length (cC W T) 0 ∧ Below w.heap.size w w' := by
  obtain ⟨n, hn⟩ : ∃ n, W.length = n := ⟨_, rfl⟩
  obtain ⟨m, hm⟩ : ∃ m, T.length = m := ⟨_, rfl⟩
  have HBD : Hid (∀ i k, 0 ≤ cC W T i k ∧ cC W T i k ≤ 120) := fun i k => cC_bd W T i k hW hT
  have hmk1 : ∀ V : World, (Instr.makeSlice 54 (.int .i64 ((n : Int) + 1)) (.int .i64 ((n : Int) + 1))).run Try.prog V = .ok (.slice (some ⟨V.heap.size, 0, none⟩) (n + 1) (n + 1)) (V.alloc (.cells (madeCells (Value.cells (.slice none 0 0)) (n + 1)) 22)) := fun V => by
    have h := run_make_any (P := Try.prog) 54 22 _ 1 24 Try.underlying54 info_ints .i64 .i64 (n + 1) (by omega) (by omega) V
    rw [Nat.mul_one] at h
    exact h
  have hmk2 : ∀ V : World, (Instr.makeSlice 22 (.int .i64 ((m : Int) + 1)) (.int .i64 ((m : Int) + 1))).run Try.prog V = .ok (.slice (some ⟨V.heap.size, 0, none⟩) (m + 1) (m + 1)) (V.alloc (.cells (madeCells (Value.cells (.int .i64 0)) (m + 1)) 2)) := fun V => by
    have h := run_make_any (P := Try.prog) 22 2 _ 1 8 Try.underlying22 info_int64 .i64 .i64 (m + 1) (by omega) (by omega) V
    rw [Nat.mul_one] at h
    exact h
  rw [hn] at hW
  rw [hm] at hT
  rw [hn, hm]
  go_enter Try.func42, Try.ntmps42
  go_wp2_with fail
  go_loopw [8] (fun x wr => ∃ p : Nat, p ≤ n + 1 ∧ ((x = .int .i64 (-1) ∧ p = 0) ∨ ∃ i : Nat, x = .int .i64 i ∧ p = i + 1) ∧ Mtx 22 2 wr w.heap.size n m (cC W T) p ∧ Below w.heap.size w wr) (fun x _ => (intOf x + 1).toNat)
  case atStart => exact ⟨n + 1, by omega, .inr ⟨n, rfl, rfl⟩, ⟨fun _ => 0, (rowIs_made (Value.cells (.slice none 0 0)) (n + 1) _).congr fun j hj => by rw [if_neg (by omega)]; simp [Value.cells, Nat.mod_one], fun j h1 h2 => by omega⟩, by (repeat' (first | (with_reducible exact Below.refl _ _) | (with_reducible assumption) | (with_reducible refine below_drewN ?_ _) | (with_reducible refine Below.drew ?_) | (with_reducible refine Below.alloc ?_ ?_ _) | (with_reducible refine Below.setCell ?_ ?_ _) | go_size))⟩
  case round =>
    obtain ⟨p, hp, hor, hM, hB⟩ := hrel
    rcases hor with ⟨rfl, rfl⟩ | ⟨i, rfl, rfl⟩
    · go_wp2_with fail
      go_returns
      exact ⟨rfl, hM, hB⟩
    · have hG := hM.lt
      have hin : i ≤ n := by omega
      go_wp2_with fail
      go_loopw [10] (fun y wr2 => ∃ q : Nat, q ≤ m + 1 ∧ ((y = .int .i64 (-1) ∧ q = 0) ∨ ∃ k : Nat, y = .int .i64 k ∧ q = k + 1) ∧ wr2.rowIs wr.heap.size 2 (m + 1) (fun k => if q ≤ k then .int .i64 (cC W T i k) else .int .i64 0) ∧ Below wr.heap.size wr wr2) (fun y _ => (intOf y + 1).toNat)
      case atStart => exact ⟨m + 1, by omega, .inr ⟨m, rfl, rfl⟩, (rowIs_made (Value.cells (.int .i64 0)) (m + 1) _).congr fun j hj => by rw [if_neg (by omega)]; simp [Value.cells, Nat.mod_one], by (repeat' (first | (with_reducible exact Below.refl _ _) | (with_reducible assumption) | (with_reducible refine below_drewN ?_ _) | (with_reducible refine Below.drew ?_) | (with_reducible refine Below.alloc ?_ ?_ _) | (with_reducible refine Below.setCell ?_ ?_ _) | go_size))⟩
      case round =>
        clear hmk1 hmk2
        obtain ⟨q, hq, hor2, hrow, hBi⟩ := hrel
        have hMw := hM.later hBi
        have hRl := hrow.lt
        rcases hor2 with ⟨rfl, rfl⟩ | ⟨k, rfl, rfl⟩
        · obtain ⟨v0, hv0⟩ := hMw.old hin
          have f0 := hMw.frozen i
          have HM := Lib.hid hM
          have HR := Lib.hid hrow
          have HB2 := Lib.hid hBi
          have HB := Lib.hid hB
          clear hM hMw hrow hBi hB
          go_wp2_with fail
          go_roundw
          case rel => exact ⟨i, by omega, by rcases i with _ | i; exact .inl ⟨by go_num, rfl⟩; exact .inr ⟨i, by go_num, rfl⟩, HM.out.add HB2.out (row_done HR.out) hG, Below.setCell (HB.out.trans (HB2.out.mono HB.out.size)) (Nat.le_refl _) _⟩
          case measure => simp [intOf] <;> omega
        · have hkm : k ≤ m := by omega
          have hWl : (W.drop i).length ≤ 4611686018427387904 := by simp only [List.length_drop]; omega
          have hTl : (T.drop k).length ≤ 4611686018427387904 := by simp only [List.length_drop]; omega
          have x1 : (sb W).extract i n = sb (W.drop i) := hn ▸ sb_extract W i
          have x2 : (sb T).extract k m = sb (T.drop k) := hm ▸ sb_extract T k
          have r0 := hrow.cell (i := k) (by omega)
          rw [if_neg (by omega)] at r0
          have rf := hrow.frozen k
          by_cases hiN : i < n
          · obtain ⟨a, ea, ga⟩ := drop_at (l := W) (i := i) (by omega)
            obtain ⟨r1, c1, d1⟩ := hMw.row (j := i + 1) (by omega) (by omega)
            have d10 := d1 k (by omega)
            have u10 := HBD.out (i + 1) k
            by_cases hkM : k < m
            · obtain ⟨b, eb, gb⟩ := drop_at (l := T) (i := k) (by omega)
              have d11 := d1 (k + 1) (by omega)
              have u11 := HBD.out (i + 1) (k + 1)
              have u01 := HBD.out i (k + 1)
              have r1c := hrow.cell (i := k + 1) (by omega)
              rw [if_pos (by omega)] at r1c
              have hN : ((W.drop i).length : Int) + (T.drop k).length ≤ (n : Int) + m := by simp only [List.length_drop]; omega
              clear d1
              rw [ea, eb] at hN
              cases ho : stO (W.drop i) (T.drop k) 126
              · have ho' := ho
                rw [ea, eb] at ho'
                cases he : (a == b)
                · have HV := Lib.hid (show mn (mn (mn ((n : Int) + m) (cC W T (i + 1) (k + 1) + 1)) (cC W T (i + 1) k + 1)) (cC W T i (k + 1) + 1) = cC W T i k from by simp only [cC]; rw [ea, eb]; exact cst_ne hN he ho')
                  have HM := Lib.hid hMw
                  have HR := Lib.hid hrow
                  have HB2 := Lib.hid hBi
                  have HSW := Lib.hid ho
                  clear hM hMw hrow hBi hB ho ea eb hN ho'
                  go_wp2_with (go_at_call 55; refine (c_l00Min _ _ _).mono ?_; rintro r_ w' ⟨rfl, rfl⟩)
                  go_quiet (fail)
                  go_wp2_with (go_at_call 55; refine (c_l00Min _ _ _).mono ?_; rintro r_ w' ⟨rfl, rfl⟩)
                  go_quiet (fail)
                  go_wp2_with (go_at_call 55; refine (c_l00Min _ _ _).mono ?_; rintro r_ w' ⟨rfl, rfl⟩)
                  go_quiet ((go_at_call 56; first | exact d0 (c_l19Swap (W.drop i) (T.drop k) _ HSW.out _ hWl hTl) | exact d1 (c_l19Swap (W.drop i) (T.drop k) _ HSW.out _ hWl hTl)))
                  go_wp2_with (go_at_call 55; refine (c_l00Min _ _ _).mono ?_; rintro r_ w' ⟨rfl, rfl⟩)
                  go_roundw
                  case rel => exact ⟨k, by omega, by rcases k with _ | k; exact .inl ⟨by go_num, rfl⟩; exact .inr ⟨k, by go_num, rfl⟩, by have h9 := row_add HR.out; rw [← HV.out] at h9; exact h9, by have hB_ := HB2.out; (repeat' (first | (with_reducible exact Below.refl _ _) | (with_reducible assumption) | (with_reducible refine below_drewN ?_ _) | (with_reducible refine Below.drew ?_) | (with_reducible refine Below.alloc ?_ ?_ _) | (with_reducible refine Below.setCell ?_ ?_ _) | go_size))⟩
                  case measure => simp [intOf] <;> omega
                · have HV := Lib.hid (show mn (mn (mn ((n : Int) + m) (cC W T (i + 1) (k + 1))) (cC W T (i + 1) k + 1)) (cC W T i (k + 1) + 1) = cC W T i k from by simp only [cC]; rw [ea, eb]; exact cst_eq hN he ho')
                  have HM := Lib.hid hMw
                  have HR := Lib.hid hrow
                  have HB2 := Lib.hid hBi
                  have HSW := Lib.hid ho
                  clear hM hMw hrow hBi hB ho ea eb hN ho'
                  go_wp2_with (go_at_call 55; refine (c_l00Min _ _ _).mono ?_; rintro r_ w' ⟨rfl, rfl⟩)
                  go_quiet (fail)
                  go_wp2_with (go_at_call 55; refine (c_l00Min _ _ _).mono ?_; rintro r_ w' ⟨rfl, rfl⟩)
                  go_quiet (fail)
                  go_wp2_with (go_at_call 55; refine (c_l00Min _ _ _).mono ?_; rintro r_ w' ⟨rfl, rfl⟩)
                  go_quiet ((go_at_call 56; first | exact d0 (c_l19Swap (W.drop i) (T.drop k) _ HSW.out _ hWl hTl) | exact d1 (c_l19Swap (W.drop i) (T.drop k) _ HSW.out _ hWl hTl)))
                  go_wp2_with (go_at_call 55; refine (c_l00Min _ _ _).mono ?_; rintro r_ w' ⟨rfl, rfl⟩)
                  go_roundw
                  case rel => exact ⟨k, by omega, by rcases k with _ | k; exact .inl ⟨by go_num, rfl⟩; exact .inr ⟨k, by go_num, rfl⟩, by have h9 := row_add HR.out; rw [← HV.out] at h9; exact h9, by have hB_ := HB2.out; (repeat' (first | (with_reducible exact Below.refl _ _) | (with_reducible assumption) | (with_reducible refine below_drewN ?_ _) | (with_reducible refine Below.drew ?_) | (with_reducible refine Below.alloc ?_ ?_ _) | (with_reducible refine Below.setCell ?_ ?_ _) | go_size))⟩
                  case measure => simp [intOf] <;> omega
              · have ho' := ho
                rw [ea, eb] at ho'
                obtain ⟨v1, he, l1, l2⟩ := cst_sw hN ho'
                simp only [List.length_drop] at l1 l2
                obtain ⟨r2, c2, d2⟩ := hMw.row (j := i + 2) (by omega) (by omega)
                have d22 := d2 (k + 2) (by omega)
                have u22 := HBD.out (i + 2) (k + 2)
                clear d2
                have b1 : (i : Int) + 2 < (n : Int) + 1 := by omega
                have b2 : (k : Int) + 2 < (m : Int) + 1 := by omega
                have HV := Lib.hid (show mn (mn (mn (mn ((n : Int) + m) (cC W T (i + 1) (k + 1) + 1)) (cC W T (i + 1) k + 1)) (cC W T i (k + 1) + 1)) (cC W T (i + 2) (k + 2) + 1) = cC W T i k from by simp only [cC]; rw [ea, eb]; rw [List.drop_drop, List.drop_drop] at v1; exact v1)
                have HM := Lib.hid hMw
                have HR := Lib.hid hrow
                have HB2 := Lib.hid hBi
                have HSW := Lib.hid ho
                clear hM hMw hrow hBi hB ho ea eb hN ho' v1 l1 l2
                go_wp2_with (go_at_call 55; refine (c_l00Min _ _ _).mono ?_; rintro r_ w' ⟨rfl, rfl⟩)
                go_quiet (fail)
                go_wp2_with (go_at_call 55; refine (c_l00Min _ _ _).mono ?_; rintro r_ w' ⟨rfl, rfl⟩)
                go_quiet (fail)
                go_wp2_with (go_at_call 55; refine (c_l00Min _ _ _).mono ?_; rintro r_ w' ⟨rfl, rfl⟩)
                go_quiet ((go_at_call 56; first | exact d0 (c_l19Swap (W.drop i) (T.drop k) _ HSW.out _ hWl hTl) | exact d1 (c_l19Swap (W.drop i) (T.drop k) _ HSW.out _ hWl hTl)))
                go_wp2_with (go_at_call 55; refine (c_l00Min _ _ _).mono ?_; rintro r_ w' ⟨rfl, rfl⟩)
                go_roundw
                case rel => exact ⟨k, by omega, by rcases k with _ | k; exact .inl ⟨by go_num, rfl⟩; exact .inr ⟨k, by go_num, rfl⟩, by have h9 := row_add HR.out; rw [← HV.out] at h9; exact h9, by have hB_ := HB2.out; (repeat' (first | (with_reducible exact Below.refl _ _) | (with_reducible assumption) | (with_reducible refine below_drewN ?_ _) | (with_reducible refine Below.drew ?_) | (with_reducible refine Below.alloc ?_ ?_ _) | (with_reducible refine Below.setCell ?_ ?_ _) | go_size))⟩
                case measure => simp [intOf] <;> omega
            · have hkm2 : m ≤ k := by omega
              have et : T.drop k = [] := List.drop_of_length_le (by omega)
              have ho : stO (W.drop i) (T.drop k) 126 = false := by rw [et, ea]; simp [stO]
              have hN : ((W.drop i).length : Int) ≤ (n : Int) + m := by simp only [List.length_drop]; omega
              rw [ea] at hN
              clear d1
              have HV := Lib.hid (show mn ((n : Int) + m) (cC W T (i + 1) k + 1) = cC W T i k from by simp only [cC]; rw [ea, et]; exact cst_w hN)
              have HM := Lib.hid hMw
              have HR := Lib.hid hrow
              have HB2 := Lib.hid hBi
              have HSW := Lib.hid ho
              clear hM hMw hrow hBi hB ho ea et hN
              go_wp2_with (go_at_call 55; refine (c_l00Min _ _ _).mono ?_; rintro r_ w' ⟨rfl, rfl⟩)
              go_quiet (fail)
              go_wp2_with (go_at_call 55; refine (c_l00Min _ _ _).mono ?_; rintro r_ w' ⟨rfl, rfl⟩)
              go_quiet (fail)
              go_wp2_with (go_at_call 55; refine (c_l00Min _ _ _).mono ?_; rintro r_ w' ⟨rfl, rfl⟩)
              go_quiet ((go_at_call 56; first | exact d0 (c_l19Swap (W.drop i) (T.drop k) _ HSW.out _ hWl hTl) | exact d1 (c_l19Swap (W.drop i) (T.drop k) _ HSW.out _ hWl hTl)))
              go_wp2_with (go_at_call 55; refine (c_l00Min _ _ _).mono ?_; rintro r_ w' ⟨rfl, rfl⟩)
              go_roundw
              case rel => exact ⟨k, by omega, by rcases k with _ | k; exact .inl ⟨by go_num, rfl⟩; exact .inr ⟨k, by go_num, rfl⟩, by have h9 := row_add HR.out; rw [← HV.out] at h9; exact h9, by have hB_ := HB2.out; (repeat' (first | (with_reducible exact Below.refl _ _) | (with_reducible assumption) | (with_reducible refine below_drewN ?_ _) | (with_reducible refine Below.drew ?_) | (with_reducible refine Below.alloc ?_ ?_ _) | (with_reducible refine Below.setCell ?_ ?_ _) | go_size))⟩
              case measure => simp [intOf] <;> omega
          · have hin2 : n ≤ i := by omega
            have ew : W.drop i = [] := List.drop_of_length_le (by omega)
            have ho : stO (W.drop i) (T.drop k) 126 = false := by rw [ew]; simp [stO]
            by_cases hkM : k < m
            · obtain ⟨b, eb, gb⟩ := drop_at (l := T) (i := k) (by omega)
              have u01 := HBD.out i (k + 1)
              have r1c := hrow.cell (i := k + 1) (by omega)
              rw [if_pos (by omega)] at r1c
              have hN : ((T.drop k).length : Int) ≤ (n : Int) + m := by simp only [List.length_drop]; omega
              rw [eb] at hN
              have HV := Lib.hid (show mn ((n : Int) + m) (cC W T i (k + 1) + 1) = cC W T i k from by simp only [cC]; rw [ew, eb]; exact cst_t hN)
              have HM := Lib.hid hMw
              have HR := Lib.hid hrow
              have HB2 := Lib.hid hBi
              have HSW := Lib.hid ho
              clear hM hMw hrow hBi hB ho ew eb hN
              go_wp2_with (go_at_call 55; refine (c_l00Min _ _ _).mono ?_; rintro r_ w' ⟨rfl, rfl⟩)
              go_quiet (fail)
              go_wp2_with (go_at_call 55; refine (c_l00Min _ _ _).mono ?_; rintro r_ w' ⟨rfl, rfl⟩)
              go_quiet (fail)
              go_wp2_with (go_at_call 55; refine (c_l00Min _ _ _).mono ?_; rintro r_ w' ⟨rfl, rfl⟩)
              go_quiet ((go_at_call 56; first | exact d0 (c_l19Swap (W.drop i) (T.drop k) _ HSW.out _ hWl hTl) | exact d1 (c_l19Swap (W.drop i) (T.drop k) _ HSW.out _ hWl hTl)))
              go_wp2_with (go_at_call 55; refine (c_l00Min _ _ _).mono ?_; rintro r_ w' ⟨rfl, rfl⟩)
              go_roundw
              case rel => exact ⟨k, by omega, by rcases k with _ | k; exact .inl ⟨by go_num, rfl⟩; exact .inr ⟨k, by go_num, rfl⟩, by have h9 := row_add HR.out; rw [← HV.out] at h9; exact h9, by have hB_ := HB2.out; (repeat' (first | (with_reducible exact Below.refl _ _) | (with_reducible assumption) | (with_reducible refine below_drewN ?_ _) | (with_reducible refine Below.drew ?_) | (with_reducible refine Below.alloc ?_ ?_ _) | (with_reducible refine Below.setCell ?_ ?_ _) | go_size))⟩
              case measure => simp [intOf] <;> omega
            · have hkm2 : m ≤ k := by omega
              have et : T.drop k = [] := List.drop_of_length_le (by omega)
              have HV := Lib.hid (show (0 : Int) = cC W T i k from by simp only [cC]; rw [ew, et]; exact cst_nil.symm)
              have HM := Lib.hid hMw
              have HR := Lib.hid hrow
              have HB2 := Lib.hid hBi
              have HSW := Lib.hid ho
              clear hM hMw hrow hBi hB ho ew et
              go_wp2_with (go_at_call 55; refine (c_l00Min _ _ _).mono ?_; rintro r_ w' ⟨rfl, rfl⟩)
              go_quiet (fail)
              go_wp2_with (go_at_call 55; refine (c_l00Min _ _ _).mono ?_; rintro r_ w' ⟨rfl, rfl⟩)
              go_quiet (fail)
              go_wp2_with (go_at_call 55; refine (c_l00Min _ _ _).mono ?_; rintro r_ w' ⟨rfl, rfl⟩)
              go_quiet ((go_at_call 56; first | exact d0 (c_l19Swap (W.drop i) (T.drop k) _ HSW.out _ hWl hTl) | exact d1 (c_l19Swap (W.drop i) (T.drop k) _ HSW.out _ hWl hTl)))
              go_wp2_with (go_at_call 55; refine (c_l00Min _ _ _).mono ?_; rintro r_ w' ⟨rfl, rfl⟩)
              go_roundw
              case rel => exact ⟨k, by omega, by rcases k with _ | k; exact .inl ⟨by go_num, rfl⟩; exact .inr ⟨k, by go_num, rfl⟩, by have h9 := row_add HR.out; rw [← HV.out] at h9; exact h9, by have hB_ := HB2.out; (repeat' (first | (with_reducible exact Below.refl _ _) | (with_reducible assumption) | (with_reducible refine below_drewN ?_ _) | (with_reducible refine Below.drew ?_) | (with_reducible refine Below.alloc ?_ ?_ _) | (with_reducible refine Below.setCell ?_ ?_ _) | go_size))⟩
              case measure => simp [intOf] <;> omega
end Go.Proofs.Ythgoofjojanakaa
