/- Contract: spec.MedianTrial. -/
import Derived.Test.YtjigkogopmebeaaMd2
import Derived.Test.YtjigkogopmebeaaOw
namespace Go.Proofs.Ytjigkogopmebeaa
open Go.RowKit Go.BigFrame
attribute [local go_sem] sub_cell sub_frozen drewN_setCell

theorem posA_stop {lt : Nat → Nat → Bool} {i q : Nat} {o : List Nat} (h : q = 0 ∨ (0 < q ∧ lt i (o.getD (q - 1) 0) = false)) : posA lt i o q = q := by
  cases q with
  | zero => rfl
  | succ q =>
    rcases h with h | h
    · omega
    · simp only [Nat.add_sub_cancel] at h
      rw [posA, h.2]; rfl
theorem posA_go {lt : Nat → Nat → Bool} {i q : Nat} {o : List Nat} (h0 : 0 < q) (h : lt i (o.getD (q - 1) 0) = true) : posA lt i o q = posA lt i o (q - 1) := by
  cases q with
  | zero => omega
  | succ q =>
    simp only [Nat.add_sub_cancel] at h ⊢
    rw [posA, h]; rfl
theorem insR_at {lt : Nat → Nat → Bool} {i q k : Nat} {o : List Nat} (hk : o.length = k) (h : posA lt i o k = q) : insR lt i o = o.take q ++ i :: o.drop q := by subst hk; subst h; rfl

theorem ints_one2 {l : List Int} {q : Nat} : ∀ u ∈ (l.map (Value.int .i64)).drop q, u.oneCell' = true := fun u hu => ints_one u (List.mem_of_mem_drop hu)
theorem ins_row {lt : Nat → Nat → Bool} {o : List Nat} {k q base : Nat} {e : TypeId} {v : Value} {w : World} (_hk : o.length = k) (hq : q ≤ k) (h : insR lt k o = o.take q ++ k :: o.drop q)
    (hown : w.ownsRow base e 1 v (q + 1 + (k - q)) (((((zl o).take q).map (Value.int .i64)) ++ [.int .i64 (k : Int)]) ++ ((zl o).map (Value.int .i64)).drop q)) : w.ownsRow base e 1 v (k + 1) ((zl (insR lt k o)).map (Value.int .i64)) := by
  rw [h, show k + 1 = q + 1 + (k - q) by omega]
  have e1 : (zl (o.take q ++ k :: o.drop q)).map (Value.int .i64) = (((zl o).take q).map (Value.int .i64) ++ [.int .i64 (k : Int)]) ++ ((zl o).map (Value.int .i64)).drop q := by
    simp [zl, List.map_take, List.map_drop]
  rw [e1]
  exact hown

set_option maxHeartbeats 8000000 in
set_option maxRecDepth 20000 in
theorem c_sMedianTrial (A : Option Addr) (n c : Nat) (l : List Tri) (pe : Int) (w : World) (ha : Sl trc w w.heap.size 3 A n l) (hn : n ≤ 1048576) :
    Calls Try.prog 5 #[.slice A n c, .int .i64 pe] w fun e w' => e = .returned (medV l pe) ∧ Below w.heap.size w w' := by
  have hl := ha.1
  have HL := Lib.hid hl
  have HA0 := Lib.hid ha
  clear ha
  have err : ∀ k : Int, k ≠ 0 → codeS l pe = k → (k = 1 ∨ k = 2 ∨ k = 3) → Calls Try.prog 5 #[.slice A n c, .int .i64 pe] w fun e w' => e = .returned (medV l pe) ∧ Below w.heap.size w w' := by
    intro k hk h hor
    have HK := Lib.hid h
    clear hl h
    rcases hor with rfl | rfl | rfl <;>
    · go_enter Try.func5, Try.ntmps5
      go_wp2_with (go_at_call 9; refine (c_l20Some _ _ _ l _ _ HK.out _ HA0.out hn).mono ?_; rintro r_ w1 ⟨rfl, hb1⟩)
      go_returns
      exact ⟨medV_err HK.out (by decide), hb1⟩
  rcases codeS_cases l pe with h | h | h | h
  rotate_left
  · exact err 1 (by decide) h (by simp)
  · exact err 2 (by decide) h (by simp)
  · exact err 3 (by decide) h (by simp)
  obtain ⟨hcl, hpos⟩ := codeS_zero h
  obtain ⟨hok, hpe⟩ := codeL_zero hcl
  obtain ⟨h40', hval⟩ := okT_at hok
  have h40 : n ≤ 40 := by omega
  have HV := Lib.hid @hval
  have HK := Lib.hid h
  have h1n : 1 ≤ n := by omega
  have WK := Lib.hid (slw_wk pe @hval)
  obtain ⟨mm, hmm⟩ : ∃ m, (n - 1) / 2 = m := ⟨_, rfl⟩
  have hquo := half_quo h1n hmm
  have hmn : mm < n := by omega
  have HM := Lib.hid hmm
  have HPE := Lib.hid hpe
  clear h hcl hok hval hl hpos err h40' hmm hpe
  go_enter Try.func5, Try.ntmps5
  go_wp2_with (go_at_call 9; refine (c_l20Some _ _ _ l _ _ HK.out _ HA0.out hn).mono ?_; rintro r_ w1 ⟨rfl, hb1⟩; have HA := Lib.hid (HA0.out.later hb1); have HB1 := Lib.hid hb1; have hz01 := hb1.size; clear hb1)
  go_loopw [7, 8] (fun v i wr => ∃ k : Nat, k ≤ n ∧ i = .int .i64 k ∧ Below w1.heap.size w1 wr ∧ wr.ownsRow w1.heap.size 2 1 v k ((zl (rkL (slw l pe) k)).map (Value.int .i64))) (fun _ i _ => n - (intOf i).toNat)
  case atStart => exact ⟨0, Nat.zero_le _, rfl, by (repeat' (first | (with_reducible exact Below.refl _ _) | (with_reducible assumption) | (with_reducible refine below_drewN ?_ _) | (with_reducible refine Below.drew ?_) | (with_reducible refine Below.alloc ?_ ?_ _) | (with_reducible refine Below.setCell ?_ ?_ _) | go_size)), World.ownsRow_made _ _ 0 (Nat.le_refl _) (by simp [maxLen]) rfl⟩
  case round =>
    obtain ⟨k, hk, rfl, hB, hown⟩ := hrel
    obtain ⟨A', c', rfl⟩ := own_slice hown
    have hkc := own_cap hown
    rename World => wo
    by_cases hlt : k < n
    · have hz := hB.size
      have HO := Lib.hid hown
      clear hown
      go_wp2_with fail
      go_loopw [9] (fun j wr => ∃ q : Nat, q ≤ k ∧ j = .int .i64 q ∧ Below wo.heap.size wo wr ∧ Hid (posA (slw l pe) k (rkL (slw l pe) k) q = posA (slw l pe) k (rkL (slw l pe) k) k)) (fun j _ => (intOf j).toNat)
      case atStart => exact ⟨k, Nat.le_refl _, rfl, Below.refl _ _, rfl⟩
      case round =>
        obtain ⟨q, hq, rfl, hB2, hpos⟩ := hrel
        rename World => wi
        have hz2 := hB2.size
        have hBi := Lib.hid (hB.trans (hB2.mono hz))
        have hk30 : k ≤ 1048576 := by omega
        have OWN := Lib.hid (own_below HO.out hB2)
        by_cases hq0 : q = 0
        · have hins := Lib.hid (insR_at (rkL_ok WK.out k).len (hpos.out.symm.trans (posA_stop (.inl hq0))))
          have hd : decide (0 < q) = false := by simp; omega
          have HQ := hq
          clear hq0
          clear hpos
          go_wp2_with fail
          go_quiet (fail)
          obtain ⟨WQ, hWQ⟩ : ∃ W, W = World.drewN wi nq := ⟨_, rfl⟩
          have OWQ := Lib.hid (hWQ ▸ own_below OWN.out (below_drewN (Below.refl _ wi) nq))
          have HBW := Lib.hid (hWQ ▸ below_drewN hBi.out nq)
          have ZT := Lib.hid (zs_take (zs_ownN OWQ.out) HQ)
          have HLT : Hid (((zl (rkL (slw l pe) k)).take q).length = q) := by show _ = _; rw [List.length_take, zl_len, (rkL_ok WK.out k).len]; omega
          have HRD := Lib.hid ((rd_own OWQ.out).cut HQ hkc)
          have hcut := run_cut Try.underlying31 Try.sizeOf2 A' (n := k) (c := c') HQ
          have HSW := Lib.hid HBW.out.size
          rw [← hWQ]
          clear hWQ
          go_wp2_with (first | (go_at_call 11; refine (c_l00Own A' q c' _ _ ZT.out (by omega)).mono ?_; intro e w5 h1; obtain ⟨B1, d1, rfl, ow1, hb1⟩ := h1.elim HLT.out; have HR1 := Lib.hid (HRD.out.below hb1); have HS1 := Lib.hid hb1.size; have OW1 := Lib.hid ow1; have HB1 := Lib.hid hb1; clear ow1 hb1) | (at_builtin; refine app1 rfl (.tmp 47) (.tmp 49) _ rfl WQ.heap.size 2 _ 8 Try.underlying31 info_int64 rfl _ _ rfl _ q _ rfl OW1.out rfl (by omega) (by omega) HS1.out ?_; intro v2 w2 hown2 hb2 hg2; obtain ⟨A2, c2, rfl⟩ := own_slice hown2; have HR2 := Lib.hid (HR1.out.below hb2); have HS2 := Lib.hid (Nat.le_trans HS1.out hb2.size); have OW2 := Lib.hid hown2; have HB2 := Lib.hid hb2; clear hown2 hb2 hg2) | (at_builtin; refine apList rfl (.tmp 51) (.tmp 54) _ rfl WQ.heap.size 2 _ 8 Try.underlying31 info_int64 rfl _ _ _ _ rfl OW2.out WQ.heap.size _ (k - q) _ _ rfl HR2.out ints_one2 (by omega) (by omega) HS2.out ?_; intro v3 w3 hown3 hb3 _ _; have OW3 := Lib.hid hown3; have HB3 := Lib.hid hb3; clear hown3 hb3))
          go_roundw
          case rel =>
            refine ⟨k + 1, by omega, by go_num, ?_, ?_⟩
            · exact HBW.out.trans ((HB1.out.trans (HB2.out.trans HB3.out)).mono HSW.out)
            · exact own_base (ins_row (rkL_ok WK.out k).len HQ hins.out OW3.out) HSW.out
          case measure => simp [intOf]; omega
        · obtain ⟨q, rfl⟩ : ∃ q', q = q' + 1 := ⟨q - 1, by omega⟩
          have hrl := (rkL_ok WK.out k).len
          have hp : (rkL (slw l pe) k)[q]? = some (rkL (slw l pe) k)[q] := List.getElem?_eq_getElem (by omega)
          generalize (rkL (slw l pe) k)[q] = p at hp
          have hpk : p < k := (rkL_ok WK.out k).lt_ (List.mem_of_getElem? hp)
          obtain ⟨g, cap, hv, _, _⟩ := OWN.out.form (by omega)
          simp only [Value.slice.injEq, true_and] at hv
          obtain ⟨rfl, rfl⟩ := hv
          have hcell := OWN.out.cells (g := g) rfl q (.int .i64 p) (by simp [zl, hp])
          rw [Addr.add_lit] at hcell
          simp only [Nat.zero_add] at hcell
          obtain ⟨b, o, s, e, t, s', e', t', rfl, hb1, hb2, hx, hx', c0, c1, c2, f0, f1, f2⟩ := tr_at2 HA.out hBi.out hlt (show p < n by omega)
          have v1 := Lib.hid (HV.out _ _ _ _ hx)
          have v2 := Lib.hid (HV.out _ _ _ _ hx')
          have hd : decide (0 < q + 1) = true := by simp
          have hm1 : (q : Int) < (k : Int) := by omega
          have hpn : (p : Int) < (n : Int) := by omega
          have hkn : (k : Int) < (n : Int) := by omega
          have hbt := slw_of (pe := pe) hx hx'
          have hgd : (rkL (slw l pe) k).getD (q + 1 - 1) 0 = p := by simp [List.getD, hp]
          cases hr : slowB pe (s, e, t) (s', e', t')
          · have HR := Lib.hid hr
            have hins := Lib.hid (insR_at hrl (hpos.out.symm.trans (posA_stop (.inr ⟨by omega, by rw [hgd, hbt, hr]⟩))))
            have HQ := hq
            clear hpos hq0 hp hpk hr hbt hgd hx hx' hrl
            go_wp2_with fail
            go_quiet ((go_at_call 10; exact d0 (c_l20Less s e t s' e' t' _ _ _ _ _ _ HR.out _ v1.out v2.out HPE.out c0 c1 c2 f0 f1 f2)))
            obtain ⟨WQ, hWQ⟩ : ∃ W, W = World.drewN wi nq := ⟨_, rfl⟩
            have OWQ := Lib.hid (hWQ ▸ own_below OWN.out (below_drewN (Below.refl _ wi) nq))
            have HBW := Lib.hid (hWQ ▸ below_drewN hBi.out nq)
            have ZT := Lib.hid (zs_take (zs_ownN OWQ.out) HQ)
            have HLT : Hid (((zl (rkL (slw l pe) k)).take (q + 1)).length = q + 1) := by show _ = _; rw [List.length_take, zl_len, (rkL_ok WK.out k).len]; omega
            have HRD := Lib.hid ((rd_own OWQ.out).cut HQ hkc)
            have hcut := run_cut Try.underlying31 Try.sizeOf2 (some ⟨g, 0, none⟩) (n := k) (c := c') HQ
            simp only [Int.natCast_add, Int.natCast_one] at hcut
            have HSW := Lib.hid HBW.out.size
            rw [← hWQ]
            clear hWQ
            go_wp2_with (first | (go_at_call 11; refine (c_l00Own _ (q + 1) c' _ _ ZT.out (by omega)).mono ?_; intro e w5 h1; obtain ⟨B1, d1, rfl, ow1, hb1⟩ := h1.elim HLT.out; have HR1 := Lib.hid (HRD.out.below hb1); have HS1 := Lib.hid hb1.size; have OW1 := Lib.hid ow1; have HB1 := Lib.hid hb1; clear ow1 hb1) | (at_builtin; refine app1 rfl (.tmp 47) (.tmp 49) _ rfl WQ.heap.size 2 _ 8 Try.underlying31 info_int64 rfl _ _ rfl _ (q + 1) _ rfl OW1.out rfl (by omega) (by omega) HS1.out ?_; intro v2 w2 hown2 hb2 hg2; obtain ⟨A2, c2, rfl⟩ := own_slice hown2; have HR2 := Lib.hid (HR1.out.below hb2); have HS2 := Lib.hid (Nat.le_trans HS1.out hb2.size); have OW2 := Lib.hid hown2; have HB2 := Lib.hid hb2; clear hown2 hb2 hg2) | (at_builtin; refine apList rfl (.tmp 51) (.tmp 54) _ rfl WQ.heap.size 2 _ 8 Try.underlying31 info_int64 rfl _ _ _ _ rfl OW2.out WQ.heap.size _ (k - (q + 1)) _ _ rfl HR2.out ints_one2 (by omega) (by omega) HS2.out ?_; intro v3 w3 hown3 hb3 _ _; have OW3 := Lib.hid hown3; have HB3 := Lib.hid hb3; clear hown3 hb3))
            go_roundw
            case rel =>
              refine ⟨k + 1, by omega, by go_num, ?_, ?_⟩
              · exact HBW.out.trans ((HB1.out.trans (HB2.out.trans HB3.out)).mono HSW.out)
              · exact own_base (ins_row (rkL_ok WK.out k).len HQ hins.out OW3.out) HSW.out
            case measure => simp [intOf]; omega

          · have HR := Lib.hid hr
            have HPOS : Hid (posA (slw l pe) k (rkL (slw l pe) k) q = posA (slw l pe) k (rkL (slw l pe) k) k) := by
              have := posA_go (lt := slw l pe) (i := k) (q := q + 1) (o := rkL (slw l pe) k) (by omega) (by rw [hgd, hbt, hr])
              exact this.symm.trans hpos.out
            clear hpos hq0 hp hpk hr hbt hgd hx hx' hrl
            go_wp2_with fail
            go_quiet ((go_at_call 10; exact d0 (c_l20Less s e t s' e' t' _ _ _ _ _ _ HR.out _ v1.out v2.out HPE.out c0 c1 c2 f0 f1 f2)))
            go_wp2_with fail
            go_roundw
            case rel => exact ⟨q, by omega, by first | rfl | go_num, below_drewN hB2 _, HPOS⟩
            case measure => first | (simp [intOf]; omega) | simp [intOf]
    · obtain rfl : k = n := by omega
      obtain ⟨g2, p2, rfl, hga, hgb, hpp, hpn, hcc⟩ := rk_at WK.out hown hmn
      have HPP := Lib.hid hpp
      clear hpp hown
      go_wp2_with fail
      go_returns
      exact ⟨medV_ok HK.out HL.out (by rw [HM.out]; exact HPP.out), HB1.out.trans (hB.mono hz01)⟩
end Go.Proofs.Ytjigkogopmebeaa
