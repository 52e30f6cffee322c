/- Contracts: the text of a ranking: the reference. -/
import Derived.Test.YtbaomhneboojpaaDoorRtx
namespace Go.Proofs.YtbaomhneboojpaaDoor
open Go.RowKit Go.BigFrame
attribute [local go_sem] sub_cell sub_frozen drewN_setCell
set_option maxRecDepth 20000 in
set_option maxHeartbeats 8000000 in
theorem c_sRankText (A : Option Addr) (n c : Nat) (l : List TResult) (w : World) (ha : Sl resultC w w.heap.size 3 A n l) (hsz : RsSz l) (hn : n ≤ 1048576) :
    Calls Tryd.prog 5 #[.slice A n c] w fun e w' => e = .returned (.string (rxV l)) ∧ Below w.heap.size w w' := by
  have HL := Lib.hid ha.1
  have HA := Lib.hid ha
  have HSZ := Lib.hid hsz
  clear ha hsz
  cases h1 : ressB l
  · have e1 : Hid (rxV l = ⟨#[]⟩) := by show _ = _; simp [rxV, h1]
    go_enter Tryd.func5, Tryd.ntmps5
    go_wp2_with (go_at_call 10; refine (c_l22Ok _ _ _ l _ h1 _ HA.out HSZ.out hn).mono ?_; rintro r_ w1 ⟨rfl, hb1⟩)
    go_ret
    exact ⟨by rw [e1.out]; rfl, hb1⟩
  · have h40 := ress_len h1
    rw [HL.out] at h40
    obtain ⟨T, hT⟩ : ∃ T, rtLs l n = T := ⟨_, rfl⟩
    have e1 : Hid (rxV l = sb (Lib.join T sepL)) := by show _ = _; rw [rxV, h1, if_pos rfl, HL.out, hT]
    have hTl : T.length = n := by rw [← hT, rtLs, List.length_map, (rkL_ok (btr_wk l) n).len]
    have HTX : Hid (∀ k p : Nat, (rkL (btr l) n)[k]? = some p → T[k]? = some (rtLine l n p)) := by
      intro k p hp
      rw [← hT, rtLs, List.getElem?_map, hp]; rfl
    have HTS : Hid (∀ k, k ≤ n → (Lib.join (T.take k) sepL).length ≤ 40 * 60) := fun k hk => hT ▸ rtLs_size h1 h40 HL.out hk
    clear hT
    go_enter Tryd.func5, Tryd.ntmps5
    go_wp2_with (first | (go_at_call 10; refine (c_l22Ok _ _ _ l _ h1 _ HA.out HSZ.out hn).mono ?_; rintro r_ w1 ⟨rfl, hb1⟩; have HA1 := Lib.hid (HA.out.later hb1); have hz1 := hb1.size) | (go_at_call 11; refine (c_l22Rank _ _ _ l _ HA1.out h40).mono ?_; intro r_ w2 hp2; obtain ⟨B, d, rfl, ow, hb2⟩ := hp2.elim (n := n) (by rw [zl_len, (rkL_ok (btr_wk l) n).len]); have OW := Lib.hid ow; have HB2 := Lib.hid (hb1.trans (hb2.mono hz1)); clear ow hb2))
    go_loopw [3, 5, 6] (fun t i _ wr => ∃ k : Nat, k ≤ n ∧ i = .int .i64 k ∧ t = .string (sb (Lib.join (T.take k) sepL)) ∧ Below w.heap.size w wr ∧ Hid (wr.ownsRow w1.heap.size 2 1 (.slice B n d) n ((zl (rkL (btr l) n)).map (Value.int .i64)))) (fun _ i _ _ => n - (intOf i).toNat)
    case atStart => exact ⟨0, Nat.zero_le _, rfl, rfl, HB2.out, OW⟩
    case round =>
      obtain ⟨k, hk, rfl, rfl, hB, hown⟩ := hrel
      have hz := hB.size
      by_cases hlt : k < n
      · obtain ⟨g, p, rfl, hg1, hg2, hp, hpn, hc⟩ := rk_at (btr_wk l) hown.out hlt
        have hx := HTX.out _ _ hp
        have hts := HTS.out k hk
        obtain ⟨b, o, u0, u1, u2, rfl, hb1', hb2', hxl, c0, _, _⟩ := result_at HA.out hB hpn
        have HAW := Lib.hid (HA.out.later hB)
        have h12 := ress_name h1 hxl
        have hbd := place_bd (lt := btr l) (i := p) h40 btrN_le
        have HPL0 := fun (W : World) (h : Sl resultC W W.heap.size 3 (some ⟨b, o, none⟩) n l) => c_l22Place _ _ c p l W h h40 hpn
        have hline : rtLine l n p = Lib.itoa (placeI (btr l) n p) ++ ([46, 32] ++ bl u0) := by simp [rtLine, nmR, List.getD_eq_getElem?_getD, hxl]
        obtain ⟨z, hpz⟩ : ∃ z, placeI (btr l) n p = z := ⟨_, rfl⟩
        rw [hpz] at hbd HPL0 hline
        have HPL := Lib.hid HPL0
        obtain ⟨hbd0, hbd1⟩ := hbd
        have hit : (sb (Lib.itoa z)).size ≤ 21 := by rw [sb_size]; exact Lib.itoa_length_le z (by omega) (by omega)
        have hst : (sb (Lib.join (T.take k) sepL)).size ≤ 2400 := by rw [sb_size]; exact hts
        have HJ := Lib.hid (join_step hx)
        have HLN := Lib.hid hline
        have h12' : u0.size ≤ 12 := h12
        by_cases hk0 : k = 0
        · have hk0I : ¬ (0 : Int) < (k : Int) := by omega
          have HE : Hid (sb (Lib.join (T.take (k + 1)) sepL) = sb (Lib.join (T.take k) sepL) ++ (sb (Lib.itoa z) ++ ⟨#[46, 32]⟩ ++ u0)) := by
            show _ = _
            rw [HJ.out, if_pos hk0, HLN.out, hk0, show (⟨#[46, 32]⟩ : ByteArray) = sb [46, 32] from rfl]
            conv => rhs; rw [← sb_bl u0]
            rw [sb_apd, sb_apd, sb_apd]
            simp [Lib.join_nil]
          clear hp hx hts hxl HPL0 hline hpz HJ HLN h12 hk0
          go_wp2_with fail
          refine wp_region_below (by kernel_rfl) (by kernel_rfl) ?_
          repeat (go_big_quiet_step ((first | (go_at_call 13; refine qBg (HPL.out _ (HAW.out.later (Later.h _))) (by simp) ?_; intro w_ h_; first | exact h_ | exact h_.below | (subst h_; exact Below.refl _ _) | (subst h_; (repeat' (first | (with_reducible exact Below.refl _ _) | (with_reducible assumption) | (with_reducible refine below_drewN ?_ _) | (with_reducible refine Below.drew ?_) | (with_reducible refine Below.alloc ?_ ?_ _) | (with_reducible refine Below.setCell ?_ ?_ _) | go_size))) | (obtain ⟨n_, rfl⟩ := h_; (repeat' (first | (with_reducible exact Below.refl _ _) | (with_reducible assumption) | (with_reducible refine below_drewN ?_ _) | (with_reducible refine Below.drew ?_) | (with_reducible refine Below.alloc ?_ ?_ _) | (with_reducible refine Below.setCell ?_ ?_ _) | go_size)))) | (go_at_call 12; refine qBg (c_l01Dec _ (by omega) (by omega) _) (by simp) ?_; intro w_ h_; first | exact h_ | exact h_.below | (subst h_; exact Below.refl _ _) | (subst h_; (repeat' (first | (with_reducible exact Below.refl _ _) | (with_reducible assumption) | (with_reducible refine below_drewN ?_ _) | (with_reducible refine Below.drew ?_) | (with_reducible refine Below.alloc ?_ ?_ _) | (with_reducible refine Below.setCell ?_ ?_ _) | go_size))) | (obtain ⟨n_, rfl⟩ := h_; (repeat' (first | (with_reducible exact Below.refl _ _) | (with_reducible assumption) | (with_reducible refine below_drewN ?_ _) | (with_reducible refine Below.drew ?_) | (with_reducible refine Below.alloc ?_ ?_ _) | (with_reducible refine Below.setCell ?_ ?_ _) | go_size)))))))
          refine wpQuiet_nil ?_
          intro _ hw'
          obtain ⟨⟨w9, hb9⟩, hw''⟩ := hw'
          subst hw''
          have hB9 := hB.trans (hb9.mono hz)
          go_wp2_with fail
          go_roundw
          case rel => first | exact ⟨k + 1, by omega, by go_num, by rw [HE.out], hB9, Lib.hid (own_below hown.out hb9)⟩ | ((repeat apply Exists.intro); exact ⟨⟨k + 1, by omega, by go_num, by rw [HE.out], hB9, Lib.hid (own_below hown.out hb9)⟩, rfl⟩)
          case measure => simp [intOf]; omega
        · have hk0I : (0 : Int) < (k : Int) := by omega
          have HE : Hid (sb (Lib.join (T.take (k + 1)) sepL) = (sb (Lib.join (T.take k) sepL) ++ ⟨#[44, 32]⟩) ++ (sb (Lib.itoa z) ++ ⟨#[46, 32]⟩ ++ u0)) := by
            show _ = _
            rw [HJ.out, if_neg hk0, HLN.out, show (⟨#[46, 32]⟩ : ByteArray) = sb [46, 32] from rfl, show (⟨#[44, 32]⟩ : ByteArray) = sb [44, 32] from rfl]
            conv => rhs; rw [← sb_bl u0]
            rw [sb_apd, sb_apd, sb_apd, sb_apd]
            simp [sepL]
          clear hp hx hts hxl HPL0 hline hpz HJ HLN h12 hk0
          go_wp2_with fail
          refine wp_region_below (by kernel_rfl) (by kernel_rfl) ?_
          repeat (go_big_quiet_step ((first | (go_at_call 13; refine qBg (HPL.out _ (HAW.out.later (Later.h _))) (by simp) ?_; intro w_ h_; first | exact h_ | exact h_.below | (subst h_; exact Below.refl _ _) | (subst h_; (repeat' (first | (with_reducible exact Below.refl _ _) | (with_reducible assumption) | (with_reducible refine below_drewN ?_ _) | (with_reducible refine Below.drew ?_) | (with_reducible refine Below.alloc ?_ ?_ _) | (with_reducible refine Below.setCell ?_ ?_ _) | go_size))) | (obtain ⟨n_, rfl⟩ := h_; (repeat' (first | (with_reducible exact Below.refl _ _) | (with_reducible assumption) | (with_reducible refine below_drewN ?_ _) | (with_reducible refine Below.drew ?_) | (with_reducible refine Below.alloc ?_ ?_ _) | (with_reducible refine Below.setCell ?_ ?_ _) | go_size)))) | (go_at_call 12; refine qBg (c_l01Dec _ (by omega) (by omega) _) (by simp) ?_; intro w_ h_; first | exact h_ | exact h_.below | (subst h_; exact Below.refl _ _) | (subst h_; (repeat' (first | (with_reducible exact Below.refl _ _) | (with_reducible assumption) | (with_reducible refine below_drewN ?_ _) | (with_reducible refine Below.drew ?_) | (with_reducible refine Below.alloc ?_ ?_ _) | (with_reducible refine Below.setCell ?_ ?_ _) | go_size))) | (obtain ⟨n_, rfl⟩ := h_; (repeat' (first | (with_reducible exact Below.refl _ _) | (with_reducible assumption) | (with_reducible refine below_drewN ?_ _) | (with_reducible refine Below.drew ?_) | (with_reducible refine Below.alloc ?_ ?_ _) | (with_reducible refine Below.setCell ?_ ?_ _) | go_size)))))))
          refine wpQuiet_nil ?_
          intro _ hw'
          obtain ⟨⟨w9, hb9⟩, hw''⟩ := hw'
          subst hw''
          have hB9 := hB.trans (hb9.mono hz)
          go_wp2_with fail
          go_roundw
          case rel => first | exact ⟨k + 1, by omega, by go_num, by rw [HE.out], hB9, Lib.hid (own_below hown.out hb9)⟩ | ((repeat apply Exists.intro); exact ⟨⟨k + 1, by omega, by go_num, by rw [HE.out], hB9, Lib.hid (own_below hown.out hb9)⟩, rfl⟩)
          case measure => simp [intOf]; omega
      · obtain rfl : k = n := by omega
        have HF : Hid (rxV l = sb (Lib.join (T.take k) sepL)) := by show _ = _; rw [e1.out, List.take_of_length_le (by omega)]
        go_wp2_with fail
        go_ret
        exact ⟨by rw [HF.out]; rfl, hB⟩
end Go.Proofs.YtbaomhneboojpaaDoor
