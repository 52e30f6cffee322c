/- Contracts: LessonsForText: the reference. -/
import Derived.Test.YtajcdaclbammaaaFt1
namespace Go.Proofs.Ytajcdaclbammaaa
open Go.RowKit Go.BigFrame
attribute [local go_sem] sub_cell sub_frozen drewN_setCell

def lstI (l : List TLesson) : Option (List Int) → Int
  | none => -1
  | some b => hrS l b
theorem conv_uint (k : Nat) (hk : k ≤ 1048576) (W : World) : (convert 3 70 (.int .i64 (k : Int))).run Try.prog W = .ok (.int .u64 (k : Int)) W := by
  have h5 : Try.prog.intKind 70 = .u64 := by kernel_rfl
  rw [run_convert_int (P := Try.prog) W 3 70 .i64 _ (by rw [Try.underlying3]; rfl) (by rw [h5]; exact Try.underlying70), h5]
  have e : IntKind.u64.wrap (k : Int) = (k : Int) := by
    simp [IntKind.wrap, IntKind.signed, IntKind.bits]; omega
  rw [e]
theorem upd_skip1 {l : List TLesson} {t : ByteArray} {b s : List Int} (h : hrS l b < hrS l s) : updT l t (some b) s = some b := by
  unfold updT
  split
  · simp only; rw [if_neg (by omega)]
  · rfl
theorem upd_skip2 {l : List TLesson} {t : ByteArray} {b : Option (List Int)} {s : List Int} (h : typB (knL l s) (bl t) = false) : updT l t b s = b := by simp [updT, okT, h]
theorem upd_skip3 {l : List TLesson} {t : ByteArray} {b : Option (List Int)} {s : List Int} (h : cloB (needsL l) s = false) : updT l t b s = b := by simp [updT, okT, h]
theorem upd_first {l : List TLesson} {t : ByteArray} {s : List Int} (h : typB (knL l s) (bl t) = true) (h2 : cloB (needsL l) s = true) : updT l t none s = some s := by simp [updT, okT, h, h2]
theorem upd_less {l : List TLesson} {t : ByteArray} {b s : List Int} (h : typB (knL l s) (bl t) = true) (h2 : cloB (needsL l) s = true) (h3 : hrS l s < hrS l b) : updT l t (some b) s = some s := by simp [updT, okT, h, h2, h3]
theorem upd_tie {l : List TLesson} {t : ByteArray} {b s : List Int} (h : typB (knL l s) (bl t) = true) (h2 : cloB (needsL l) s = true) (h3 : hrS l s = hrS l b) (h4 : lessLn s b = true) : updT l t (some b) s = some s := by simp [updT, okT, h, h2, h3, h4]
theorem upd_no {l : List TLesson} {t : ByteArray} {b s : List Int} (h3 : ¬ hrS l s < hrS l b) (h4 : lessLn s b = false ∨ hrS l s ≠ hrS l b) : updT l t (some b) s = some b := by
  unfold updT
  split
  · simp only
    rw [if_neg]
    rintro (h | ⟨h5, h6⟩)
    · exact h3 h
    · rcases h4 with h4 | h4
      · rw [h6] at h4; cases h4
      · exact h4 h5
  · rfl
set_option maxRecDepth 40000 in
set_option maxHeartbeats 16000000 in
theorem c_sLessonsForText (A : Option Addr) (n c : Nat) (l : List TLesson) (t : ByteArray) (w : World) (ha : Ls w A n l) (hsz : LsB l) (hn : n ≤ 1048576) (ht : t.size ≤ 1048576) :
    Calls Try.prog 27 #[.slice A n c, .string t] w (IntsPost (ftZ l t) (ftC l t) w) := by
  have hl := ha.len
  subst hl
  have HA := Lib.hid ha
  have HA1 := Lib.hid (fun o => ha.later (Below.alloc (Below.refl _ w) (Nat.le_refl _) o))
  have HSZ := Lib.hid hsz
  have htm : t.size ≤ maxLen := by unfold maxLen; omega
  have hk := takB_nil l
  clear ha hsz
  rcases ft_cases l t with ⟨g1, e1, e2⟩ | ⟨g1, g2, e1, e2⟩ | ⟨g1, g2, g3, e1, e2⟩ | ⟨g1, g2, g3, hor⟩ <;> rw [g1] at hk
  · rw [e1, e2]
    have G1 : Hid (takB l [] = 1) := hk
    clear g1 hk e1 e2
    go_enter Try.func27, Try.ntmps27
    go_wp2_with (go_at_call 36; refine (c_l18Taken _ _ _ _ _ _ l [] _ G1.out _ (HA1.out _) (zs_nil w) HSZ.out hn (by omega)).mono ?_; rintro r_ w1 ⟨rfl, hb1⟩; have hB1 := later hb1 (w := w) (by (repeat' (first | (with_reducible exact Below.refl _ _) | (with_reducible assumption) | (with_reducible refine below_drewN ?_ _) | (with_reducible refine Below.drew ?_) | (with_reducible refine Below.alloc ?_ ?_ _) | (with_reducible refine Below.setCell ?_ ?_ _) | go_size))))
    go_ret2
    exact IntsPost.err hB1
  · rw [e1, e2]
    have G1 : Hid (takB l [] = 0) := hk
    have G2 := Lib.hid g2
    clear g1 g2 hk e1 e2
    go_enter Try.func27, Try.ntmps27
    go_wp2_with (first | (go_at_call 36; refine (c_l18Taken _ _ _ _ _ _ l [] _ G1.out _ (HA1.out _) (zs_nil w) HSZ.out hn (by omega)).mono ?_; rintro r_ w1 ⟨rfl, hb1⟩; have hB1 := later hb1 (w := w) (by (repeat' (first | (with_reducible exact Below.refl _ _) | (with_reducible assumption) | (with_reducible refine below_drewN ?_ _) | (with_reducible refine Below.drew ?_) | (with_reducible refine Below.alloc ?_ ?_ _) | (with_reducible refine Below.setCell ?_ ?_ _) | go_size)))) | (go_at_call 37; refine (c_l00Text _ _ _ G2.out _ htm).mono ?_; rintro e w' ⟨rfl, rfl⟩))
    go_ret2
    exact IntsPost.err hB1
  · rw [e1, e2]
    have G1 : Hid (takB l [] = 0) := hk
    have GO := Lib.hid g1
    have G2 := Lib.hid g2
    obtain ⟨cv, hcv⟩ : ∃ v, cirN l = v := ⟨_, rfl⟩
    rw [hcv] at g3
    have HCV := Lib.hid hcv
    clear g1 g2 hk e1 e2 hcv
    go_enter Try.func27, Try.ntmps27
    go_wp2_with (first | (go_at_call 36; refine (c_l18Taken _ _ _ _ _ _ l [] _ G1.out _ (HA1.out _) (zs_nil w) HSZ.out hn (by omega)).mono ?_; rintro r_ w1 ⟨rfl, hb1⟩; have hB1 := later hb1 (w := w) (by (repeat' (first | (with_reducible exact Below.refl _ _) | (with_reducible assumption) | (with_reducible refine below_drewN ?_ _) | (with_reducible refine Below.drew ?_) | (with_reducible refine Below.alloc ?_ ?_ _) | (with_reducible refine Below.setCell ?_ ?_ _) | go_size)))) | (go_at_call 37; refine (c_l00Text _ _ _ G2.out _ htm).mono ?_; rintro e w' ⟨rfl, rfl⟩) | (go_at_call 31; refine (c_l18Circle _ _ _ l _ (HA.out.later hB1) GO.out).mono ?_; rw [HCV.out]; rintro r_ w2 ⟨rfl, hb2⟩))
    go_ret2
    exact IntsPost.err (hB1.trans (hb2.mono hB1.size))
  · have G1 : Hid (takB l [] = 0) := hk
    have HOK := Lib.hid g1
    have G2 := Lib.hid g2
    have HOR := Lib.hid hor
    have h12 := les_len g1
    obtain ⟨cv, hcv⟩ : ∃ v, cirN l = v := ⟨_, rfl⟩
    rw [hcv] at g3
    have g4 : ¬ (0 : Int) ≤ cv := by omega
    have HCV := Lib.hid hcv
    have hpw := pow_bd (n := l.length) (by omega)
    have hsh := shl_one (n := l.length) (by omega)
    have hcu := conv_uint l.length hn
    obtain ⟨K, hK⟩ : ∃ K, 2 ^ l.length = K := ⟨_, rfl⟩
    rw [hK] at hsh hpw
    have HK := Lib.hid hK
    clear g1 g2 hk hcv hor hK
    go_enter Try.func27, Try.ntmps27
    go_wp2_with (first | (go_at_call 36; refine (c_l18Taken _ _ _ _ _ _ l [] _ G1.out _ (HA1.out _) (zs_nil w) HSZ.out hn (by omega)).mono ?_; rintro r_ w1 ⟨rfl, hb1⟩; have hB1 := later hb1 (w := w) (by (repeat' (first | (with_reducible exact Below.refl _ _) | (with_reducible assumption) | (with_reducible refine below_drewN ?_ _) | (with_reducible refine Below.drew ?_) | (with_reducible refine Below.alloc ?_ ?_ _) | (with_reducible refine Below.setCell ?_ ?_ _) | go_size))); clear hb1) | (go_at_call 37; refine (c_l00Text _ _ _ G2.out _ htm).mono ?_; rintro e w' ⟨rfl, rfl⟩) | (go_at_call 31; refine (c_l18Circle _ _ _ l _ (HA.out.later hB1) HOK.out).mono ?_; rw [HCV.out]; rintro r_ w2 ⟨rfl, hb2⟩; have HB2 := Lib.hid (hB1.trans (hb2.mono hB1.size)); clear hb2))
    have hz2 := HB2.out.size
    go_loopw [7, 8, 9] (fun v s i wr => ∃ (k : Nat) (bst : Option (List Int)), k ≤ K ∧ i = .int .i64 k ∧ s = .int .i64 (lstI l bst) ∧ Below w.heap.size w wr ∧ Hid (bestT l t l.length k = bst) ∧ Hid (wr.ownsRow w.heap.size 2 1 v (bst.getD []).length ((bst.getD []).map (Value.int .i64)))) (fun _ _ i _ => K - (intOf i).toNat)
    case atStart => exact ⟨0, none, Nat.zero_le _, rfl, rfl, by have hB2 := HB2.out; (repeat' (first | (with_reducible exact Below.refl _ _) | (with_reducible assumption) | (with_reducible refine below_drewN ?_ _) | (with_reducible refine Below.drew ?_) | (with_reducible refine Below.alloc ?_ ?_ _) | (with_reducible refine Below.setCell ?_ ?_ _) | go_size)), rfl, own_base (World.ownsRow_made w2 #[] 0 (Nat.le_refl _) (by simp [maxLen]) rfl) hz2⟩
    case round =>
      obtain ⟨k, bst, hkK, rfl, rfl, hB, hbst, hown⟩ := hrel
      rename World => wo
      have hz := hB.size
      obtain ⟨Ab, cb, hv⟩ := own_slice hown.out
      subst hv
      have hbl : (bst.getD []).length ≤ 12 := by
        cases bst with
        | none => simp
        | some b =>
          obtain ⟨j, rfl⟩ := bestT_shape l t l.length k b hbst.out
          have := chsN_len j l.length
          simp only [Option.getD_some]; omega
      by_cases hlt : k < K
      · have hltI : (k : Int) < (K : Int) := by omega
        go_wp2_with fail
        go_loopw [10, 11] (fun v i wr => ∃ j : Nat, j ≤ l.length ∧ i = .int .i64 j ∧ Below wo.heap.size wo wr ∧ Hid (wr.ownsRow wo.heap.size 2 1 v (chsN k j).length ((chsN k j).map (Value.int .i64)))) (fun _ i _ => l.length - (intOf i).toNat)
        case atStart => exact ⟨0, Nat.zero_le _, rfl, by (repeat' (first | (with_reducible exact Below.refl _ _) | (with_reducible assumption) | (with_reducible refine below_drewN ?_ _) | (with_reducible refine Below.drew ?_) | (with_reducible refine Below.alloc ?_ ?_ _) | (with_reducible refine Below.setCell ?_ ?_ _) | go_size)), World.ownsRow_made wo #[] 0 (Nat.le_refl _) (by simp [maxLen]) rfl⟩
        case round =>
          obtain ⟨j, hj, rfl, hBr, hrow⟩ := hrel
          have hzr := hBr.size
          have hlj := chsN_len k j
          by_cases hlt2 : j < l.length
          · have hbt := bit_test k j (by omega)
            have hcj := conv_uint j (by omega)
            cases g : k.testBit j
            · have GE := Lib.hid (chsN_no g)
              rw [g] at hbt
              clear g
              go_wp2_with fail
              go_roundw
              case rel => first | exact ⟨j + 1, by omega, by go_num, hBr, by show World.ownsRow _ _ _ _ _ (chsN k (j + 1)).length _; rw [GE.out]; exact hrow.out⟩ | ((repeat apply Exists.intro); exact ⟨⟨j + 1, by omega, by go_num, hBr, by show World.ownsRow _ _ _ _ _ (chsN k (j + 1)).length _; rw [GE.out]; exact hrow.out⟩, rfl⟩)
              case measure => simp [intOf]; omega
            · have GE := Lib.hid (chsN_yes g)
              rw [g] at hbt
              clear g
              go_wp2_with (at_builtin; refine app1 rfl (.tmp 55) (.tmp 57) _ rfl wo.heap.size 2 _ 8 Try.underlying30 info_int64 rfl _ _ rfl _ _ _ rfl hrow.out rfl (by omega) (by omega) hzr ?_; intro v' w2 hown2 hb2 hg2; have HO2 := Lib.hid hown2; clear hown2)
              go_roundw
              case rel => first | exact ⟨j + 1, by omega, by go_num, hBr.trans hb2, by show World.ownsRow _ _ _ _ _ (chsN k (j + 1)).length _; rw [GE.out, List.length_append, List.map_append]; exact HO2.out⟩ | ((repeat apply Exists.intro); exact ⟨⟨j + 1, by omega, by go_num, hBr.trans hb2, by show World.ownsRow _ _ _ _ _ (chsN k (j + 1)).length _; rw [GE.out, List.length_append, List.map_append]; exact HO2.out⟩, rfl⟩)
              case measure => simp [intOf]; omega
          · have hje : j = l.length := by omega
            subst hje
            obtain ⟨S, hS⟩ : ∃ S, chsN k l.length = S := ⟨_, rfl⟩
            have hri := chs_rises k l.length
            have hrsg := chsN_rsg k l.length
            rw [hS] at hri hrsg hlj
            have HRI := Lib.hid hri
            have HND := Lib.hid (rises_nodup hri)
            have HBD : Hid (∀ x ∈ S, (0 : Int) ≤ x ∧ x < l.length) := fun x hx => Rsg_mem hrsg x hx
            have HUP : Hid (bestT l t l.length (k + 1) = updT l t bst S) := by show _ = _; rw [bestT, hbst.out, hS]
            have hrow2 := hrow.out
            rw [hS] at hrow2
            obtain ⟨As, cs, hvs⟩ := own_slice hrow2
            subst hvs
            have HRS := Lib.hid hrow2
            have HBR := Lib.hid (own_below hown.out hBr)
            have HBW := Lib.hid (hB.trans (hBr.mono hz))
            have hhb := hrS_bd HOK.out S
            obtain ⟨H, hH⟩ : ∃ H, hrS l S = H := ⟨_, rfl⟩
            rw [hH] at hhb
            obtain ⟨hh0, hh1⟩ := hhb
            have HH := Lib.hid hH
            have CH := Lib.hid (fun (W : World) (hW : Below w.heap.size w W) (hr : W.ownsRow wo.heap.size 2 1 (.slice As S.length cs) S.length (S.map (Value.int .i64))) => c_l18Hours _ _ _ c _ cs l S W (HA.out.later hW) (zs_ownN hr) HOK.out HBD.out (by omega))
            rw [hH] at CH
            have hwoz := HBW.out.size
            clear hrow hrow2 hri hrsg hS hown hH
            -- what the calls answer
            obtain ⟨X, hX⟩ : ∃ X, srt (memB (misK (srt (memB (knL l S))) (bl t))) = X := ⟨_, rfl⟩
            obtain ⟨ty, hty⟩ : ∃ r, typB (knL l S) (bl t) = r := ⟨_, rfl⟩
            have hq : (X == ([] : List UInt8)) = ty := by
              rw [← hX, misK_srt, ← hty, Bool.eq_iff_iff, beq_iff_eq, srt_nil, typB_iff]
            have hq2 : ((sb X).toList == (ByteArray.mk #[]).toList) = ty := by rw [sb_toList, mt_toList]; exact hq
            have hq3 : ((sb X).toList == ([] : List UInt8)) = ty := by rw [sb_toList]; exact hq
            have HTY := Lib.hid hty
            have CM := Lib.hid (fun W => c_l18Missing (sb (srt (memB (knL l S)))) t W (srt_size _) ht)
            rw [bl_sb, hX] at CM
            obtain ⟨cl, hcl⟩ : ∃ r, cloB (needsL l) S = r := ⟨_, rfl⟩
            have HCLO := Lib.hid hcl
            have HCL : Hid (∀ zs, AllInv (needsL l) l.length S zs zs.length → ((zs.length : Int) != (S.length : Int)) = !cl) := by
              intro zs hI
              have h1 := hI.same HND.out
              rw [← cloB_iff, hcl] at h1
              cases cl
              · have : zs.length ≠ S.length := fun e => by have := h1.1 e; cases this
                simp; omega
              · have := h1.2 rfl
                simp [this]
            clear hX hty hcl
            cases bst with
            | none =>
              simp only [Option.getD_none, lstI] at *
              have hneg : ¬ (0 : Int) ≤ -1 := by omega
              cases ty
              · have HE : Hid (bestT l t l.length (k + 1) = none) := HUP.out.trans (upd_skip2 HTY.out)
                go_wp2_with (first | (go_at_call 50; refine (CH.out _ HBW.out HRS.out).mono ?_; rintro e w' ⟨rfl, rfl⟩) | (go_at_call 39; refine (c_l18Known _ _ _ _ _ _ l S _ (HA.out.later HBW.out) (zs_ownN HRS.out) HRI.out HSZ.out hn (by omega)).mono ?_; rintro r_ w4 ⟨rfl, hb4⟩; have HB4 := Lib.hid (HBW.out.trans (hb4.mono hwoz)); have hz4 := HB4.out.size; have HRS4 := Lib.hid (own_below HRS.out hb4); have HBR4 := Lib.hid (own_below HBR.out hb4); clear hb4) | (go_at_call 38; refine (CM.out _).mono ?_; rintro r_ w5 ⟨rfl, hb5⟩; have HB5 := Lib.hid (HB4.out.trans (hb5.mono hz4)); have HBR5 := Lib.hid (own_below HBR4.out hb5); clear hb5))
                go_roundw
                case rel => first | exact ⟨k + 1, none, by omega, by go_num, rfl, HB5.out, HE, HBR5⟩ | ((repeat apply Exists.intro); exact ⟨⟨k + 1, none, by omega, by go_num, rfl, HB5.out, HE, HBR5⟩, rfl⟩)
                case measure => simp [intOf]; omega
              · cases cl
                · have HE : Hid (bestT l t l.length (k + 1) = none) := HUP.out.trans (upd_skip3 HCLO.out)
                  go_wp2_with (first | (go_at_call 50; refine (CH.out _ HBW.out HRS.out).mono ?_; rintro e w' ⟨rfl, rfl⟩) | (go_at_call 39; refine (c_l18Known _ _ _ _ _ _ l S _ (HA.out.later HBW.out) (zs_ownN HRS.out) HRI.out HSZ.out hn (by omega)).mono ?_; rintro r_ w4 ⟨rfl, hb4⟩; have HB4 := Lib.hid (HBW.out.trans (hb4.mono hwoz)); have hz4 := HB4.out.size; have HRS4 := Lib.hid (own_below HRS.out hb4); have HBR4 := Lib.hid (own_below HBR.out hb4); clear hb4) | (go_at_call 38; refine (CM.out _).mono ?_; rintro r_ w5 ⟨rfl, hb5⟩; have HB5 := Lib.hid (HB4.out.trans (hb5.mono hz4)); have hz5 := HB5.out.size; have HRS5 := Lib.hid (own_below HRS4.out hb5); have HBR5 := Lib.hid (own_below HBR4.out hb5); clear hb5) | (go_at_call 51; refine (c_l18All _ _ _ _ _ _ l S _ (HA.out.later HB5.out) (zs_ownN HRS5.out) HOK.out HND.out HBD.out).mono ?_; rintro r_ w6 ⟨zs, hI, h6⟩; obtain ⟨B6, d6, rfl, ow6, hb6⟩ := h6.elim (n := zs.length) rfl; have hne := HCL.out zs hI; have HB6 := Lib.hid (HB5.out.trans (hb6.mono hz5)); have HRS6 := Lib.hid (own_below HRS5.out hb6); have HBR6 := Lib.hid (own_below HBR5.out hb6); clear hI h6 ow6 hb6))
                  go_roundw
                  case rel => first | exact ⟨k + 1, none, by omega, by go_num, rfl, HB6.out, HE, HBR6⟩ | ((repeat apply Exists.intro); exact ⟨⟨k + 1, none, by omega, by go_num, rfl, HB6.out, HE, HBR6⟩, rfl⟩)
                  case measure => simp [intOf]; omega
                · have HE : Hid (bestT l t l.length (k + 1) = some S) := HUP.out.trans (upd_first HTY.out HCLO.out)
                  go_wp2_with (first | (go_at_call 50; refine (CH.out _ HBW.out HRS.out).mono ?_; rintro e w' ⟨rfl, rfl⟩) | (go_at_call 39; refine (c_l18Known _ _ _ _ _ _ l S _ (HA.out.later HBW.out) (zs_ownN HRS.out) HRI.out HSZ.out hn (by omega)).mono ?_; rintro r_ w4 ⟨rfl, hb4⟩; have HB4 := Lib.hid (HBW.out.trans (hb4.mono hwoz)); have hz4 := HB4.out.size; have HRS4 := Lib.hid (own_below HRS.out hb4); have HBR4 := Lib.hid (own_below HBR.out hb4); clear hb4) | (go_at_call 38; refine (CM.out _).mono ?_; rintro r_ w5 ⟨rfl, hb5⟩; have HB5 := Lib.hid (HB4.out.trans (hb5.mono hz4)); have hz5 := HB5.out.size; have HRS5 := Lib.hid (own_below HRS4.out hb5); have HBR5 := Lib.hid (own_below HBR4.out hb5); clear hb5) | (go_at_call 51; refine (c_l18All _ _ _ _ _ _ l S _ (HA.out.later HB5.out) (zs_ownN HRS5.out) HOK.out HND.out HBD.out).mono ?_; rintro r_ w6 ⟨zs, hI, h6⟩; obtain ⟨B6, d6, rfl, ow6, hb6⟩ := h6.elim (n := zs.length) rfl; have hne := HCL.out zs hI; have HB6 := Lib.hid (HB5.out.trans (hb6.mono hz5)); have HRS6 := Lib.hid (own_below HRS5.out hb6); have HBR6 := Lib.hid (own_below HBR5.out hb6); clear hI h6 ow6 hb6))
                  go_roundw
                  case rel => first | exact ⟨k + 1, some S, by omega, by go_num, by rw [lstI, HH.out], HB6.out, HE, own_base HRS6.out hz⟩ | ((repeat apply Exists.intro); exact ⟨⟨k + 1, some S, by omega, by go_num, by rw [lstI, HH.out], HB6.out, HE, own_base HRS6.out hz⟩, rfl⟩)
                  case measure => simp [intOf]; omega
            | some b =>
              simp only [Option.getD_some, lstI] at *
              have hbb := hrS_bd HOK.out b
              obtain ⟨Hb, hHb⟩ : ∃ H, hrS l b = H := ⟨_, rfl⟩
              rw [hHb] at hbb ⊢
              obtain ⟨hb0, hb1⟩ := hbb
              have HHB := Lib.hid hHb
              clear hHb
              have hnn : ¬ Hb < 0 := by omega
              by_cases hgt : Hb < H
              · have HE : Hid (bestT l t l.length (k + 1) = some b) := HUP.out.trans (upd_skip1 (by rw [HH.out, HHB.out]; exact hgt))
                go_wp2_with (first | (go_at_call 50; refine (CH.out _ HBW.out HRS.out).mono ?_; rintro e w' ⟨rfl, rfl⟩))
                go_roundw
                case rel => first | exact ⟨k + 1, some b, by omega, by go_num, by rw [lstI, HHB.out], HBW.out, HE, HBR⟩ | ((repeat apply Exists.intro); exact ⟨⟨k + 1, some b, by omega, by go_num, by rw [lstI, HHB.out], HBW.out, HE, HBR⟩, rfl⟩)
                case measure => simp [intOf]; omega
              · cases ty
                · have HE : Hid (bestT l t l.length (k + 1) = some b) := HUP.out.trans (upd_skip2 HTY.out)
                  go_wp2_with (first | (go_at_call 50; refine (CH.out _ HBW.out HRS.out).mono ?_; rintro e w' ⟨rfl, rfl⟩) | (go_at_call 39; refine (c_l18Known _ _ _ _ _ _ l S _ (HA.out.later HBW.out) (zs_ownN HRS.out) HRI.out HSZ.out hn (by omega)).mono ?_; rintro r_ w4 ⟨rfl, hb4⟩; have HB4 := Lib.hid (HBW.out.trans (hb4.mono hwoz)); have hz4 := HB4.out.size; have HRS4 := Lib.hid (own_below HRS.out hb4); have HBR4 := Lib.hid (own_below HBR.out hb4); clear hb4) | (go_at_call 38; refine (CM.out _).mono ?_; rintro r_ w5 ⟨rfl, hb5⟩; have HB5 := Lib.hid (HB4.out.trans (hb5.mono hz4)); have hz5 := HB5.out.size; have HRS5 := Lib.hid (own_below HRS4.out hb5); have HBR5 := Lib.hid (own_below HBR4.out hb5); clear hb5))
                  go_roundw
                  case rel => first | exact ⟨k + 1, some b, by omega, by go_num, by rw [lstI, HHB.out], HB5.out, HE, HBR5⟩ | ((repeat apply Exists.intro); exact ⟨⟨k + 1, some b, by omega, by go_num, by rw [lstI, HHB.out], HB5.out, HE, HBR5⟩, rfl⟩)
                  case measure => simp [intOf]; omega
                · cases cl
                  · have HE : Hid (bestT l t l.length (k + 1) = some b) := HUP.out.trans (upd_skip3 HCLO.out)
                    go_wp2_with (first | (go_at_call 50; refine (CH.out _ HBW.out HRS.out).mono ?_; rintro e w' ⟨rfl, rfl⟩) | (go_at_call 39; refine (c_l18Known _ _ _ _ _ _ l S _ (HA.out.later HBW.out) (zs_ownN HRS.out) HRI.out HSZ.out hn (by omega)).mono ?_; rintro r_ w4 ⟨rfl, hb4⟩; have HB4 := Lib.hid (HBW.out.trans (hb4.mono hwoz)); have hz4 := HB4.out.size; have HRS4 := Lib.hid (own_below HRS.out hb4); have HBR4 := Lib.hid (own_below HBR.out hb4); clear hb4) | (go_at_call 38; refine (CM.out _).mono ?_; rintro r_ w5 ⟨rfl, hb5⟩; have HB5 := Lib.hid (HB4.out.trans (hb5.mono hz4)); have hz5 := HB5.out.size; have HRS5 := Lib.hid (own_below HRS4.out hb5); have HBR5 := Lib.hid (own_below HBR4.out hb5); clear hb5) | (go_at_call 51; refine (c_l18All _ _ _ _ _ _ l S _ (HA.out.later HB5.out) (zs_ownN HRS5.out) HOK.out HND.out HBD.out).mono ?_; rintro r_ w6 ⟨zs, hI, h6⟩; obtain ⟨B6, d6, rfl, ow6, hb6⟩ := h6.elim (n := zs.length) rfl; have hne := HCL.out zs hI; have HB6 := Lib.hid (HB5.out.trans (hb6.mono hz5)); have HRS6 := Lib.hid (own_below HRS5.out hb6); have HBR6 := Lib.hid (own_below HBR5.out hb6); clear hI h6 ow6 hb6))
                    go_roundw
                    case rel => first | exact ⟨k + 1, some b, by omega, by go_num, by rw [lstI, HHB.out], HB6.out, HE, HBR6⟩ | ((repeat apply Exists.intro); exact ⟨⟨k + 1, some b, by omega, by go_num, by rw [lstI, HHB.out], HB6.out, HE, HBR6⟩, rfl⟩)
                    case measure => simp [intOf]; omega
                  · by_cases hls : H < Hb
                    · have HE : Hid (bestT l t l.length (k + 1) = some S) := HUP.out.trans (upd_less HTY.out HCLO.out (by rw [HH.out, HHB.out]; exact hls))
                      go_wp2_with (first | (go_at_call 50; refine (CH.out _ HBW.out HRS.out).mono ?_; rintro e w' ⟨rfl, rfl⟩) | (go_at_call 39; refine (c_l18Known _ _ _ _ _ _ l S _ (HA.out.later HBW.out) (zs_ownN HRS.out) HRI.out HSZ.out hn (by omega)).mono ?_; rintro r_ w4 ⟨rfl, hb4⟩; have HB4 := Lib.hid (HBW.out.trans (hb4.mono hwoz)); have hz4 := HB4.out.size; have HRS4 := Lib.hid (own_below HRS.out hb4); have HBR4 := Lib.hid (own_below HBR.out hb4); clear hb4) | (go_at_call 38; refine (CM.out _).mono ?_; rintro r_ w5 ⟨rfl, hb5⟩; have HB5 := Lib.hid (HB4.out.trans (hb5.mono hz4)); have hz5 := HB5.out.size; have HRS5 := Lib.hid (own_below HRS4.out hb5); have HBR5 := Lib.hid (own_below HBR4.out hb5); clear hb5) | (go_at_call 51; refine (c_l18All _ _ _ _ _ _ l S _ (HA.out.later HB5.out) (zs_ownN HRS5.out) HOK.out HND.out HBD.out).mono ?_; rintro r_ w6 ⟨zs, hI, h6⟩; obtain ⟨B6, d6, rfl, ow6, hb6⟩ := h6.elim (n := zs.length) rfl; have hne := HCL.out zs hI; have HB6 := Lib.hid (HB5.out.trans (hb6.mono hz5)); have HRS6 := Lib.hid (own_below HRS5.out hb6); have HBR6 := Lib.hid (own_below HBR5.out hb6); clear hI h6 ow6 hb6))
                      go_roundw
                      case rel => first | exact ⟨k + 1, some S, by omega, by go_num, by rw [lstI, HH.out], HB6.out, HE, own_base HRS6.out hz⟩ | ((repeat apply Exists.intro); exact ⟨⟨k + 1, some S, by omega, by go_num, by rw [lstI, HH.out], HB6.out, HE, own_base HRS6.out hz⟩, rfl⟩)
                      case measure => simp [intOf]; omega
                    · have heq : H = Hb := by omega
                      have hHE : Hid (hrS l S = hrS l b) := by show _ = _; rw [HH.out, HHB.out]; exact heq
                      clear heq
                      cases hl9 : lessLn S b <;> have HLS := Lib.hid hl9 <;> clear hl9
                      · have HE : Hid (bestT l t l.length (k + 1) = some b) := HUP.out.trans (upd_no (by rw [HH.out, HHB.out]; exact hls) (.inl HLS.out))
                        go_wp2_with (first | (go_at_call 50; refine (CH.out _ HBW.out HRS.out).mono ?_; rintro e w' ⟨rfl, rfl⟩) | (go_at_call 39; refine (c_l18Known _ _ _ _ _ _ l S _ (HA.out.later HBW.out) (zs_ownN HRS.out) HRI.out HSZ.out hn (by omega)).mono ?_; rintro r_ w4 ⟨rfl, hb4⟩; have HB4 := Lib.hid (HBW.out.trans (hb4.mono hwoz)); have hz4 := HB4.out.size; have HRS4 := Lib.hid (own_below HRS.out hb4); have HBR4 := Lib.hid (own_below HBR.out hb4); clear hb4) | (go_at_call 38; refine (CM.out _).mono ?_; rintro r_ w5 ⟨rfl, hb5⟩; have HB5 := Lib.hid (HB4.out.trans (hb5.mono hz4)); have hz5 := HB5.out.size; have HRS5 := Lib.hid (own_below HRS4.out hb5); have HBR5 := Lib.hid (own_below HBR4.out hb5); clear hb5) | (go_at_call 51; refine (c_l18All _ _ _ _ _ _ l S _ (HA.out.later HB5.out) (zs_ownN HRS5.out) HOK.out HND.out HBD.out).mono ?_; rintro r_ w6 ⟨zs, hI, h6⟩; obtain ⟨B6, d6, rfl, ow6, hb6⟩ := h6.elim (n := zs.length) rfl; have hne := HCL.out zs hI; have HB6 := Lib.hid (HB5.out.trans (hb6.mono hz5)); have HRS6 := Lib.hid (own_below HRS5.out hb6); have HBR6 := Lib.hid (own_below HBR5.out hb6); clear hI h6 ow6 hb6) | (go_at_call 52; refine (c_l18Less _ _ _ _ _ _ S b _ (zs_ownN HRS6.out) (zs_ownN HBR6.out) (by omega) (by omega)).mono ?_; rw [HLS.out]; rintro e w' ⟨rfl, nd, rfl⟩))
                        go_roundw
                        case rel => first | exact ⟨k + 1, some b, by omega, by go_num, by rw [lstI, HHB.out], below_drewN HB6.out _, HE, own_below HBR6.out (below_drewN (Below.refl _ _) _)⟩ | ((repeat apply Exists.intro); exact ⟨⟨k + 1, some b, by omega, by go_num, by rw [lstI, HHB.out], below_drewN HB6.out _, HE, own_below HBR6.out (below_drewN (Below.refl _ _) _)⟩, rfl⟩)
                        case measure => simp [intOf]; omega
                      · have HE : Hid (bestT l t l.length (k + 1) = some S) := HUP.out.trans (upd_tie HTY.out HCLO.out hHE.out HLS.out)
                        go_wp2_with (first | (go_at_call 50; refine (CH.out _ HBW.out HRS.out).mono ?_; rintro e w' ⟨rfl, rfl⟩) | (go_at_call 39; refine (c_l18Known _ _ _ _ _ _ l S _ (HA.out.later HBW.out) (zs_ownN HRS.out) HRI.out HSZ.out hn (by omega)).mono ?_; rintro r_ w4 ⟨rfl, hb4⟩; have HB4 := Lib.hid (HBW.out.trans (hb4.mono hwoz)); have hz4 := HB4.out.size; have HRS4 := Lib.hid (own_below HRS.out hb4); have HBR4 := Lib.hid (own_below HBR.out hb4); clear hb4) | (go_at_call 38; refine (CM.out _).mono ?_; rintro r_ w5 ⟨rfl, hb5⟩; have HB5 := Lib.hid (HB4.out.trans (hb5.mono hz4)); have hz5 := HB5.out.size; have HRS5 := Lib.hid (own_below HRS4.out hb5); have HBR5 := Lib.hid (own_below HBR4.out hb5); clear hb5) | (go_at_call 51; refine (c_l18All _ _ _ _ _ _ l S _ (HA.out.later HB5.out) (zs_ownN HRS5.out) HOK.out HND.out HBD.out).mono ?_; rintro r_ w6 ⟨zs, hI, h6⟩; obtain ⟨B6, d6, rfl, ow6, hb6⟩ := h6.elim (n := zs.length) rfl; have hne := HCL.out zs hI; have HB6 := Lib.hid (HB5.out.trans (hb6.mono hz5)); have HRS6 := Lib.hid (own_below HRS5.out hb6); have HBR6 := Lib.hid (own_below HBR5.out hb6); clear hI h6 ow6 hb6) | (go_at_call 52; refine (c_l18Less _ _ _ _ _ _ S b _ (zs_ownN HRS6.out) (zs_ownN HBR6.out) (by omega) (by omega)).mono ?_; rw [HLS.out]; rintro e w' ⟨rfl, nd, rfl⟩))
                        go_roundw
                        case rel => first | exact ⟨k + 1, some S, by omega, by go_num, by rw [lstI, HH.out], below_drewN HB6.out _, HE, own_base (own_below HRS6.out (below_drewN (Below.refl _ _) _)) hz⟩ | ((repeat apply Exists.intro); exact ⟨⟨k + 1, some S, by omega, by go_num, by rw [lstI, HH.out], below_drewN HB6.out _, HE, own_base (own_below HRS6.out (below_drewN (Below.refl _ _) _)) hz⟩, rfl⟩)
                        case measure => simp [intOf]; omega
      · have hke : k = K := by omega
        subst hke
        have hltI : ¬ (k : Int) < (k : Int) := by omega
        have hor := HOR.out
        rw [HK.out, hbst.out] at hor
        cases bst with
        | none =>
          simp only [lstI, Option.getD_none] at *
          rcases hor with ⟨_, e1, e2⟩ | ⟨b, hb, _⟩
          · have E1 := Lib.hid e1
            have E2 := Lib.hid e2
            clear e1 e2
            go_wp2_with fail
            go_ret2
            rw [E1.out, E2.out]
            exact IntsPost.err hB
          · cases hb
        | some b =>
          simp only [lstI, Option.getD_some] at *
          rcases hor with ⟨hb, _⟩ | ⟨b', hb, e1, e2⟩
          · cases hb
          · injection hb with hb
            subst hb
            have E1 := Lib.hid e1
            have E2 := Lib.hid e2
            have hbb := hrS_bd HOK.out b
            obtain ⟨Hb, hHb⟩ : ∃ H, hrS l b = H := ⟨_, rfl⟩
            rw [hHb] at hbb ⊢
            obtain ⟨hb0, hb1⟩ := hbb
            have hnn : ¬ Hb < 0 := by omega
            clear e1 e2 hHb
            go_wp2_with fail
            go_ret2
            rw [E1.out, E2.out]
            exact IntsPost.mk_ rfl hown.out hB
end Go.Proofs.Ytajcdaclbammaaa
