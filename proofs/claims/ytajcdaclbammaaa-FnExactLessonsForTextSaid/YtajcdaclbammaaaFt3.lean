/- Contracts: LessonsForText: the program. -/
import Derived.Test.YtajcdaclbammaaaFt2
namespace Go.Proofs.Ytajcdaclbammaaa
open Go.RowKit Go.BigFrame
attribute [local go_sem] sub_cell sub_frozen drewN_setCell

theorem clo_all {N : Int → List Int} {z : List Int} {j : Nat} (h : (z.take j).all (fun y => (N y).all fun x => decide (x ∈ z)) = true) (hj : z.length ≤ j) : cloB N z = true := by
  rw [List.take_of_length_le hj] at h; exact h
/-- So far all that is needed is there. -/
def cloT (N : Int → List Int) (z : List Int) (j : Nat) : Bool := (z.take j).all fun y => (N y).all fun x => decide (x ∈ z)
theorem cloT_step {N : Int → List Int} {z : List Int} {j : Nat} {y : Int} (h : z[j]? = some y) : cloT N z (j + 1) = (cloT N z j && (N y).all fun x => decide (x ∈ z)) := by
  rw [cloT, List.take_add_one, h, List.all_append]
  simp [cloT]
theorem cloT_end {N : Int → List Int} {z : List Int} {j : Nat} (h : z.length ≤ j) : cloT N z j = cloB N z := by rw [cloT, List.take_of_length_le h]; rfl
theorem less_of {a b : List Int} : lessLn a b = (decide (a.length < b.length) || (decide (a.length = b.length) && decide (cmpZ a b < 0))) := rfl
set_option maxRecDepth 40000 in
set_option maxHeartbeats 16000000 in
theorem c_iLessonsForText (A : Option Addr) (n c : Nat) (l : List TLesson) (t : ByteArray) (w : World) (ha : Ls w A n l) (hsz : LsB l) (hn : n ≤ 1048576) (ht : t.size ≤ 1048576) :
    Calls Try.prog 28 #[.slice A n c, .string t] w (IntsPost (ftZ l t) (ftC l t) w) := by
  have hl := ha.len
  subst hl
  have HA := Lib.hid ha
  have HSZ := Lib.hid hsz
  have htm : t.size ≤ maxLen := by unfold maxLen; omega
  clear ha hsz
  rcases ft_cases l t with ⟨g1, e1, e2⟩ | ⟨g1, g2, e1, e2⟩ | ⟨g1, g2, g3, e1, e2⟩ | ⟨g1, g2, g3, hor⟩ <;> have G1 := Lib.hid g1
  · rw [e1, e2]
    clear g1 e1 e2
    go_enter Try.func28, Try.ntmps28
    go_wp2_with (go_at_call 33; refine (c_iValidLessons _ _ _ l _ G1.out _ HA.out HSZ.out hn).mono ?_; rintro r_ w1 ⟨rfl, hb1⟩)
    go_ret2
    exact IntsPost.err hb1
  · rw [e1, e2]
    have C2 := Lib.hid (fun W => c_isText t 32 100 _ g2 W htm)
    clear g1 g2 e1 e2
    go_enter Try.func28, Try.ntmps28
    go_wp2_with (first | (go_at_call 33; refine (c_iValidLessons _ _ _ l _ G1.out _ HA.out HSZ.out hn).mono ?_; rintro r_ w1 ⟨rfl, hb1⟩) | (go_at_call 41; refine (C2.out _).mono ?_; rintro e w' ⟨rfl, rfl⟩))
    go_ret2
    exact IntsPost.err hb1
  · rw [e1, e2]
    have C2 := Lib.hid (fun W => c_isText t 32 100 _ g2 W htm)
    obtain ⟨cv, hcv⟩ : ∃ v, cirN l = v := ⟨_, rfl⟩
    rw [hcv] at g3
    have HCV := Lib.hid hcv
    clear g1 g2 e1 e2 hcv
    go_enter Try.func28, Try.ntmps28
    go_wp2_with (first | (go_at_call 33; refine (c_iValidLessons _ _ _ l _ G1.out _ HA.out HSZ.out hn).mono ?_; rintro r_ w1 ⟨rfl, hb1⟩) | (go_at_call 41; refine (C2.out _).mono ?_; rintro e w' ⟨rfl, rfl⟩) | (go_at_call 34; refine (c_lessonCircle _ _ _ l _ (HA.out.later hb1) G1.out).mono ?_; rw [HCV.out]; rintro r_ w2 ⟨rfl, hb2⟩))
    go_ret2
    exact IntsPost.err (hb1.trans (hb2.mono hb1.size))
  · have HOK := G1
    have C2 := Lib.hid (fun W => c_isText t 32 100 _ g2 W htm)
    have HOR := Lib.hid hor
    have h12 := les_len g1
    have HNB := Lib.hid (needs_bd g1)
    have HNL : Hid (∀ k : Int, (needsL l k).length ≤ 1048576) := fun k => Nat.le_trans (needs_len g1 k) hn
    obtain ⟨cv, hcv⟩ : ∃ v, cirN l = v := ⟨_, rfl⟩
    rw [hcv] at g3
    have g4 : ¬ (0 : Int) ≤ cv := by omega
    have HCV := Lib.hid hcv
    have hpw := pow_bd (n := l.length) (by omega)
    have hsh := shl_one (n := l.length) (by omega)
    obtain ⟨K, hK⟩ : ∃ K, 2 ^ l.length = K := ⟨_, rfl⟩
    rw [hK] at hsh hpw
    have HK := Lib.hid hK
    clear g1 g2 hcv hor hK
    go_enter Try.func28, Try.ntmps28
    go_wp2_with (first | (go_at_call 33; refine (c_iValidLessons _ _ _ l _ G1.out _ HA.out HSZ.out hn).mono ?_; rintro r_ w1 ⟨rfl, hb1⟩) | (go_at_call 41; refine (C2.out _).mono ?_; rintro e w' ⟨rfl, rfl⟩) | (go_at_call 34; refine (c_lessonCircle _ _ _ l _ (HA.out.later hb1) G1.out).mono ?_; rw [HCV.out]; rintro r_ w2 ⟨rfl, hb2⟩; have HB2 := Lib.hid (hb1.trans (hb2.mono hb1.size)); clear hb2))
    have hz2 := HB2.out.size
    go_loopw [6, 7, 8, 30] (fun v s f i wr => ∃ (k : Nat) (bst : Option (List Int)) (H0 : Int) (fd : Bool), k ≤ K ∧ i = .int .i64 k ∧ s = .int .i64 H0 ∧ f = .bool fd ∧ Hid (fd = bst.isSome) ∧ Hid (∀ b, bst = some b → H0 = hrS l b) ∧ Below w.heap.size w wr ∧ Hid (bestT l t l.length k = bst) ∧ Hid (wr.ownsRow w.heap.size 2 1 v (bst.getD []).length ((bst.getD []).map (Value.int .i64)))) (fun _ _ _ i _ => K - (intOf i).toNat)
    case atStart => exact ⟨0, none, 0, false, Nat.zero_le _, rfl, rfl, rfl, rfl, Lib.hid (fun b hb => by cases hb), by have hB2 := HB2.out; (repeat' (first | (with_reducible exact Below.refl _ _) | (with_reducible assumption) | (with_reducible refine below_drewN ?_ _) | (with_reducible refine Below.drew ?_) | (with_reducible refine Below.alloc ?_ ?_ _) | (with_reducible refine Below.setCell ?_ ?_ _) | go_size)), rfl, own_base (World.ownsRow_made w2 #[] 0 (Nat.le_refl _) (by simp [maxLen]) rfl) hz2⟩
    case round =>
      obtain ⟨k, bst, H0, fd, hkK, rfl, rfl, rfl, hfd, hh0, hB, hbst, hown⟩ := hrel
      rename World => wo
      have hz := hB.size
      obtain ⟨Ab, cb, hv⟩ := own_slice hown.out
      subst hv
      have hbl : (bst.getD []).length ≤ 12 := by
        cases bst with
        | none => simp
        | some b =>
          obtain ⟨j, rfl⟩ := bestT_shape l t l.length k b hbst.out
          have := chsN_len j l.length
          simp only [Option.getD_some]; omega
      by_cases hlt : k < K
      · have hltI : (k : Int) < (K : Int) := by omega
        have CC0 := fun W => c_chosen k l.length W (by omega) (by omega)
        obtain ⟨S, hS⟩ : ∃ S, chsN k l.length = S := ⟨_, rfl⟩
        have hri := chs_rises k l.length
        have hrsg := chsN_rsg k l.length
        have hlj := chsN_len k l.length
        rw [hS] at hri hrsg hlj CC0
        have CC := Lib.hid CC0
        have HRI := Lib.hid hri
        have HBD : Hid (∀ x ∈ S, (0 : Int) ≤ x ∧ x < l.length) := fun x hx => Rsg_mem hrsg x hx
        have HUP : Hid (bestT l t l.length (k + 1) = updT l t bst S) := by show _ = _; rw [bestT, hbst.out, hS]
        clear CC0 hri hrsg hS
        go_wp2_with (first | (go_at_call 44; refine (CC.out _).mono ?_; intro r_ w3 h3; obtain ⟨As, cs, rfl, ow3, hb3⟩ := h3.elim (n := S.length) rfl; have HB3 := Lib.hid (hB.trans (hb3.mono hz)); have hz3 := HB3.out.size; have HRS3 := Lib.hid ow3; have HBR3 := Lib.hid (own_below hown.out hb3); have hwo3 := hb3.size; clear h3 ow3 hb3) | (go_at_call 47; refine (c_marks _ _ _ _ S _ (zs_ownN HRS3.out) HBD.out hn (by omega)).mono ?_; rintro r_ w4 ⟨rfl, hR4, hb4⟩; have HR4 := Lib.hid hR4; have HB4 := Lib.hid (HB3.out.trans (hb4.mono hz3)); have hz4 := HB4.out.size; have HRS4 := Lib.hid (own_below HRS3.out hb4); have HBR4 := Lib.hid (own_below HBR3.out hb4); have hwo4 := Nat.le_trans hwo3 hb4.size; clear hR4 hb4))
        go_loopw [12, 43] (fun v i wr => ∃ j : Nat, j ≤ S.length ∧ i = .int .i64 j ∧ v = .bool (cloT (needsL l) S j) ∧ w4 = wr) (fun _ i _ => S.length - (intOf i).toNat)
        case atStart => exact ⟨0, Nat.zero_le _, rfl, rfl, rfl⟩
        case round =>
          obtain ⟨j, hj, rfl, rfl, rfl⟩ := hrel
          by_cases hlt2 : j < S.length
          · have hy : S[j]? = some S[j] := List.getElem?_eq_getElem hlt2
            obtain ⟨hy0, hy1⟩ := HBD.out _ (List.mem_of_getElem? hy)
            obtain ⟨p, hp⟩ : ∃ p : Nat, S[j] = (p : Int) := ⟨S[j].toNat, by omega⟩
            rw [hp] at hy hy0 hy1
            have hpn : p < l.length := by omega
            obtain ⟨g1, cap1, hv1, hg1, hg2⟩ := HRS4.out.form (by omega)
            simp only [Value.slice.injEq, true_and] at hv1
            obtain ⟨rfl, rfl⟩ := hv1
            have kc := own_cell HRS4.out (j := j) (u := .int .i64 (p : Int)) (by rw [List.getElem?_map, hy]; rfl)
            obtain ⟨b, o, nm, lt, S2, cc, zz, hh, rfl, hb2', hx, hKK⟩ := les_all HA.out hpn
            obtain ⟨hb1', c0, c1, c2, c3, hzz⟩ := hKK _ HB4.out
            have HZZ := Lib.hid hzz
            have hN := needsL_at hx
            simp only at hN
            have hzl := HNL.out (p : Int)
            rw [hN] at hzl
            have HZB : Hid (∀ x ∈ zz, (0 : Int) ≤ x ∧ x < l.length) := fun x hx' => HNB.out (p : Int) x (by rw [hN]; exact hx')
            have hst := cloT_step (N := needsL l) hy
            rw [hN] at hst
            have hjI : (j : Int) < (S.length : Int) := by omega
            have hpI : (p : Int) < (l.length : Int) := by omega
            clear hy hx hKK hzz hN hp c0 c1 c3
            cases hcl : cloT (needsL l) S j
            · have HE : Hid (cloT (needsL l) S (j + 1) = false) := by show _ = _; rw [hst, hcl, Bool.false_and]
              clear hst hcl
              go_wp2_with fail
              go_roundw
              case rel => first | exact ⟨j + 1, by omega, by go_num, by rw [HE.out], trivial⟩ | exact ⟨j + 1, by omega, by go_num, by rw [HE.out], rfl⟩
              case measure => simp [intOf]; omega
            · obtain ⟨r, hr⟩ : ∃ r, (zz.all fun x => decide (x ∈ S)) = r := ⟨_, rfl⟩
              have HRR := Lib.hid hr
              have HE : Hid (cloT (needsL l) S (j + 1) = r) := by show _ = _; rw [hst, hcl, hr, Bool.true_and]
              clear hst hcl hr
              go_wp2_with (go_at_call 48; refine (c_allIn _ _ _ _ _ zz S _ HRR.out _ HZZ.out HR4.out HZB.out hn hzl).mono ?_; rintro e w' ⟨rfl, rfl⟩)
              go_roundw
              case rel => first | exact ⟨j + 1, by omega, by go_num, by rw [HE.out], trivial⟩ | exact ⟨j + 1, by omega, by go_num, by rw [HE.out], rfl⟩
              case measure => simp [intOf]; omega
          · have hje : j = S.length := by omega
            subst hje
            obtain ⟨cl, hcl⟩ : ∃ r, cloB (needsL l) S = r := ⟨_, rfl⟩
            have hct := cloT_end (N := needsL l) (Nat.le_refl S.length)
            rw [hcl] at hct
            rw [hct]
            have HCLO := Lib.hid hcl
            obtain ⟨ty, hty⟩ : ∃ r, typB (knL l S) (bl t) = r := ⟨_, rfl⟩
            have HTY := Lib.hid hty
            have hhb := hrS_bd HOK.out S
            obtain ⟨H, hH⟩ : ∃ H, hrS l S = H := ⟨_, rfl⟩
            rw [hH] at hhb
            obtain ⟨hhl, hhu⟩ := hhb
            have HH := Lib.hid hH
            have CH := Lib.hid (fun (W : World) (hW : Below w.heap.size w W) (hr : W.ownsRow wo.heap.size 2 1 (.slice As S.length cs) S.length (S.map (Value.int .i64))) => c_hours A _ _ c _ cs l S W (HA.out.later hW) (zs_ownN hr) HOK.out HBD.out (by omega))
            rw [hH] at CH
            clear hcl hct hty hH
            cases bst with
            | none =>
              have hfd' := hfd.out
              simp only [Option.isSome_none, Option.getD_none] at *
              subst hfd'
              cases cl
              · have HE : Hid (bestT l t l.length (k + 1) = none) := HUP.out.trans (upd_skip3 HCLO.out)
                go_wp2_with fail
                go_roundw
                case rel => first | exact ⟨k + 1, none, H0, false, by omega, by go_num, rfl, rfl, rfl, Lib.hid (fun b hb => by cases hb), HB4.out, HE, HBR4⟩ | ((repeat apply Exists.intro); exact ⟨⟨k + 1, none, H0, false, by omega, by go_num, rfl, rfl, rfl, Lib.hid (fun b hb => by cases hb), HB4.out, HE, HBR4⟩, rfl⟩)
                case measure => simp [intOf]; omega
              · cases ty
                · have HE : Hid (bestT l t l.length (k + 1) = none) := HUP.out.trans (upd_skip2 HTY.out)
                  go_wp2_with (first | (go_at_call 43; refine (c_known _ _ _ _ _ _ l S _ (HA.out.later HB4.out) (zs_ownN HRS4.out) HRI.out HSZ.out hn (by omega)).mono ?_; rintro r_ w5 ⟨rfl, hR5, hb5⟩; have HB5 := Lib.hid (HB4.out.trans (hb5.mono hz4)); have hz5 := HB5.out.size; have HR5 := Lib.hid hR5; have HRS5 := Lib.hid (own_below HRS4.out hb5); have HBR5 := Lib.hid (own_below HBR4.out hb5); clear hR5 hb5) | (go_at_call 42; refine (c_typable _ _ _ _ HTY.out _ HR5.out ht).mono ?_; rintro r_ w6 ⟨rfl, nd, rfl⟩))
                  go_roundw
                  case rel => first | exact ⟨k + 1, none, H0, false, by omega, by go_num, rfl, rfl, rfl, Lib.hid (fun b hb => by cases hb), below_drewN HB5.out _, HE, own_below HBR5.out (below_drewN (Below.refl _ _) _)⟩ | ((repeat apply Exists.intro); exact ⟨⟨k + 1, none, H0, false, by omega, by go_num, rfl, rfl, rfl, Lib.hid (fun b hb => by cases hb), below_drewN HB5.out _, HE, own_below HBR5.out (below_drewN (Below.refl _ _) _)⟩, rfl⟩)
                  case measure => simp [intOf]; omega
                · have HE : Hid (bestT l t l.length (k + 1) = some S) := HUP.out.trans (upd_first HTY.out HCLO.out)
                  go_wp2_with (first | (go_at_call 43; refine (c_known _ _ _ _ _ _ l S _ (HA.out.later HB4.out) (zs_ownN HRS4.out) HRI.out HSZ.out hn (by omega)).mono ?_; rintro r_ w5 ⟨rfl, hR5, hb5⟩; have HB5 := Lib.hid (HB4.out.trans (hb5.mono hz4)); have hz5 := HB5.out.size; have HR5 := Lib.hid hR5; have HRS5 := Lib.hid (own_below HRS4.out hb5); have HBR5 := Lib.hid (own_below HBR4.out hb5); clear hR5 hb5) | (go_at_call 42; refine (c_typable _ _ _ _ HTY.out _ HR5.out ht).mono ?_; rintro r_ w6 ⟨rfl, nd, rfl⟩) | (go_at_call 53; refine (CH.out _ (below_drewN HB5.out _) (own_below HRS5.out (below_drewN (Below.refl _ _) _))).mono ?_; rintro e w' ⟨rfl, rfl⟩))
                  go_roundw
                  case rel => first | exact ⟨k + 1, some S, H, true, by omega, by go_num, rfl, rfl, rfl, Lib.hid (fun b' hb' => by injection hb' with hb'; subst hb'; exact HH.out.symm), below_drewN HB5.out _, HE, own_base (own_below HRS5.out (below_drewN (Below.refl _ _) _)) hz⟩ | ((repeat apply Exists.intro); exact ⟨⟨k + 1, some S, H, true, by omega, by go_num, rfl, rfl, rfl, Lib.hid (fun b' hb' => by injection hb' with hb'; subst hb'; exact HH.out.symm), below_drewN HB5.out _, HE, own_base (own_below HRS5.out (below_drewN (Below.refl _ _) _)) hz⟩, rfl⟩)
                  case measure => simp [intOf]; omega
            | some b =>
              have hfd' := hfd.out
              simp only [Option.isSome_some, Option.getD_some] at *
              subst hfd'
              have hbb := hrS_bd HOK.out b
              have hHb := (hh0.out b rfl).symm
              rw [hHb] at hbb
              obtain ⟨hb0, hb1⟩ := hbb
              have HHB := Lib.hid hHb
              clear hHb
              cases cl
              · have HE : Hid (bestT l t l.length (k + 1) = some b) := HUP.out.trans (upd_skip3 HCLO.out)
                go_wp2_with fail
                go_roundw
                case rel => first | exact ⟨k + 1, some b, H0, true, by omega, by go_num, rfl, rfl, rfl, Lib.hid (fun b' hb' => by injection hb' with hb'; subst hb'; exact HHB.out.symm), HB4.out, HE, HBR4⟩ | ((repeat apply Exists.intro); exact ⟨⟨k + 1, some b, H0, true, by omega, by go_num, rfl, rfl, rfl, Lib.hid (fun b' hb' => by injection hb' with hb'; subst hb'; exact HHB.out.symm), HB4.out, HE, HBR4⟩, rfl⟩)
                case measure => simp [intOf]; omega
              · cases ty
                · have HE : Hid (bestT l t l.length (k + 1) = some b) := HUP.out.trans (upd_skip2 HTY.out)
                  go_wp2_with (first | (go_at_call 43; refine (c_known _ _ _ _ _ _ l S _ (HA.out.later HB4.out) (zs_ownN HRS4.out) HRI.out HSZ.out hn (by omega)).mono ?_; rintro r_ w5 ⟨rfl, hR5, hb5⟩; have HB5 := Lib.hid (HB4.out.trans (hb5.mono hz4)); have hz5 := HB5.out.size; have HR5 := Lib.hid hR5; have HRS5 := Lib.hid (own_below HRS4.out hb5); have HBR5 := Lib.hid (own_below HBR4.out hb5); clear hR5 hb5) | (go_at_call 42; refine (c_typable _ _ _ _ HTY.out _ HR5.out ht).mono ?_; rintro r_ w6 ⟨rfl, nd, rfl⟩))
                  go_roundw
                  case rel => first | exact ⟨k + 1, some b, H0, true, by omega, by go_num, rfl, rfl, rfl, Lib.hid (fun b' hb' => by injection hb' with hb'; subst hb'; exact HHB.out.symm), below_drewN HB5.out _, HE, own_below HBR5.out (below_drewN (Below.refl _ _) _)⟩ | ((repeat apply Exists.intro); exact ⟨⟨k + 1, some b, H0, true, by omega, by go_num, rfl, rfl, rfl, Lib.hid (fun b' hb' => by injection hb' with hb'; subst hb'; exact HHB.out.symm), below_drewN HB5.out _, HE, own_below HBR5.out (below_drewN (Below.refl _ _) _)⟩, rfl⟩)
                  case measure => simp [intOf]; omega
                · by_cases hls : H < H0
                  · have hne : (H == H0) = false := by simp; omega
                    have HE : Hid (bestT l t l.length (k + 1) = some S) := HUP.out.trans (upd_less HTY.out HCLO.out (by rw [HH.out, HHB.out]; exact hls))
                    go_wp2_with (first | (go_at_call 43; refine (c_known _ _ _ _ _ _ l S _ (HA.out.later HB4.out) (zs_ownN HRS4.out) HRI.out HSZ.out hn (by omega)).mono ?_; rintro r_ w5 ⟨rfl, hR5, hb5⟩; have HB5 := Lib.hid (HB4.out.trans (hb5.mono hz4)); have hz5 := HB5.out.size; have HR5 := Lib.hid hR5; have HRS5 := Lib.hid (own_below HRS4.out hb5); have HBR5 := Lib.hid (own_below HBR4.out hb5); clear hR5 hb5) | (go_at_call 42; refine (c_typable _ _ _ _ HTY.out _ HR5.out ht).mono ?_; rintro r_ w6 ⟨rfl, nd, rfl⟩) | (go_at_call 53; refine (CH.out _ (below_drewN HB5.out _) (own_below HRS5.out (below_drewN (Below.refl _ _) _))).mono ?_; rintro e w' ⟨rfl, rfl⟩))
                    go_roundw
                    case rel => first | exact ⟨k + 1, some S, H, true, by omega, by go_num, rfl, rfl, rfl, Lib.hid (fun b' hb' => by injection hb' with hb'; subst hb'; exact HH.out.symm), below_drewN HB5.out _, HE, own_base (own_below HRS5.out (below_drewN (Below.refl _ _) _)) hz⟩ | ((repeat apply Exists.intro); exact ⟨⟨k + 1, some S, H, true, by omega, by go_num, rfl, rfl, rfl, Lib.hid (fun b' hb' => by injection hb' with hb'; subst hb'; exact HH.out.symm), below_drewN HB5.out _, HE, own_base (own_below HRS5.out (below_drewN (Below.refl _ _) _)) hz⟩, rfl⟩)
                    case measure => simp [intOf]; omega
                  · by_cases heq : H = H0
                    · have hne : (H == H0) = true := by simp [heq]
                      have hHE : Hid (hrS l S = hrS l b) := by show _ = _; rw [HH.out, HHB.out]; exact heq
                      clear heq
                      by_cases hl1 : S.length < b.length
                      · have hl1I : (S.length : Int) < (b.length : Int) := by omega
                        have hl1d : decide ((S.length : Int) < (b.length : Int)) = true := decide_eq_true hl1I
                        have HE : Hid (bestT l t l.length (k + 1) = some S) := HUP.out.trans (upd_tie HTY.out HCLO.out hHE.out (by rw [less_of]; simp [hl1]))
                        go_wp2_with (first | (go_at_call 43; refine (c_known _ _ _ _ _ _ l S _ (HA.out.later HB4.out) (zs_ownN HRS4.out) HRI.out HSZ.out hn (by omega)).mono ?_; rintro r_ w5 ⟨rfl, hR5, hb5⟩; have HB5 := Lib.hid (HB4.out.trans (hb5.mono hz4)); have hz5 := HB5.out.size; have HR5 := Lib.hid hR5; have HRS5 := Lib.hid (own_below HRS4.out hb5); have HBR5 := Lib.hid (own_below HBR4.out hb5); clear hR5 hb5) | (go_at_call 42; refine (c_typable _ _ _ _ HTY.out _ HR5.out ht).mono ?_; rintro r_ w6 ⟨rfl, nd, rfl⟩) | (go_at_call 53; refine (CH.out _ (below_drewN HB5.out _) (own_below HRS5.out (below_drewN (Below.refl _ _) _))).mono ?_; rintro e w' ⟨rfl, rfl⟩))
                        go_roundw
                        case rel => first | exact ⟨k + 1, some S, H, true, by omega, by go_num, rfl, rfl, rfl, Lib.hid (fun b' hb' => by injection hb' with hb'; subst hb'; exact HH.out.symm), below_drewN HB5.out _, HE, own_base (own_below HRS5.out (below_drewN (Below.refl _ _) _)) hz⟩ | ((repeat apply Exists.intro); exact ⟨⟨k + 1, some S, H, true, by omega, by go_num, rfl, rfl, rfl, Lib.hid (fun b' hb' => by injection hb' with hb'; subst hb'; exact HH.out.symm), below_drewN HB5.out _, HE, own_base (own_below HRS5.out (below_drewN (Below.refl _ _) _)) hz⟩, rfl⟩)
                        case measure => simp [intOf]; omega
                      · have hl1I : ¬ (S.length : Int) < (b.length : Int) := by omega
                        have hl1d : decide ((S.length : Int) < (b.length : Int)) = false := decide_eq_false hl1I
                        by_cases hl2 : S.length = b.length
                        · have hl2d : ((S.length : Int) == (b.length : Int)) = true := by simp [hl2]
                          have HL2 := Lib.hid hl2
                          obtain ⟨cp, hcp⟩ : ∃ z, cmpZ S b = z := ⟨_, rfl⟩
                          have HCP := Lib.hid hcp
                          clear hl2 hcp
                          by_cases hc0 : cp < 0
                          · have HE : Hid (bestT l t l.length (k + 1) = some S) := HUP.out.trans (upd_tie HTY.out HCLO.out hHE.out (by rw [less_of, HCP.out]; simp [HL2.out, hc0]))
                            go_wp2_with (first | (go_at_call 43; refine (c_known _ _ _ _ _ _ l S _ (HA.out.later HB4.out) (zs_ownN HRS4.out) HRI.out HSZ.out hn (by omega)).mono ?_; rintro r_ w5 ⟨rfl, hR5, hb5⟩; have HB5 := Lib.hid (HB4.out.trans (hb5.mono hz4)); have hz5 := HB5.out.size; have HR5 := Lib.hid hR5; have HRS5 := Lib.hid (own_below HRS4.out hb5); have HBR5 := Lib.hid (own_below HBR4.out hb5); clear hR5 hb5) | (go_at_call 42; refine (c_typable _ _ _ _ HTY.out _ HR5.out ht).mono ?_; rintro r_ w6 ⟨rfl, nd, rfl⟩) | (go_at_call 53; refine (CH.out _ (below_drewN HB5.out _) (own_below HRS5.out (below_drewN (Below.refl _ _) _))).mono ?_; rintro e w' ⟨rfl, rfl⟩) | (go_at_call 54; refine (c_compareNumbers _ _ _ _ _ _ S b _ (zs_ownN (own_below HRS5.out (below_drewN (Below.refl _ _) _))) (zs_ownN (own_below HBR5.out (below_drewN (Below.refl _ _) _))) (by omega) (by omega)).mono ?_; rw [HCP.out]; rintro e w' ⟨rfl, nd2, rfl⟩))
                            go_roundw
                            case rel => first | exact ⟨k + 1, some S, H, true, by omega, by go_num, rfl, rfl, rfl, Lib.hid (fun b' hb' => by injection hb' with hb'; subst hb'; exact HH.out.symm), (by first | exact below_drewN (below_drewN HB5.out _) _ | exact below_drewN HB5.out _), HE, (by first | exact own_base (own_below (own_below HRS5.out (below_drewN (Below.refl _ _) _)) (below_drewN (Below.refl _ _) _)) hz | exact own_base (own_below HRS5.out (below_drewN (Below.refl _ _) _)) hz)⟩ | ((repeat apply Exists.intro); exact ⟨⟨k + 1, some S, H, true, by omega, by go_num, rfl, rfl, rfl, Lib.hid (fun b' hb' => by injection hb' with hb'; subst hb'; exact HH.out.symm), (by first | exact below_drewN (below_drewN HB5.out _) _ | exact below_drewN HB5.out _), HE, (by first | exact own_base (own_below (own_below HRS5.out (below_drewN (Below.refl _ _) _)) (below_drewN (Below.refl _ _) _)) hz | exact own_base (own_below HRS5.out (below_drewN (Below.refl _ _) _)) hz)⟩, rfl⟩)
                            case measure => simp [intOf]; omega
                          · have HE : Hid (bestT l t l.length (k + 1) = some b) := HUP.out.trans (upd_no (by rw [HH.out, HHB.out]; exact hls) (.inl (by rw [less_of, HCP.out]; simp [hc0, HL2.out])))
                            go_wp2_with (first | (go_at_call 43; refine (c_known _ _ _ _ _ _ l S _ (HA.out.later HB4.out) (zs_ownN HRS4.out) HRI.out HSZ.out hn (by omega)).mono ?_; rintro r_ w5 ⟨rfl, hR5, hb5⟩; have HB5 := Lib.hid (HB4.out.trans (hb5.mono hz4)); have hz5 := HB5.out.size; have HR5 := Lib.hid hR5; have HRS5 := Lib.hid (own_below HRS4.out hb5); have HBR5 := Lib.hid (own_below HBR4.out hb5); clear hR5 hb5) | (go_at_call 42; refine (c_typable _ _ _ _ HTY.out _ HR5.out ht).mono ?_; rintro r_ w6 ⟨rfl, nd, rfl⟩) | (go_at_call 53; refine (CH.out _ (below_drewN HB5.out _) (own_below HRS5.out (below_drewN (Below.refl _ _) _))).mono ?_; rintro e w' ⟨rfl, rfl⟩) | (go_at_call 54; refine (c_compareNumbers _ _ _ _ _ _ S b _ (zs_ownN (own_below HRS5.out (below_drewN (Below.refl _ _) _))) (zs_ownN (own_below HBR5.out (below_drewN (Below.refl _ _) _))) (by omega) (by omega)).mono ?_; rw [HCP.out]; rintro e w' ⟨rfl, nd2, rfl⟩))
                            go_roundw
                            case rel => first | exact ⟨k + 1, some b, H0, true, by omega, by go_num, rfl, rfl, rfl, Lib.hid (fun b' hb' => by injection hb' with hb'; subst hb'; exact HHB.out.symm), (by first | exact below_drewN (below_drewN HB5.out _) _ | exact below_drewN HB5.out _), HE, (by first | exact own_below (own_below HBR5.out (below_drewN (Below.refl _ _) _)) (below_drewN (Below.refl _ _) _) | exact own_below HBR5.out (below_drewN (Below.refl _ _) _))⟩ | ((repeat apply Exists.intro); exact ⟨⟨k + 1, some b, H0, true, by omega, by go_num, rfl, rfl, rfl, Lib.hid (fun b' hb' => by injection hb' with hb'; subst hb'; exact HHB.out.symm), (by first | exact below_drewN (below_drewN HB5.out _) _ | exact below_drewN HB5.out _), HE, (by first | exact own_below (own_below HBR5.out (below_drewN (Below.refl _ _) _)) (below_drewN (Below.refl _ _) _) | exact own_below HBR5.out (below_drewN (Below.refl _ _) _))⟩, rfl⟩)
                            case measure => simp [intOf]; omega
                        · have hl2d : ((S.length : Int) == (b.length : Int)) = false := by simp; omega
                          have HE : Hid (bestT l t l.length (k + 1) = some b) := HUP.out.trans (upd_no (by rw [HH.out, HHB.out]; exact hls) (.inl (by rw [less_of]; simp [hl1, hl2])))
                          clear hl2
                          go_wp2_with (first | (go_at_call 43; refine (c_known _ _ _ _ _ _ l S _ (HA.out.later HB4.out) (zs_ownN HRS4.out) HRI.out HSZ.out hn (by omega)).mono ?_; rintro r_ w5 ⟨rfl, hR5, hb5⟩; have HB5 := Lib.hid (HB4.out.trans (hb5.mono hz4)); have hz5 := HB5.out.size; have HR5 := Lib.hid hR5; have HRS5 := Lib.hid (own_below HRS4.out hb5); have HBR5 := Lib.hid (own_below HBR4.out hb5); clear hR5 hb5) | (go_at_call 42; refine (c_typable _ _ _ _ HTY.out _ HR5.out ht).mono ?_; rintro r_ w6 ⟨rfl, nd, rfl⟩) | (go_at_call 53; refine (CH.out _ (below_drewN HB5.out _) (own_below HRS5.out (below_drewN (Below.refl _ _) _))).mono ?_; rintro e w' ⟨rfl, rfl⟩))
                          go_roundw
                          case rel => first | exact ⟨k + 1, some b, H0, true, by omega, by go_num, rfl, rfl, rfl, Lib.hid (fun b' hb' => by injection hb' with hb'; subst hb'; exact HHB.out.symm), below_drewN HB5.out _, HE, own_below HBR5.out (below_drewN (Below.refl _ _) _)⟩ | ((repeat apply Exists.intro); exact ⟨⟨k + 1, some b, H0, true, by omega, by go_num, rfl, rfl, rfl, Lib.hid (fun b' hb' => by injection hb' with hb'; subst hb'; exact HHB.out.symm), below_drewN HB5.out _, HE, own_below HBR5.out (below_drewN (Below.refl _ _) _)⟩, rfl⟩)
                          case measure => simp [intOf]; omega
                    · have hne : (H == H0) = false := by simp [heq]
                      have HE : Hid (bestT l t l.length (k + 1) = some b) := HUP.out.trans (upd_no (by rw [HH.out, HHB.out]; exact hls) (.inr (by rw [HH.out, HHB.out]; exact heq)))
                      clear heq
                      go_wp2_with (first | (go_at_call 43; refine (c_known _ _ _ _ _ _ l S _ (HA.out.later HB4.out) (zs_ownN HRS4.out) HRI.out HSZ.out hn (by omega)).mono ?_; rintro r_ w5 ⟨rfl, hR5, hb5⟩; have HB5 := Lib.hid (HB4.out.trans (hb5.mono hz4)); have hz5 := HB5.out.size; have HR5 := Lib.hid hR5; have HRS5 := Lib.hid (own_below HRS4.out hb5); have HBR5 := Lib.hid (own_below HBR4.out hb5); clear hR5 hb5) | (go_at_call 42; refine (c_typable _ _ _ _ HTY.out _ HR5.out ht).mono ?_; rintro r_ w6 ⟨rfl, nd, rfl⟩) | (go_at_call 53; refine (CH.out _ (below_drewN HB5.out _) (own_below HRS5.out (below_drewN (Below.refl _ _) _))).mono ?_; rintro e w' ⟨rfl, rfl⟩))
                      go_roundw
                      case rel => first | exact ⟨k + 1, some b, H0, true, by omega, by go_num, rfl, rfl, rfl, Lib.hid (fun b' hb' => by injection hb' with hb'; subst hb'; exact HHB.out.symm), below_drewN HB5.out _, HE, own_below HBR5.out (below_drewN (Below.refl _ _) _)⟩ | ((repeat apply Exists.intro); exact ⟨⟨k + 1, some b, H0, true, by omega, by go_num, rfl, rfl, rfl, Lib.hid (fun b' hb' => by injection hb' with hb'; subst hb'; exact HHB.out.symm), below_drewN HB5.out _, HE, own_below HBR5.out (below_drewN (Below.refl _ _) _)⟩, rfl⟩)
                      case measure => simp [intOf]; omega
      · have hke : k = K := by omega
        subst hke
        have hltI : ¬ (k : Int) < (k : Int) := by omega
        have hor := HOR.out
        rw [HK.out, hbst.out] at hor
        cases bst with
        | none =>
          have hfd' := hfd.out
          simp only [Option.isSome_none, Option.getD_none] at *
          subst hfd'
          rcases hor with ⟨_, e1, e2⟩ | ⟨b, hb, _⟩
          · have E1 := Lib.hid e1
            have E2 := Lib.hid e2
            clear e1 e2
            go_wp2_with fail
            go_ret2
            rw [E1.out, E2.out]
            exact IntsPost.err hB
          · cases hb
        | some b =>
          have hfd' := hfd.out
          simp only [Option.isSome_some, Option.getD_some] at *
          subst hfd'
          rcases hor with ⟨hb, _⟩ | ⟨b', hb, e1, e2⟩
          · cases hb
          · injection hb with hb
            subst hb
            have E1 := Lib.hid e1
            have E2 := Lib.hid e2
            clear e1 e2
            go_wp2_with fail
            go_ret2
            rw [E1.out, E2.out]
            exact IntsPost.mk_ rfl hown.out hB
end Go.Proofs.Ytajcdaclbammaaa
