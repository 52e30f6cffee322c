/- Contracts: LessonOrder. -/
import Derived.Test.YtajcdaclbammaaaNx
import Derived.Test.YtajcdaclbammaaaCi2
namespace Go.Proofs.Ytajcdaclbammaaa
open Go.RowKit Go.BigFrame
attribute [local go_sem] sub_cell sub_frozen drewN_setCell

def hrL (l : List TLesson) (k : Int) : Int := (l.getD k.toNat ledef).2.2.2
theorem hrL_at {l : List TLesson} {p : Nat} {x : TLesson} (h : l[p]? = some x) : hrL l (p : Int) = x.2.2.2 := by simp [hrL, List.getD_eq_getElem?_getD, h]
theorem firstI_ge (p : Nat → Bool) (n : Nat) : -1 ≤ firstI p n := by
  induction n with
  | zero => simp [firstI]
  | succ n ih =>
    simp only [firstI]
    split
    · omega
    · split <;> omega
theorem firstI_neg {p : Nat → Bool} {n : Nat} (h : firstI p n < 0) : ∀ k, k < n → p k = false := by
  induction n with
  | zero => intro k hk; omega
  | succ n ih =>
    simp only [firstI] at h
    split at h
    · omega
    · rename_i h1
      split at h
      · omega
      · rename_i h2
        intro k hk
        by_cases e : k = n
        · subst e; simpa using h2
        · exact ih (by omega) k (by omega)
theorem no_circle {l : List TLesson} (hok : lesB l = true) (h : cirN l < 0) : ∀ i : Int, ¬ Rch (needsL l) i i := by
  intro i hi
  obtain ⟨h0, h1⟩ := hi.bd (needs_bd hok)
  have := firstI_neg h i.toNat (by omega)
  have h2 : selfB (needsL l) i.toNat = true := selfB_iff.2 (by rw [show ((i.toNat : Nat) : Int) = i by omega]; exact hi)
  rw [this] at h2; cases h2
section
variable {can : Int → Bool} {hr : Int → Int} {k : Nat} {q : Int}
theorem best_no (h : can (k : Int) = false) : bestL can hr (k + 1) = bestL can hr k := by rw [bestL, if_neg (by simp [h])]
theorem best_first (h : can (k : Int) = true) (hb : bestL can hr k < 0) : bestL can hr (k + 1) = k := by rw [bestL, if_pos ⟨h, .inl hb⟩]
theorem best_less (h : can (k : Int) = true) (hq : bestL can hr k = q) (hl : hr (k : Int) < hr q) : bestL can hr (k + 1) = k := by rw [bestL, if_pos ⟨h, .inr (by rw [hq]; exact hl)⟩]
theorem best_same (hq : bestL can hr k = q) (h0 : 0 ≤ q) (hl : ¬ hr (k : Int) < hr q) : bestL can hr (k + 1) = q := by
  rw [bestL, hq, if_neg]
  rintro ⟨_, h | h⟩
  · omega
  · exact hl h
end
noncomputable def ordC (l : List TLesson) : Int := if lesB l = true then (if 0 ≤ cirN l then 9 else 0) else 1
noncomputable def ordZ (l : List TLesson) : List Int := if ordC l = 0 then ordL (needsL l) (hrL l) l.length l.length else []
theorem ord_cases (l : List TLesson) : (lesB l = false ∧ ordC l = 1 ∧ ordZ l = []) ∨ (lesB l = true ∧ 0 ≤ cirN l ∧ ordC l = 9 ∧ ordZ l = []) ∨ (lesB l = true ∧ cirN l < 0 ∧ ordC l = 0 ∧ ordZ l = ordL (needsL l) (hrL l) l.length l.length) := by
  cases g : lesB l
  · left; simp [ordC, ordZ, g]
  · by_cases h : 0 ≤ cirN l
    · right; left; simp [ordC, ordZ, g, h]
    · right; right; simp [ordC, ordZ, g, h]; omega
theorem ordZ_len (l : List TLesson) : (ordZ l).length ≤ 1048576 := by
  rcases ord_cases l with ⟨_, _, e⟩ | ⟨_, _, _, e⟩ | ⟨g, _, _, e⟩ <;> rw [e]
  · simp
  · simp
  · rw [ordL_len]; have := les_len g; omega
set_option maxRecDepth 20000 in
set_option maxHeartbeats 8000000 in
theorem c_sLessonOrder (A : Option Addr) (n c : Nat) (l : List TLesson) (w : World) (ha : Ls w A n l) (hsz : LsB l) (hn : n ≤ 1048576) :
    Calls Try.prog 25 #[.slice A n c] w (IntsPost (ordZ l) (ordC l) w) := by
  have hl := ha.len
  subst hl
  have HA := Lib.hid ha
  have HSZ := Lib.hid hsz
  clear ha hsz
  rcases ord_cases l with ⟨g, e1, e2⟩ | ⟨g, g2, e1, e2⟩ | ⟨g, g2, e1, e2⟩ <;> rw [e1, e2] <;> clear e1 e2 <;> have G := Lib.hid g
  · clear g
    go_enter Try.func25, Try.ntmps25
    go_wp2_with (go_at_call 30; refine (c_l18Ok _ _ _ l _ G.out _ HA.out HSZ.out hn).mono ?_; rintro r_ w1 ⟨rfl, hb1⟩)
    go_ret2
    exact IntsPost.err hb1
  · clear g
    obtain ⟨cv, hcv⟩ : ∃ v, cirN l = v := ⟨_, rfl⟩
    rw [hcv] at g2
    have HCV := Lib.hid hcv
    clear hcv
    go_enter Try.func25, Try.ntmps25
    go_wp2_with (first | (go_at_call 30; refine (c_l18Ok _ _ _ l _ G.out _ HA.out HSZ.out hn).mono ?_; rintro r_ w1 ⟨rfl, hb1⟩) | (go_at_call 31; refine (c_l18Circle _ _ _ l _ (HA.out.later hb1) G.out).mono ?_; rw [HCV.out]; rintro r_ w2 ⟨rfl, hb2⟩))
    go_ret2
    exact IntsPost.err (hb1.trans (hb2.mono hb1.size))
  · have h12 := les_len g
    have HNB := Lib.hid (needs_bd g)
    have HAC := Lib.hid (no_circle g g2)
    have HZB0 : Hid (∀ k : Int, (needsL l k).length ≤ 1048576) := fun k => Nat.le_trans (needs_len g k) hn
    obtain ⟨cv, hcv⟩ : ∃ v, cirN l = v := ⟨_, rfl⟩
    rw [hcv] at g2
    have hcv2 : ¬ (0 : Int) ≤ cv := by omega
    have HCV := Lib.hid hcv
    clear hcv g g2
    go_enter Try.func25, Try.ntmps25
    go_wp2_with (first | (go_at_call 30; refine (c_l18Ok _ _ _ l _ G.out _ HA.out HSZ.out hn).mono ?_; rintro r_ w1 ⟨rfl, hb1⟩) | (go_at_call 31; refine (c_l18Circle _ _ _ l _ (HA.out.later hb1) G.out).mono ?_; rw [HCV.out]; rintro r_ w2 ⟨rfl, hb2⟩; have HB2 := Lib.hid (hb1.trans (hb2.mono hb1.size))))
    have hz2 := HB2.out.size
    go_loopw [4] (fun v wr => ∃ j : Nat, j ≤ l.length ∧ Below w.heap.size w wr ∧ Hid (wr.ownsRow w.heap.size 2 1 v j ((ordL (needsL l) (hrL l) l.length j).map (Value.int .i64)))) (fun v _ => l.length - lenV v)
    case atStart => exact ⟨0, Nat.zero_le _, by have hB2 := HB2.out; (repeat' (first | (with_reducible exact Below.refl _ _) | (with_reducible assumption) | (with_reducible refine below_drewN ?_ _) | (with_reducible refine Below.drew ?_) | (with_reducible refine Below.alloc ?_ ?_ _) | (with_reducible refine Below.setCell ?_ ?_ _) | go_size)), own_base (World.ownsRow_made w2 #[] 0 (Nat.le_refl _) (by simp [maxLen]) rfl) hz2⟩
    case round =>
      obtain ⟨j, hj, hB, hown⟩ := hrel
      rename World => wo
      have hz := hB.size
      obtain ⟨A1, c1, hv⟩ := own_slice hown.out
      subst hv
      by_cases hlt0 : j < l.length
      · go_wp2_with fail
        obtain ⟨S, hS⟩ : ∃ S, ordL (needsL l) (hrL l) l.length j = S := ⟨_, rfl⟩
        have HSL : Hid (S.length = j) := by show _ = _; rw [← hS, ordL_len]
        have HBEST : Hid (0 ≤ bestL (canB (needsL l) S) (hrL l) l.length) := by show _ ≤ _; rw [← hS]; exact ordL_best HNB.out HAC.out hlt0
        have HNX : Hid (ordL (needsL l) (hrL l) l.length (j + 1) = S ++ [bestL (canB (needsL l) S) (hrL l) l.length]) := by show _ = _; rw [← hS]; rfl
        have HOWN : Hid (wo.ownsRow w.heap.size 2 1 (.slice A1 j c1) j (S.map (Value.int .i64))) := by have := hown.out; rwa [hS] at this
        clear hS hown
        go_loopw [5, 6] (fun v i wr => ∃ k : Nat, k ≤ l.length ∧ i = .int .i64 k ∧ v = .int .i64 (bestL (canB (needsL l) S) (hrL l) k) ∧ Below wo.heap.size wo wr) (fun _ i _ => l.length - (intOf i).toNat)
        case atStart => exact ⟨0, Nat.zero_le _, rfl, rfl, Below.refl _ _⟩
        case round =>
          obtain ⟨k, hk, rfl, rfl, hBr⟩ := hrel
          have hzr := hBr.size
          have HBW := Lib.hid (hB.trans (hBr.mono hz))
          have HOW := Lib.hid (own_below HOWN.out hBr)
          by_cases hlt : k < l.length
          · obtain ⟨b, o, nm, lt, S2, cc, zz, hh, rfl, hb2', hx, hK⟩ := les_all HA.out hlt
            obtain ⟨hb1', _, _, _, c3, _⟩ := hK _ HBW.out
            have hHK := hrL_at hx
            simp only at hHK
            have HAW := Lib.hid (HA.out.later HBW.out)
            have HZW := Lib.hid (zs_ownN HOW.out)
            have HZB := Lib.hid (HZB0.out (k : Int))
            have hkI : (k : Int) < (l.length : Int) := by omega
            have hk0 : (0 : Int) ≤ (k : Int) := by omega
            obtain ⟨B, hBv⟩ : ∃ B, bestL (canB (needsL l) S) (hrL l) k = B := ⟨_, rfl⟩
            have hbd := bestL_bd (can := canB (needsL l) S) (hr := hrL l) k
            rw [hBv] at hbd ⊢
            obtain ⟨hbd1, hbd2⟩ := hbd
            cases hc : canB (needsL l) S (k : Int)
            · have HC := Lib.hid hc
              have HE : Hid (bestL (canB (needsL l) S) (hrL l) (k + 1) = B) := (best_no hc).trans hBv
              clear hc hx hK hHK hBv
              go_wp2_with fail
              refine wp_region_below (by kernel_rfl) (by kernel_rfl) ?_
              repeat (go_big_quiet_step ((go_at_call 46; refine qBg (c_l18Can _ _ _ _ _ _ _ _ _ _ HC.out _ (HAW.out.later (Later.h _)) (HZW.out.later (Later.h _)) hlt HZB.out (by omega) (by omega)) (by simp) ?_; intro w_ h_; first | exact h_ | exact h_.below | (subst h_; exact Below.refl _ _) | (subst h_; (repeat' (first | (with_reducible exact Below.refl _ _) | (with_reducible assumption) | (with_reducible refine below_drewN ?_ _) | (with_reducible refine Below.drew ?_) | (with_reducible refine Below.alloc ?_ ?_ _) | (with_reducible refine Below.setCell ?_ ?_ _) | go_size))) | (obtain ⟨n_, rfl⟩ := h_; (repeat' (first | (with_reducible exact Below.refl _ _) | (with_reducible assumption) | (with_reducible refine below_drewN ?_ _) | (with_reducible refine Below.drew ?_) | (with_reducible refine Below.alloc ?_ ?_ _) | (with_reducible refine Below.setCell ?_ ?_ _) | go_size))))))
              refine wpQuiet_nil ?_
              intro _ hw'
              obtain ⟨⟨w9, hb9⟩, hw''⟩ := hw'
              subst hw''
              have HB9 := Lib.hid (hBr.trans (hb9.mono hzr))
              go_wp2_with fail
              go_roundw
              case rel => exact ⟨k + 1, by omega, by go_num, by rw [HE.out], HB9.out⟩
              case measure => simp [intOf]; omega
            · have HC := Lib.hid hc
              by_cases hneg : B < 0
              · have HE : Hid (bestL (canB (needsL l) S) (hrL l) (k + 1) = (k : Int)) := best_first hc (by rw [hBv]; exact hneg)
                clear hc hx hK hHK hBv
                go_wp2_with fail
                refine wp_region_below (by kernel_rfl) (by kernel_rfl) ?_
                repeat (go_big_quiet_step ((go_at_call 46; refine qBg (c_l18Can _ _ _ _ _ _ _ _ _ _ HC.out _ (HAW.out.later (Later.h _)) (HZW.out.later (Later.h _)) hlt HZB.out (by omega) (by omega)) (by simp) ?_; intro w_ h_; first | exact h_ | exact h_.below | (subst h_; exact Below.refl _ _) | (subst h_; (repeat' (first | (with_reducible exact Below.refl _ _) | (with_reducible assumption) | (with_reducible refine below_drewN ?_ _) | (with_reducible refine Below.drew ?_) | (with_reducible refine Below.alloc ?_ ?_ _) | (with_reducible refine Below.setCell ?_ ?_ _) | go_size))) | (obtain ⟨n_, rfl⟩ := h_; (repeat' (first | (with_reducible exact Below.refl _ _) | (with_reducible assumption) | (with_reducible refine below_drewN ?_ _) | (with_reducible refine Below.drew ?_) | (with_reducible refine Below.alloc ?_ ?_ _) | (with_reducible refine Below.setCell ?_ ?_ _) | go_size))))))
                refine wpQuiet_nil ?_
                intro _ hw'
                obtain ⟨⟨w9, hb9⟩, hw''⟩ := hw'
                subst hw''
                have HB9 := Lib.hid (hBr.trans (hb9.mono hzr))
                go_wp2_with fail
                go_roundw
                case rel => exact ⟨k + 1, by omega, by go_num, by rw [HE.out], HB9.out⟩
                case measure => simp [intOf]; omega
              · obtain ⟨q, rfl⟩ : ∃ q : Nat, B = q := ⟨B.toNat, by omega⟩
                have hqn : q < l.length := by omega
                obtain ⟨nm2, lt2, S3, cc2, z2, hq2, _, hx2, hK2⟩ := les_allB HA.out hqn
                obtain ⟨_, _, _, _, d3, _⟩ := hK2 _ HBW.out
                have hHQ := hrL_at hx2
                simp only at hHQ
                have hqI : (q : Int) < (l.length : Int) := by omega
                have hq0 : (0 : Int) ≤ (q : Int) := by omega
                have hqd : decide ((q : Int) < 0) = false := decide_eq_false (by omega)
                by_cases hless : hh < hq2
                · have HE : Hid (bestL (canB (needsL l) S) (hrL l) (k + 1) = (k : Int)) := best_less hc hBv (by rw [hHK, hHQ]; exact hless)
                  clear hc hx hK hHK hBv hx2 hK2 hHQ
                  go_wp2_with fail
                  refine wp_region_below (by kernel_rfl) (by kernel_rfl) ?_
                  repeat (go_big_quiet_step ((go_at_call 46; refine qBg (c_l18Can _ _ _ _ _ _ _ _ _ _ HC.out _ (HAW.out.later (Later.h _)) (HZW.out.later (Later.h _)) hlt HZB.out (by omega) (by omega)) (by simp) ?_; intro w_ h_; first | exact h_ | exact h_.below | (subst h_; exact Below.refl _ _) | (subst h_; (repeat' (first | (with_reducible exact Below.refl _ _) | (with_reducible assumption) | (with_reducible refine below_drewN ?_ _) | (with_reducible refine Below.drew ?_) | (with_reducible refine Below.alloc ?_ ?_ _) | (with_reducible refine Below.setCell ?_ ?_ _) | go_size))) | (obtain ⟨n_, rfl⟩ := h_; (repeat' (first | (with_reducible exact Below.refl _ _) | (with_reducible assumption) | (with_reducible refine below_drewN ?_ _) | (with_reducible refine Below.drew ?_) | (with_reducible refine Below.alloc ?_ ?_ _) | (with_reducible refine Below.setCell ?_ ?_ _) | go_size))))))
                  refine wpQuiet_nil ?_
                  intro _ hw'
                  obtain ⟨⟨w9, hb9⟩, hw''⟩ := hw'
                  subst hw''
                  have HB9 := Lib.hid (hBr.trans (hb9.mono hzr))
                  go_wp2_with fail
                  go_roundw
                  case rel => exact ⟨k + 1, by omega, by go_num, by rw [HE.out], HB9.out⟩
                  case measure => simp [intOf]; omega
                · have HE : Hid (bestL (canB (needsL l) S) (hrL l) (k + 1) = (q : Int)) := best_same hBv (by omega) (by rw [hHK, hHQ]; exact hless)
                  clear hc hx hK hHK hBv hx2 hK2 hHQ
                  go_wp2_with fail
                  refine wp_region_below (by kernel_rfl) (by kernel_rfl) ?_
                  repeat (go_big_quiet_step ((go_at_call 46; refine qBg (c_l18Can _ _ _ _ _ _ _ _ _ _ HC.out _ (HAW.out.later (Later.h _)) (HZW.out.later (Later.h _)) hlt HZB.out (by omega) (by omega)) (by simp) ?_; intro w_ h_; first | exact h_ | exact h_.below | (subst h_; exact Below.refl _ _) | (subst h_; (repeat' (first | (with_reducible exact Below.refl _ _) | (with_reducible assumption) | (with_reducible refine below_drewN ?_ _) | (with_reducible refine Below.drew ?_) | (with_reducible refine Below.alloc ?_ ?_ _) | (with_reducible refine Below.setCell ?_ ?_ _) | go_size))) | (obtain ⟨n_, rfl⟩ := h_; (repeat' (first | (with_reducible exact Below.refl _ _) | (with_reducible assumption) | (with_reducible refine below_drewN ?_ _) | (with_reducible refine Below.drew ?_) | (with_reducible refine Below.alloc ?_ ?_ _) | (with_reducible refine Below.setCell ?_ ?_ _) | go_size))))))
                  refine wpQuiet_nil ?_
                  intro _ hw'
                  obtain ⟨⟨w9, hb9⟩, hw''⟩ := hw'
                  subst hw''
                  have HB9 := Lib.hid (hBr.trans (hb9.mono hzr))
                  go_wp2_with fail
                  go_roundw
                  case rel => exact ⟨k + 1, by omega, by go_num, by rw [HE.out], HB9.out⟩
                  case measure => simp [intOf]; omega
          · have hke : k = l.length := by omega
            subst hke
            obtain ⟨B, hBv⟩ : ∃ B, bestL (canB (needsL l) S) (hrL l) l.length = B := ⟨_, rfl⟩
            rw [hBv] at HNX ⊢
            clear hBv
            go_wp2_with (at_builtin; refine app1 rfl (.tmp 47) (.tmp 49) _ rfl w.heap.size 2 _ 8 Try.underlying30 info_int64 rfl _ _ rfl _ _ _ rfl HOW.out rfl (by omega) (by omega) (by omega) ?_; intro v3 w3 hown3 hb3 _; have O3 := Lib.hid hown3; have HB3 := Lib.hid (HBW.out.trans hb3); obtain ⟨A3, c3, hv3⟩ := own_slice hown3; subst hv3; clear hown3 hb3)
            go_roundw
            case rel => first | exact ⟨j + 1, by omega, HB3.out, by show World.ownsRow _ _ _ _ _ _ _; rw [HNX.out, List.map_append]; exact O3.out⟩ | ((repeat apply Exists.intro); exact ⟨⟨j + 1, by omega, HB3.out, by show World.ownsRow _ _ _ _ _ _ _; rw [HNX.out, List.map_append]; exact O3.out⟩, rfl⟩)
            case measure => simp [lenV]; omega
      · have hje : j = l.length := by omega
        subst hje
        go_wp2_with fail
        go_ret2
        exact IntsPost.mk_ (by rw [ordL_len]) hown.out hB
set_option maxRecDepth 20000 in
set_option maxHeartbeats 8000000 in
theorem c_iLessonOrder (A : Option Addr) (n c : Nat) (l : List TLesson) (w : World) (ha : Ls w A n l) (hsz : LsB l) (hn : n ≤ 1048576) :
    Calls Try.prog 26 #[.slice A n c] w (IntsPost (ordZ l) (ordC l) w) := by
  have hl := ha.len
  subst hl
  have HA := Lib.hid ha
  have HSZ := Lib.hid hsz
  clear ha hsz
  rcases ord_cases l with ⟨g, e1, e2⟩ | ⟨g, g2, e1, e2⟩ | ⟨g, g2, e1, e2⟩ <;> rw [e1, e2] <;> clear e1 e2 <;> have G := Lib.hid g
  · clear g
    go_enter Try.func26, Try.ntmps26
    go_wp2_with (go_at_call 33; refine (c_iValidLessons _ _ _ l _ G.out _ HA.out HSZ.out hn).mono ?_; rintro r_ w1 ⟨rfl, hb1⟩)
    go_ret2
    exact IntsPost.err hb1
  · clear g
    obtain ⟨cv, hcv⟩ : ∃ v, cirN l = v := ⟨_, rfl⟩
    rw [hcv] at g2
    have HCV := Lib.hid hcv
    clear hcv
    go_enter Try.func26, Try.ntmps26
    go_wp2_with (first | (go_at_call 33; refine (c_iValidLessons _ _ _ l _ G.out _ HA.out HSZ.out hn).mono ?_; rintro r_ w1 ⟨rfl, hb1⟩) | (go_at_call 34; refine (c_lessonCircle _ _ _ l _ (HA.out.later hb1) G.out).mono ?_; rw [HCV.out]; rintro r_ w2 ⟨rfl, hb2⟩))
    go_ret2
    exact IntsPost.err (hb1.trans (hb2.mono hb1.size))
  · have h12 := les_len g
    have HNB := Lib.hid (needs_bd g)
    have HAC := Lib.hid (no_circle g g2)
    have HZB0 : Hid (∀ k : Int, (needsL l k).length ≤ 1048576) := fun k => Nat.le_trans (needs_len g k) hn
    have hmk := run_makeB l.length hn
    obtain ⟨cv, hcv⟩ : ∃ v, cirN l = v := ⟨_, rfl⟩
    rw [hcv] at g2
    have hcv2 : ¬ (0 : Int) ≤ cv := by omega
    have HCV := Lib.hid hcv
    clear hcv g g2
    go_enter Try.func26, Try.ntmps26
    go_wp2_with (first | (go_at_call 33; refine (c_iValidLessons _ _ _ l _ G.out _ HA.out HSZ.out hn).mono ?_; rintro r_ w1 ⟨rfl, hb1⟩) | (go_at_call 34; refine (c_lessonCircle _ _ _ l _ (HA.out.later hb1) G.out).mono ?_; rw [HCV.out]; rintro r_ w2 ⟨rfl, hb2⟩; have HB2 := Lib.hid (hb1.trans (hb2.mono hb1.size))))
    have hz2 := HB2.out.size
    clear hmk
    go_loopw [5] (fun v wr => ∃ j : Nat, j ≤ l.length ∧ Below w2.heap.size w2 wr ∧ Hid (wr.ownsRow (w2.heap.size + 1) 2 1 v j ((ordL (needsL l) (hrL l) l.length j).map (Value.int .i64))) ∧ Hid (RowB wr w2.heap.size l.length (mkB l.length (ordL (needsL l) (hrL l) l.length j))) ∧ w2.heap.size + 1 ≤ wr.heap.size) (fun v _ => l.length - lenV v)
    case atStart =>
      refine ⟨0, Nat.zero_le _, by (repeat' (first | (with_reducible exact Below.refl _ _) | (with_reducible assumption) | (with_reducible refine below_drewN ?_ _) | (with_reducible refine Below.drew ?_) | (with_reducible refine Below.alloc ?_ ?_ _) | (with_reducible refine Below.setCell ?_ ?_ _) | go_size)), ?_, ?_, by simp⟩
      · have h := World.ownsRow_made (base := w2.heap.size + 1) (e := 2) (size := 1) (w2.alloc (.cells (madeCells (Value.cells (.bool false)) l.length) 4)) #[] 0 (by simp) (by simp [maxLen]) rfl
        rw [World.size_alloc] at h
        exact h
      · show RowB _ _ _ (mkB _ [])
        rw [mkB_nil]
        exact (RowB.made w2 l.length).alloc _
    case round =>
      obtain ⟨j, hj, hB, hown, hrow, hsz2⟩ := hrel
      rename World => wo
      have hz := hB.size
      obtain ⟨A1, c1, hv⟩ := own_slice hown.out
      subst hv
      by_cases hlt0 : j < l.length
      · go_wp2_with fail
        obtain ⟨S, hS⟩ : ∃ S, ordL (needsL l) (hrL l) l.length j = S := ⟨_, rfl⟩
        have HSL : Hid (S.length = j) := by show _ = _; rw [← hS, ordL_len]
        have HBEST : Hid (0 ≤ bestL (canB (needsL l) S) (hrL l) l.length) := by show _ ≤ _; rw [← hS]; exact ordL_best HNB.out HAC.out hlt0
        have HNX : Hid (ordL (needsL l) (hrL l) l.length (j + 1) = S ++ [bestL (canB (needsL l) S) (hrL l) l.length]) := by show _ = _; rw [← hS]; rfl
        have HOWN : Hid (wo.ownsRow (w2.heap.size + 1) 2 1 (.slice A1 j c1) j (S.map (Value.int .i64))) := by have := hown.out; rwa [hS] at this
        have HROW : Hid (RowB wo w2.heap.size l.length (mkB l.length S)) := by have := hrow.out; rwa [hS] at this
        clear hS hown hrow
        go_loopw [6, 26] (fun v i wr => ∃ k : Nat, k ≤ l.length ∧ i = .int .i64 k ∧ v = .int .i64 (bestL (canB (needsL l) S) (hrL l) k) ∧ Below wo.heap.size wo wr) (fun _ i _ => l.length - (intOf i).toNat)
        case atStart => exact ⟨0, Nat.zero_le _, rfl, rfl, Below.refl _ _⟩
        case round =>
          obtain ⟨k, hk, rfl, rfl, hBr⟩ := hrel
          have hzr := hBr.size
          have hB2r := Lib.hid (hB.trans (hBr.mono hz))
          have HBW := Lib.hid (HB2.out.trans (hB2r.out.mono hz2))
          have HOW := Lib.hid (own_below HOWN.out hBr)
          have HRO := Lib.hid (HROW.out.later hBr)
          have hgl := HRO.out.lt
          by_cases hlt : k < l.length
          · obtain ⟨b, o, nm, lt, S2, cc, zz, hh, rfl, hb2', hx, hK⟩ := les_all HA.out hlt
            obtain ⟨hb1', c0, c1', c2', c3, _⟩ := hK _ HBW.out
            have K := Lib.hid hK
            have hHK := hrL_at hx
            simp only at hHK
            have hN := needsL_at hx
            simp only at hN
            have hzl := HZB0.out (k : Int)
            rw [hN] at hzl
            have HZB : Hid (∀ x ∈ zz, (0 : Int) ≤ x ∧ x < l.length) := fun x hx' => HNB.out (k : Int) x (by rw [hN]; exact hx')
            have HBA := Lib.hid (fun o => HBW.out.alloc HBW.out.size o)
            have HZZ := fun o => Lib.hid ((K.out _ (HBA.out o)).2.2.2.2.2)
            have HRW := fun o => Lib.hid (HRO.out.alloc o)
            have r0 := HRO.out.cell hlt
            rw [mkB_get S hlt] at r0
            have hkI : (k : Int) < (l.length : Int) := by omega
            have hk0 : (0 : Int) ≤ (k : Int) := by omega
            have hgl1 : w2.heap.size < wr.heap.size + 1 := by omega
            have hbl1 : b < wr.heap.size + 1 := by omega
            have hcs := can_split (needsL l) S (k : Int)
            rw [hN] at hcs
            obtain ⟨B, hBv⟩ : ∃ B, bestL (canB (needsL l) S) (hrL l) k = B := ⟨_, rfl⟩
            have hbd := bestL_bd (can := canB (needsL l) S) (hr := hrL l) k
            rw [hBv] at hbd ⊢
            obtain ⟨hbd1, hbd2⟩ := hbd
            by_cases hin : (k : Int) ∈ S
            · rw [decide_eq_true hin] at r0
              have HE : Hid (bestL (canB (needsL l) S) (hrL l) (k + 1) = B) := (best_no (can_has hin)).trans hBv
              clear hin hcs hx hK hHK hN hBv
              go_wp2_with fail
              refine wp_region_below (by kernel_rfl) (by kernel_rfl) ?_
              repeat (go_big_quiet_step ((go_at_call 48; refine qBg (c_allIn _ _ _ _ _ _ _ _ HAL.out _ ((HZZ _).out.later (Later.h _)) ((HRW _).out.below (Later.h _) (by simp; omega)) HZB.out (by omega) (by omega)) (by simp) ?_; intro w_ h_; first | exact h_ | exact h_.below | (subst h_; exact Below.refl _ _) | (subst h_; (repeat' (first | (with_reducible exact Below.refl _ _) | (with_reducible assumption) | (with_reducible refine below_drewN ?_ _) | (with_reducible refine Below.drew ?_) | (with_reducible refine Below.alloc ?_ ?_ _) | (with_reducible refine Below.setCell ?_ ?_ _) | go_size))) | (obtain ⟨n_, rfl⟩ := h_; (repeat' (first | (with_reducible exact Below.refl _ _) | (with_reducible assumption) | (with_reducible refine below_drewN ?_ _) | (with_reducible refine Below.drew ?_) | (with_reducible refine Below.alloc ?_ ?_ _) | (with_reducible refine Below.setCell ?_ ?_ _) | go_size))))))
              refine wpQuiet_nil ?_
              intro _ hw'
              obtain ⟨⟨w9, hb9⟩, hw''⟩ := hw'
              subst hw''
              have HB9 := Lib.hid ((hBr.alloc hzr _).trans (hb9.mono (by simp; omega)))
              go_wp2_with fail
              go_roundw
              case rel => exact ⟨k + 1, by omega, by go_num, by rw [HE.out], HB9.out⟩
              case measure => simp [intOf]; omega
            · rw [decide_eq_false hin] at r0
              cases hal : zz.all fun x => decide (x ∈ S)
              · have HAL := Lib.hid hal
                have HE : Hid (bestL (canB (needsL l) S) (hrL l) (k + 1) = B) := (best_no (by rw [hcs, hal, Bool.and_false])).trans hBv
                clear hin hcs hal hx hK hHK hN hBv
                go_wp2_with fail
                refine wp_region_below (by kernel_rfl) (by kernel_rfl) ?_
                repeat (go_big_quiet_step ((go_at_call 48; refine qBg (c_allIn _ _ _ _ _ _ _ _ HAL.out _ ((HZZ _).out.later (Later.h _)) ((HRW _).out.below (Later.h _) (by simp; omega)) HZB.out (by omega) (by omega)) (by simp) ?_; intro w_ h_; first | exact h_ | exact h_.below | (subst h_; exact Below.refl _ _) | (subst h_; (repeat' (first | (with_reducible exact Below.refl _ _) | (with_reducible assumption) | (with_reducible refine below_drewN ?_ _) | (with_reducible refine Below.drew ?_) | (with_reducible refine Below.alloc ?_ ?_ _) | (with_reducible refine Below.setCell ?_ ?_ _) | go_size))) | (obtain ⟨n_, rfl⟩ := h_; (repeat' (first | (with_reducible exact Below.refl _ _) | (with_reducible assumption) | (with_reducible refine below_drewN ?_ _) | (with_reducible refine Below.drew ?_) | (with_reducible refine Below.alloc ?_ ?_ _) | (with_reducible refine Below.setCell ?_ ?_ _) | go_size))))))
                refine wpQuiet_nil ?_
                intro _ hw'
                obtain ⟨⟨w9, hb9⟩, hw''⟩ := hw'
                subst hw''
                have HB9 := Lib.hid ((hBr.alloc hzr _).trans (hb9.mono (by simp; omega)))
                go_wp2_with fail
                go_roundw
                case rel => exact ⟨k + 1, by omega, by go_num, by rw [HE.out], HB9.out⟩
                case measure => simp [intOf]; omega
              · have HAL := Lib.hid hal
                have hc : canB (needsL l) S (k : Int) = true := by rw [hcs, hal]; simpa using hin
                by_cases hneg : B < 0
                · have HE : Hid (bestL (canB (needsL l) S) (hrL l) (k + 1) = (k : Int)) := best_first hc (by rw [hBv]; exact hneg)
                  clear hin hcs hal hx hK hHK hN hBv hc
                  go_wp2_with fail
                  refine wp_region_below (by kernel_rfl) (by kernel_rfl) ?_
                  repeat (go_big_quiet_step ((go_at_call 48; refine qBg (c_allIn _ _ _ _ _ _ _ _ HAL.out _ ((HZZ _).out.later (Later.h _)) ((HRW _).out.below (Later.h _) (by simp; omega)) HZB.out (by omega) (by omega)) (by simp) ?_; intro w_ h_; first | exact h_ | exact h_.below | (subst h_; exact Below.refl _ _) | (subst h_; (repeat' (first | (with_reducible exact Below.refl _ _) | (with_reducible assumption) | (with_reducible refine below_drewN ?_ _) | (with_reducible refine Below.drew ?_) | (with_reducible refine Below.alloc ?_ ?_ _) | (with_reducible refine Below.setCell ?_ ?_ _) | go_size))) | (obtain ⟨n_, rfl⟩ := h_; (repeat' (first | (with_reducible exact Below.refl _ _) | (with_reducible assumption) | (with_reducible refine below_drewN ?_ _) | (with_reducible refine Below.drew ?_) | (with_reducible refine Below.alloc ?_ ?_ _) | (with_reducible refine Below.setCell ?_ ?_ _) | go_size))))))
                  refine wpQuiet_nil ?_
                  intro _ hw'
                  obtain ⟨⟨w9, hb9⟩, hw''⟩ := hw'
                  subst hw''
                  have HB9 := Lib.hid ((hBr.alloc hzr _).trans (hb9.mono (by simp; omega)))
                  go_wp2_with fail
                  go_roundw
                  case rel => exact ⟨k + 1, by omega, by go_num, by rw [HE.out], HB9.out⟩
                  case measure => simp [intOf]; omega
                · obtain ⟨q, rfl⟩ : ∃ q : Nat, B = q := ⟨B.toNat, by omega⟩
                  have hqn : q < l.length := by omega
                  obtain ⟨nm2, lt2, S3, cc2, z2, hq2, _, hx2, hK2⟩ := les_allB HA.out hqn
                  obtain ⟨_, _, _, _, d3, _⟩ := hK2 _ HBW.out
                  have hHQ := hrL_at hx2
                  simp only at hHQ
                  have hqI : (q : Int) < (l.length : Int) := by omega
                  have hq0 : (0 : Int) ≤ (q : Int) := by omega
                  have hqd : decide ((q : Int) < 0) = false := decide_eq_false (by omega)
                  by_cases hless : hh < hq2
                  · have HE : Hid (bestL (canB (needsL l) S) (hrL l) (k + 1) = (k : Int)) := best_less hc hBv (by rw [hHK, hHQ]; exact hless)
                    clear hin hcs hal hx hK hHK hN hBv hc hx2 hK2 hHQ
                    go_wp2_with fail
                    refine wp_region_below (by kernel_rfl) (by kernel_rfl) ?_
                    repeat (go_big_quiet_step ((go_at_call 48; refine qBg (c_allIn _ _ _ _ _ _ _ _ HAL.out _ ((HZZ _).out.later (Later.h _)) ((HRW _).out.below (Later.h _) (by simp; omega)) HZB.out (by omega) (by omega)) (by simp) ?_; intro w_ h_; first | exact h_ | exact h_.below | (subst h_; exact Below.refl _ _) | (subst h_; (repeat' (first | (with_reducible exact Below.refl _ _) | (with_reducible assumption) | (with_reducible refine below_drewN ?_ _) | (with_reducible refine Below.drew ?_) | (with_reducible refine Below.alloc ?_ ?_ _) | (with_reducible refine Below.setCell ?_ ?_ _) | go_size))) | (obtain ⟨n_, rfl⟩ := h_; (repeat' (first | (with_reducible exact Below.refl _ _) | (with_reducible assumption) | (with_reducible refine below_drewN ?_ _) | (with_reducible refine Below.drew ?_) | (with_reducible refine Below.alloc ?_ ?_ _) | (with_reducible refine Below.setCell ?_ ?_ _) | go_size))))))
                    refine wpQuiet_nil ?_
                    intro _ hw'
                    obtain ⟨⟨w9, hb9⟩, hw''⟩ := hw'
                    subst hw''
                    have HB9 := Lib.hid ((hBr.alloc hzr _).trans (hb9.mono (by simp; omega)))
                    go_wp2_with fail
                    go_roundw
                    case rel => exact ⟨k + 1, by omega, by go_num, by rw [HE.out], HB9.out⟩
                    case measure => simp [intOf]; omega
                  · have HE : Hid (bestL (canB (needsL l) S) (hrL l) (k + 1) = (q : Int)) := best_same hBv (by omega) (by rw [hHK, hHQ]; exact hless)
                    clear hin hcs hal hx hK hHK hN hBv hc hx2 hK2 hHQ
                    go_wp2_with fail
                    refine wp_region_below (by kernel_rfl) (by kernel_rfl) ?_
                    repeat (go_big_quiet_step ((go_at_call 48; refine qBg (c_allIn _ _ _ _ _ _ _ _ HAL.out _ ((HZZ _).out.later (Later.h _)) ((HRW _).out.below (Later.h _) (by simp; omega)) HZB.out (by omega) (by omega)) (by simp) ?_; intro w_ h_; first | exact h_ | exact h_.below | (subst h_; exact Below.refl _ _) | (subst h_; (repeat' (first | (with_reducible exact Below.refl _ _) | (with_reducible assumption) | (with_reducible refine below_drewN ?_ _) | (with_reducible refine Below.drew ?_) | (with_reducible refine Below.alloc ?_ ?_ _) | (with_reducible refine Below.setCell ?_ ?_ _) | go_size))) | (obtain ⟨n_, rfl⟩ := h_; (repeat' (first | (with_reducible exact Below.refl _ _) | (with_reducible assumption) | (with_reducible refine below_drewN ?_ _) | (with_reducible refine Below.drew ?_) | (with_reducible refine Below.alloc ?_ ?_ _) | (with_reducible refine Below.setCell ?_ ?_ _) | go_size))))))
                    refine wpQuiet_nil ?_
                    intro _ hw'
                    obtain ⟨⟨w9, hb9⟩, hw''⟩ := hw'
                    subst hw''
                    have HB9 := Lib.hid ((hBr.alloc hzr _).trans (hb9.mono (by simp; omega)))
                    go_wp2_with fail
                    go_roundw
                    case rel => exact ⟨k + 1, by omega, by go_num, by rw [HE.out], HB9.out⟩
                    case measure => simp [intOf]; omega
          · have hke : k = l.length := by omega
            subst hke
            have hbd := bestL_bd (can := canB (needsL l) S) (hr := hrL l) l.length
            have hge := HBEST.out
            obtain ⟨B, hBv⟩ : ∃ B : Nat, bestL (canB (needsL l) S) (hrL l) l.length = B := ⟨_, (Int.toNat_of_nonneg hge).symm⟩
            rw [hBv] at HNX hbd ⊢
            have hbn : B < l.length := by omega
            have hbI : (B : Int) < (l.length : Int) := by omega
            have hb0 : (0 : Int) ≤ (B : Int) := by omega
            obtain ⟨v0, r0⟩ : ∃ v, wr.cell? ⟨w2.heap.size, B, none⟩ = some v := ⟨_, HRO.out.cell hbn⟩
            have f0 := HRO.out.frozen B
            have HRS : Hid (RowB (wr.setCell ⟨w2.heap.size, B, none⟩ (.bool true)) w2.heap.size l.length (mkB l.length (S ++ [(B : Int)]))) := by have := HRO.out.set B true; rwa [mkB_set] at this
            have HOS := Lib.hid (own_far HOW.out (a := ⟨w2.heap.size, B, none⟩) (by dsimp only; omega) (.bool true))
            have HBS : Hid (Below w2.heap.size w2 (wr.setCell ⟨w2.heap.size, B, none⟩ (.bool true))) := hB2r.out.setCell (by dsimp only; omega) _
            clear hBv hbd hge
            go_wp2_with (at_builtin; refine app1 rfl (.tmp 61) (.tmp 63) _ rfl (w2.heap.size + 1) 2 _ 8 Try.underlying30 info_int64 rfl _ _ rfl _ _ _ rfl HOS.out (by rw [World.size_setCell]; rfl) (by omega) (by omega) (by rw [World.size_setCell]; omega) ?_; intro v3 w3 hown3 hb3 hg3; have O3 := Lib.hid hown3; have HB3 := Lib.hid (HBS.out.trans (hb3.mono (by omega))); have HR3 := Lib.hid (HRS.out.below hb3 (by omega)); obtain ⟨A3, c3, hv3⟩ := own_slice hown3; have hsz3 := hb3.size; simp only [World.size_setCell] at hsz3; subst hv3; clear hown3 hb3 hg3)
            go_roundw
            case rel => first | exact ⟨j + 1, by omega, HB3.out, by show World.ownsRow _ _ _ _ _ _ _; rw [HNX.out, List.map_append]; exact O3.out, by show RowB _ _ _ _; rw [HNX.out]; exact HR3.out, by omega⟩ | ((repeat apply Exists.intro); exact ⟨⟨j + 1, by omega, HB3.out, by show World.ownsRow _ _ _ _ _ _ _; rw [HNX.out, List.map_append]; exact O3.out, by show RowB _ _ _ _; rw [HNX.out]; exact HR3.out, by omega⟩, rfl⟩)
            case measure => simp [lenV]; omega
      · have hje : j = l.length := by omega
        subst hje
        have HBW := Lib.hid (HB2.out.trans (hB.mono hz2))
        go_wp2_with fail
        go_ret2
        exact IntsPost.mk_ (by rw [ordL_len]) (own_base hown.out (by omega)) HBW.out
end Go.Proofs.Ytajcdaclbammaaa
