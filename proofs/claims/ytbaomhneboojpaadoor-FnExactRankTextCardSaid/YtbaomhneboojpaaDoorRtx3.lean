/- Contracts: the text of a ranking: the program. -/
import Derived.Test.YtbaomhneboojpaaDoorRtx2
import Derived.Test.YtbaomhneboojpaaDoorSpc
import Derived.Test.YtbaomhneboojpaaDoorJn
import Derived.Deep.DeepCutAuto
import Derived.Deep.RegionHeld3
namespace Go.Proofs.YtbaomhneboojpaaDoor
open Go.RowKit Go.BigFrame
attribute [local go_sem] sub_cell sub_frozen drewN_setCell

theorem own_kinds2 {w : World} {b b' n n' s s' : Nat} {e e' : TypeId} {v u : Value} {xs xs' : List Value} (h : w.ownsRow b e s v n xs) (h' : w.ownsRow b' e' s' u n' xs') (hne : e ≠ e') : v.ownBlock = none ∨ v.ownBlock ≠ u.ownBlock := by
  cases hu : u.ownBlock with
  | none =>
    cases hv : v.ownBlock with
    | none => exact .inl rfl
    | some g => exact .inr (by simp)
  | some g =>
    right
    obtain ⟨A, c, rfl⟩ := own_slice h'
    rcases h'.2 with ⟨h0, _⟩ | ⟨g', cap, cur, h0, _, hh, _⟩
    · simp only [Value.slice.injEq] at h0
      obtain ⟨rfl, _⟩ := h0
      simp [Value.ownBlock] at hu
    · simp only [Value.slice.injEq, true_and] at h0
      obtain ⟨rfl, rfl⟩ := h0
      simp only [Value.ownBlock, Option.some.injEq] at hu
      subst hu
      exact own_kinds h h' hne
theorem tieS_ne : (43 : TypeId) ≠ 9 := by decide
theorem intS_ne : (2 : TypeId) ≠ 9 := by decide
theorem TieIn.keptS {N G m c b k s : Nat} {w w' : World} {gs : List (List Nat)} {vs xs : List Value} {v : Value} (h : TieIn N w G m c gs vs) (hv : w.ownsRow b 9 s v k xs) (hg : w.grownBy w' v.ownBlock) : TieIn N w' G m c gs vs := by
  refine ⟨World.ownsRow.kept h.out hg (own_kinds2 h.out hv tieS_ne), h.grp.kept hg fun q u hu => ?_, h.len⟩
  have hq : q < (gs.map zl).length := by rw [← h.grp.len]; exact (List.getElem?_eq_some_iff.1 hu).1
  exact own_kinds2 (h.grp.own q u _ hu (List.getElem?_eq_getElem hq)) hv intS_ne
theorem sb_data (l : List UInt8) : (sb l).data.toList = l := rfl
theorem sb_datas (T : List (List UInt8)) : (T.map sb).map (·.data.toList) = T := by
  induction T with
  | nil => rfl
  | cons a T ih => rw [List.map_cons, List.map_cons, ih, sb_data]
theorem c_JoinT (g n cc base : Nat) (T : List (List UInt8)) (w : World) (h : w.ownsRow base 9 1 (.slice (some ⟨g, 0, none⟩) n cc) n (T.map tv)) (hl : T.length = n) (hn : n ≤ 1048576) (hlen : (Lib.join T sepL).length ≤ 1048576) (hg : g < w.heap.size) :
    Calls Tryd.prog 18 #[.slice (some ⟨g, 0, none⟩) n cc, .string ⟨#[44, 32]⟩] w fun e w' => e = .returned (.string (sb (Lib.join T sepL))) ∧ Below w.heap.size w w' := by
  subst hl
  have hcap := own_cap h
  have key := c_Join g 0 cc (T.map sb) ⟨#[44, 32]⟩ w (fun j x hx => by
    rw [Nat.zero_add]
    refine own_cell h ?_
    rw [List.getElem?_map] at hx ⊢
    cases hT : T[j]? with
    | none => rw [hT] at hx; cases hx
    | some a => rw [hT] at hx; injection hx with hx; subst hx; rfl) hg (by rw [List.length_map]; omega) (by rw [List.length_map]; exact hcap) (by rw [sb_datas]; show (Lib.join T sepL).length ≤ _; omega)
  rw [List.length_map, sb_datas] at key
  exact key

theorem cell_of_one2 {w : World} {b : Nat} {u v : Value} {e : TypeId} (h : w.heap[b]? = some (.cells #[u, v] e (0, 0))) : w.cell? ⟨b, 0, none⟩ = some u := by simp [World.cell?, h]
set_option maxRecDepth 20000 in
set_option maxHeartbeats 8000000 in
theorem c_iRankText (A : Option Addr) (n c : Nat) (l : List TResult) (w : World) (ha : Sl resultC w w.heap.size 3 A n l) (hsz : RsSz l) (hn : n ≤ 1048576) (ht : Tab w) :
    Calls Tryd.prog 7 #[.slice A n c] w fun e w' => e = .returned (.string (rxV l)) ∧ Below w.heap.size w w' := by
  have HL := Lib.hid ha.1
  have HA := Lib.hid ha
  have HSZ := Lib.hid hsz
  have HTB := Lib.hid ht
  clear ha hsz ht
  cases h1 : ressB l
  · have e1 : Hid (rxV l = ⟨#[]⟩) := by show _ = _; simp [rxV, h1]
    go_enter Tryd.func7, Tryd.ntmps7
    go_wp2_with (go_at_call 15; refine (c_iValidResults _ _ _ l _ h1 _ HA.out HSZ.out hn).mono ?_; rintro r_ w1 ⟨rfl, hb1⟩)
    go_ret
    exact ⟨by rw [e1.out]; rfl, hb1⟩
  · have h40 := ress_len h1
    rw [HL.out] at h40
    have GI := Lib.hid (ginf l n)
    obtain ⟨T, hT⟩ : ∃ T, rtLs l n = T := ⟨_, rfl⟩
    have e1 : Hid (rxV l = sb (Lib.join T sepL)) := by show _ = _; rw [rxV, h1, if_pos rfl, HL.out, hT]
    have HTl : Hid (T.length = n) := by show _ = _; rw [← hT, rtLs, List.length_map, (rkL_ok (btr_wk l) n).len]
    have HTX : Hid (∀ k p : Nat, (rkL (btr l) n)[k]? = some p → T[k]? = some (rtLine l n p)) := by
      intro k p hp
      rw [← hT, rtLs, List.getElem?_map, hp]; rfl
    have HTS : Hid ((Lib.join T sepL).length ≤ 1048576) := by
      have := rtLs_size h1 h40 HL.out (Nat.le_refl n)
      rw [hT, List.take_of_length_le (by rw [HTl.out]; exact Nat.le_refl _)] at this
      show _ ≤ _; omega
    clear hT
    go_enter Tryd.func7, Tryd.ntmps7
    go_wp2_with (first | (go_at_call 15; refine (c_iValidResults _ _ _ l _ h1 _ HA.out HSZ.out hn).mono ?_; rintro r_ w1 ⟨rfl, hb1⟩; have HA1 := Lib.hid (fun o => (HA.out.later hb1).later (Below.alloc (Below.refl _ _) (Nat.le_refl _) o)); have hz1 := hb1.size) | (go_at_call 16; refine (c_ties _ _ _ l _ (HA1.out _) h40).mono ?_; rintro r_ w2 ⟨G, d, vs, rfl, hst⟩; have HST := Lib.hid hst; have hb2 := hst.below; clear hst))
    generalize grpL (btr l) (rkL (btr l) n) = gs at HST GI ⊢
    have hz2 := hb2.size
    simp only [World.size_alloc] at hz2
    have hgl := GI.out.len
    have e0 : plc gs 0 = 0 := by simp [plc]
    have E0 := Lib.hid e0
    clear e0
    go_loopw [3, 15] (fun v i wr => ∃ (j g0 cc : Nat), j ≤ gs.length ∧ i = .int .i64 j ∧ v = .slice (some ⟨g0, 0, none⟩) (plc gs j) cc ∧ g0 < wr.heap.size ∧ Below w.heap.size w wr ∧ wr.ownsRow w1.heap.size 9 1 (.slice (some ⟨g0, 0, none⟩) (plc gs j) cc) (plc gs j) ((T.take (plc gs j)).map tv) ∧ TieIn (w1.heap.size + 1) wr G gs.length d gs vs) (fun _ i _ => gs.length - (intOf i).toNat)
    case atStart =>
      refine ⟨0, w1.heap.size, 0, Nat.zero_le _, rfl, by rw [E0.out], by omega, (hb1.alloc hz1 _).trans (hb2.mono (by simp; omega)), ?_, ?_⟩
      · rw [E0.out, List.take_zero]
        exact own_below (World.ownsRow_made w1 #[] 0 (Nat.le_refl _) (by simp [maxLen]) rfl) hb2
      · have := HST.out.rd
        rwa [World.size_alloc] at this
    case round =>
      obtain ⟨j, g0, cc, hj, rfl, rfl, hg0, hB, hrow, hti⟩ := hrel
      have hz := hB.size
      rename World => wo
      by_cases hlt : j < gs.length
      · obtain ⟨g, hgj⟩ : ∃ g, gs[j]? = some g := ⟨_, List.getElem?_eq_getElem hlt⟩
        obtain ⟨gb, cap, k0, k1, hgb1, hgb2, hvj⟩ := hti.at_ hgj (GI.out.ne hgj)
        have HGJ := Lib.hid hgj
        have HVJ := Lib.hid hvj
        have HR := Lib.hid hrow
        have HTI := Lib.hid hti
        have hgl2 := GI.out.glen hgj
        have hpl := GI.out.plc_le j
        have hGl := own_block_lt hti.out
        have i1 : (j : Int) < gs.length := by omega
        clear hrow hti hgj hvj
        go_wp2_with fail
        go_loopw [3, 22] (fun v i wr => ∃ (q g1 c1 : Nat), q ≤ g.length ∧ i = .int .i64 q ∧ v = .slice (some ⟨g1, 0, none⟩) (plc gs j + q) c1 ∧ g1 < wr.heap.size ∧ Below w.heap.size w wr ∧ Hid (wr.ownsRow w1.heap.size 9 1 (.slice (some ⟨g1, 0, none⟩) (plc gs j + q) c1) (plc gs j + q) ((T.take (plc gs j + q)).map tv)) ∧ TieIn (w1.heap.size + 1) wr G gs.length d gs vs ∧ Hid (wr.heap[wo.heap.size]? = some (.cells #[.int .i64 ((plc gs j : Int) + 1), .slice (some ⟨gb, 0, none⟩) g.length cap] 43 (0, 0))) ∧ wo.heap.size < wr.heap.size) (fun _ i _ => g.length - (intOf i).toNat)
        case atStart => exact ⟨0, g0, cc, Nat.zero_le _, rfl, rfl, by simp; omega, hB.alloc hz _, HR.out.alloc _, HTI.out.alloc _, heap_alloc_new wo _, by simp⟩
        case round =>
          obtain ⟨q, g1, c1, hq, rfl, rfl, hg1, hB2, hrow, hti, hL, hLl⟩ := hrel
          rename World => wi
          have hz3 := hB2.size
          by_cases hlt2 : q < g.length
          · obtain ⟨i, hi⟩ : ∃ i, g[q]? = some i := ⟨_, List.getElem?_eq_getElem hlt2⟩
            have hc := hti.elem HGJ.out HVJ.out hi
            have hin := GI.out.lt HGJ.out hi
            have l0 : wi.cell? ⟨wo.heap.size, 0, none⟩ = some (.int .i64 ((plc gs j : Int) + 1)) := by simp [World.cell?, hL.out]
            obtain ⟨b, o, u0, u1, u2, rfl, hb1', hb2', hxl, c0, _, _⟩ := result_at HA.out hB2 hin
            have HE : Hid ((T.take (plc gs j + q + 1)).map tv = (T.take (plc gs j + q)).map tv ++ [.string (sb (Lib.itoa ((plc gs j : Int) + 1)) ++ ⟨#[46, 32]⟩ ++ u0)]) := by
              show _ = _
              have hx := HTX.out _ _ (GI.out.at_ HGJ.out hi)
              rw [List.take_add_one, hx, Option.toList_some, List.map_append, List.map_singleton, tv, rtLine, GI.out.place HGJ.out hi]
              have hu : nmR l i = u0 := by simp [nmR, List.getD_eq_getElem?_getD, hxl]
              rw [hu, show (⟨#[46, 32]⟩ : ByteArray) = sb [46, 32] from rfl]
              conv => rhs; rw [← sb_bl u0]
              rw [sb_apd, sb_apd]
              simp
            have h12 := ress_name h1 hxl
            have h12' : u0.size ≤ 12 := h12
            have hit : (sb (Lib.itoa ((plc gs j : Int) + 1))).size ≤ 21 := by rw [sb_size]; exact Lib.itoa_length_le _ (by omega) (by omega)
            have CD0 : ∀ W, Below wi.heap.size wi W → Calls Tryd.prog 17 #[.int .i64 ((plc gs j : Int) + 1)] W (fun e w' => e = .returned (.string (sb (Lib.itoa ((plc gs j : Int) + 1)))) ∧ Below W.heap.size W w') := fun W hW => c_Decimal _ (by omega) (by omega) W ((HTB.out.later hB2).later hW)
            generalize sb (Lib.itoa ((plc gs j : Int) + 1)) = dd at HE hit CD0
            have CD := Lib.hid CD0
            clear CD0
            have q1 : ¬ 9223372036854775807 < dd.size + 2 := by omega
            have q2 : ¬ 9223372036854775805 < dd.size := by omega
            have q3 : ¬ 9223372036854775807 < dd.size + 2 + u0.size := by omega
            have q4 : dd.size + 2 ≤ 9223372036854775807 := by omega
            have q5 : dd.size + 2 + u0.size ≤ 9223372036854775807 := by omega
            have q6 : dd.size ≤ 9223372036854775805 := by omega
            have i2 : (q : Int) < g.length := by omega
            have i3 : (i : Int) < n := by omega
            have hgb3 : gb < wi.heap.size := by omega
            have HTI2 := Lib.hid hti
            clear hti hi hxl h12
            go_wp2_with fail
            go_region_held3 (fun w' => w'.cell? ⟨wo.heap.size, 0, none⟩ = some (.int .i64 ((plc gs j : Int) + 1)) ∧ w'.cell? ⟨b, o + i * 3, none⟩ = some (.string u0)) (first | go_keep | exact S3 | exact S1) (first | (go_at_call 17; refine (CD.out _ (by (repeat' (first | (with_reducible exact Below.refl _ _) | (with_reducible assumption) | (with_reducible refine below_drewN ?_ _) | (with_reducible refine Below.drew ?_) | (with_reducible refine Below.alloc ?_ ?_ _) | (with_reducible refine Below.setCell ?_ ?_ _) | go_size)))).mono ?_; rintro r_ w11 ⟨rfl, b1⟩; have k1 : Below wi.heap.size wi w11 := later b1 (by (repeat' (first | (with_reducible exact Below.refl _ _) | (with_reducible assumption) | (with_reducible refine below_drewN ?_ _) | (with_reducible refine Below.drew ?_) | (with_reducible refine Below.alloc ?_ ?_ _) | (with_reducible refine Below.setCell ?_ ?_ _) | go_size))); have k1z := k1.size; have S1 := And.intro ((k1.cell (p := ⟨wo.heap.size, 0, none⟩) hLl).trans l0) ((k1.cell (p := ⟨b, o + i * 3, none⟩) hb1').trans c0); have O1 := Lib.hid (own_below hrow.out k1); have K1 := Lib.hid k1; have L11 := Lib.hid ((k1.block _ hLl).trans hL.out); have N1 := Lib.hid (own_ne_cells O1.out L11.out (by decide)); clear b1 k1) | (refine stepApp (by rfl) (.tmp 26) (.tmp 37) _ (by rfl) w1.heap.size 9 _ 1 16 Tryd.underlying39 info_text (by rfl) (by decide) _ _ (by rfl) (by simp [Value.oneCell']) _ _ _ (by rfl) O1.out (by rfl) (by omega) (by decide) (by omega) ?_; intro v3 w3 hown3 hb3 hg3; obtain ⟨g3, c3, rfl, hg3a, hg3b⟩ := hown3.form (by omega); have L3 := Lib.hid (cells_grown L11.out hg3 N1.out); have S3 := And.intro (cell_of_one2 L3.out) ((hb3.cell (p := ⟨b, o + i * 3, none⟩) (by show b < _; omega)).trans S1.2); have HW3 := Lib.hid hown3; have HB3 := Lib.hid hb3; have HG3 := Lib.hid hg3; have hz3' := hg3.size; clear hown3 hb3 hg3))
            all_goals
              go_wp2_with fail
              go_roundw
              case rel => exact ⟨q + 1, g3, c3, by omega, by go_num, rfl, hg3b, hB2.trans ((K1.out.mono hz3).trans (HB3.out.mono (by omega))), by show World.ownsRow _ _ _ _ _ _ ((T.take (plc gs j + q + 1)).map tv); rw [HE.out]; exact HW3.out, (HTI2.out.later K1.out).keptS O1.out HG3.out, L3.out, by omega⟩
              case measure => simp [intOf]; omega
          · obtain rfl : q = g.length := by omega
            have HTI2 := Lib.hid hti
            clear hti
            go_wp2_with fail
            go_roundw
            case rel => exact ⟨j + 1, g1, c1, by omega, by go_num, by rw [plc_succ HGJ.out], hg1, hB2, by rw [plc_succ HGJ.out]; exact hrow.out, HTI2.out⟩
            case measure => simp [intOf]; omega
      · obtain rfl : j = gs.length := by omega
        have hend := GI.out.end_
        rw [hend, List.take_of_length_le (by rw [HTl.out]; exact Nat.le_refl _)] at hrow
        rw [hend]
        have HR := Lib.hid hrow
        clear hrow hti hend
        go_wp2_with (go_at_call 18; refine (c_JoinT g0 n cc _ T _ HR.out HTl.out hn HTS.out hg0).mono ?_; rintro r_ w9 ⟨rfl, hb9⟩)
        go_ret
        exact ⟨by rw [e1.out]; rfl, hB.trans (hb9.mono hz)⟩
end Go.Proofs.YtbaomhneboojpaaDoor
