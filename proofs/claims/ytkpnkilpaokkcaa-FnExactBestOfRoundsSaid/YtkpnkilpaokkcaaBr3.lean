/- Contract: the best results of rounds (the program). -/
import Derived.Test.YtkpnkilpaokkcaaBr2
import Derived.Carry
namespace Go.Proofs.Ytkpnkilpaokkcaa
open Go.RowKit Go.BigFrame
attribute [local go_sem] sub_cell sub_frozen drewN_setCell

/-- A map that lies below a row is kept when the row grows. -/
theorem IxMap.belowB {α : Type} {κ : α → Lit} {P : Program} {k e : TypeId} {w w' : World} {b base : Nat} {S : List α} (h : IxMap P k e κ w b S) (hb : Below base w w') (hlt : b < base) : IxMap P k e κ w' b S := by
  obtain ⟨es, clock, hh, r⟩ := h
  exact ⟨es, clock, (hb.block b hlt).trans hh, r⟩
set_option maxRecDepth 100000 in
set_option maxHeartbeats 16000000 in
theorem c_iBestOfRounds (A : Option Addr) (n c : Nat) (ll : List (List TResult)) (w : World) (ha : Rss w A n ll) (hsz : RssSz ll) (hm : ∀ l ∈ ll, l.length ≤ 1048576) (hn : n ≤ 1048576) :
    Calls Try.prog 7 #[.slice A n c] w (ResPost (brL ll) (brC ll) w) := by
  have HL := Lib.hid ha.len
  have HA := Lib.hid ha
  have HS := Lib.hid hsz
  have HM := Lib.hid hm
  have z0 : ∀ w : World, (zeroValue 3).run Try.prog w = .ok (.int .i64 0) w := fun _ => by kernel_rfl
  have Z0 := Lib.hid z0
  have KEYED : Maps.Keyed Try.prog 9 := Maps.string_keyed Try.underlying9
  have hmm := @run_makeMap Try.prog
  clear ha hsz hm z0
  go_enter Try.func7, Try.ntmps7
  go_wp2_with fail
  go_loopw [16] (fun i wr => ∃ k : Nat, k ≤ n ∧ i = .int .i64 k ∧ Hid (∀ x ∈ ll.take k, ressB x = true) ∧ Below w.heap.size w wr) (fun i _ => n - (intOf i).toNat)
  case atStart => exact ⟨0, Nat.zero_le _, rfl, Lib.hid (by simp), Below.refl _ _⟩
  case round =>
    obtain ⟨k, hk, rfl, hok, hB⟩ := hrel
    rename World => wr
    have hz := hB.size
    by_cases hlt : k < n
    · obtain ⟨b, o, S, m, cc, x, rfl, hb1, hb2, hx, c0, hzs⟩ := rss_at HA.out hB hlt
      have HX := Lib.hid hx
      have HZS := Lib.hid hzs
      have hmx := HM.out _ (List.mem_of_getElem? hx)
      have hxm := hzs.1
      have i1 : (k : Int) < n := by omega
      obtain ⟨r, hr⟩ : ∃ r, ressB x = r := ⟨_, rfl⟩
      have C := Lib.hid (c_iValidResults S m cc x r hr wr HZS.out (fun y hy => (HS.out x (List.mem_of_getElem? HX.out)).2 y hy) (by omega))
      have HR := Lib.hid hr
      clear hx hzs hr
      cases r
      · have e1 : Hid (brL ll = [] ∧ brC ll = 1) := Lib.hid (by
          have hf : brOk ll = false := by
            rw [brOk, List.all_eq_false]
            exact ⟨x, List.mem_of_getElem? HX.out, by rw [HR.out]; simp⟩
          constructor <;> simp [brL, brC, hf])
        go_wp2_with (go_at_call 17; refine C.out.mono ?_; rintro r_ w1 ⟨rfl, hb1⟩)
        go_ret2
        rw [e1.out.1, e1.out.2]
        exact ResPost.err (hB.trans (hb1.mono hz))
      · have HN := Lib.hid (all_take hok.out HX.out HR.out)
        clear hok
        go_wp2_with (go_at_call 17; refine C.out.mono ?_; rintro r_ w1 ⟨rfl, hb1⟩; have HB1 := Lib.hid (hB.trans (hb1.mono hz)); clear hb1)
        go_roundw
        case rel => exact ⟨k + 1, by omega, by go_num, HN, HB1.out⟩
        case measure => simp [intOf]; omega
    · obtain rfl : k = n := by omega
      have hall : brOk ll = true := by
        rw [brOk, List.all_eq_true]
        have := hok.out
        rw [List.take_of_length_le (by have := HL.out; omega)] at this
        exact this
      have HALL := Lib.hid hall
      have H40 := Lib.hid (fun l (hl : l ∈ ll) => ress_len ((List.all_eq_true.1 hall) l hl))
      clear hok hall
      by_cases h10 : 10 < k
      · have e1 : Hid (brL ll = [] ∧ brC ll = 2) := Lib.hid (by
          have := HL.out
          constructor <;> simp [brL, brC, HALL.out] <;> omega)
        have t1 : decide ((10 : Int) < (k : Int)) = true := decide_eq_true (by omega)
        go_wp2_with fail
        go_ret2
        rw [e1.out.1, e1.out.2]
        exact ResPost.err hB
      · have e1 : Hid (brL ll = runR ll.flatten ∧ brC ll = 0) := Lib.hid (by
          have := HL.out
          constructor <;> simp [brL, brC, HALL.out] <;> omega)
        have HFL := Lib.hid (flat_le (ll := ll) (m := 40) H40.out)
        have t1 : decide ((10 : Int) < (k : Int)) = false := decide_eq_false (by omega)
        have hk10 : k ≤ 10 := by omega
        have HB0 := Lib.hid hB
        clear hB h10
        go_wp2_with fail
        clear hmm
        go_loopw [7, 31] (fun v i wx => ∃ (q : Nat) (out : List TResult), q ≤ k ∧ i = .int .i64 q ∧ Hid (out = runR (ll.take q).flatten) ∧ Hid (IxMap Try.prog 9 3 kS wx wr.heap.size (nmR out)) ∧ Hid (wx.ownsRow (wr.heap.size + 1) 38 3 v out.length (flat resultC out)) ∧ Below wr.heap.size wr wx) (fun _ i _ => k - (intOf i).toNat)
        case atStart => exact ⟨0, [], Nat.zero_le _, rfl, Lib.hid rfl, Lib.hid ((IxMap.made wr).alloc _), Lib.hid (by have h := World.ownsRow_made (wr.alloc (.map #[] 0)) #[] 0 (e := 38) (size := 3) (Nat.le_refl _) (by simp [maxLen]) rfl; simp only [World.size_alloc] at h; exact h), by (repeat' (first | (with_reducible exact Below.refl _ _) | (with_reducible assumption) | (with_reducible refine below_drewN ?_ _) | (with_reducible refine Below.drew ?_) | (with_reducible refine Below.alloc ?_ ?_ _) | (with_reducible refine Below.setCell ?_ ?_ _) | go_size))⟩
        case round =>
          obtain ⟨q, out0, hq, rfl, hout, hmap, hown, hB⟩ := hrel
          rename World => wo
          have hzo := hB.size
          by_cases hlt2 : q < k
          · obtain ⟨b, o, S0, m0, c0, x, hA0, hb1, _, hx, cq, hzs⟩ := rss_at HA.out (Below.refl _ _) hlt2
            subst hA0
            have HX := Lib.hid hx
            have h40 := H40.out x (List.mem_of_getElem? hx)
            have hm0 := hzs.1
            have i1 : (q : Int) < k := by omega
            have HXW := Lib.hid hzs
            have HCQ := Lib.hid cq
            have HBW := Lib.hid (HB0.out.trans (hB.mono hz))
            have HFT : (ll.take q).flatten.length ≤ 400 := by
              have h1 := flat_le (ll := ll.take q) (m := 40) (fun l hl => H40.out l (List.mem_of_mem_take hl))
              have h2 : (ll.take q).length * 40 ≤ 10 * 40 := Nat.mul_le_mul_right _ (by rw [List.length_take]; omega)
              omega
            have HOUT := hout
            have HOWN := hown
            have HMAP := hmap
            have HBO := Lib.hid hB
            have cqo := (HBW.out.cell (p := ⟨b, o + q, none⟩) hb1).trans HCQ.out
            have hbwo : b < wo.heap.size := by have := HBW.out.size; omega
            clear hx hzs hB cq hout hown hmap
            go_wp2_with fail
            go_loopw [7, 37] (fun v j wx => ∃ (p : Nat) (out : List TResult), p ≤ m0 ∧ j = .int .i64 p ∧ Hid (out = runR ((ll.take q).flatten ++ x.take p)) ∧ Hid (IxMap Try.prog 9 3 kS wx wr.heap.size (nmR out)) ∧ Hid (wx.ownsRow (wr.heap.size + 1) 38 3 v out.length (flat resultC out)) ∧ Below wr.heap.size wr wx) (fun _ j _ => m0 - (intOf j).toNat)
            case atStart => exact ⟨0, out0, Nat.zero_le _, rfl, Lib.hid (by rw [HOUT.out, List.take_zero, List.append_nil]), HMAP, HOWN, HBO.out⟩
            case round =>
              obtain ⟨p, out, hp, rfl, hrun, hmap, hown, hB⟩ := hrel
              rename World => wj
              have hzj := hB.size
              have hBWj := HB0.out.trans (hB.mono hz)
              have HBWj := Lib.hid hBWj
              have hbwj : b < wj.heap.size := by have := hBWj.size; omega
              have cqj := (hBWj.cell (p := ⟨b, o + q, none⟩) hb1).trans HCQ.out
              have HBJ := Lib.hid hB
              have hol : out.length ≤ 440 := by
                have h1 := runR_len ((ll.take q).flatten ++ x.take p)
                rw [← hrun.out, List.length_append, List.length_take] at h1
                omega
              have HRUN := hrun
              have HNUP : Hid ((nmR out).Nodup) := Lib.hid (by show (nmR out).Nodup; rw [hrun.out]; exact runR_nodup _)
              have HOWNJ := hown
              have HMAPJ := hmap
              have hmlt := hmap.out.lt
              obtain ⟨G', cp, rfl⟩ := own_slice hown.out
              clear hB hBWj hrun hown hmap
              by_cases hlt3 : p < m0
              · obtain ⟨bs, os, u0, u1, u2, rfl, hs1, hs2, hxp, d0_, d1_, d2_⟩ := result_at HXW.out HBWj.out hlt3
                have HXP := Lib.hid hxp
                have i2 : (p : Int) < m0 := by omega
                have hwjs := HBWj.out.size
                have hus : u0.size ≤ maxLen := (HS.out x (List.mem_of_getElem? HX.out)).2 _ (List.mem_of_getElem? hxp)
                have hkey := kS_of Try.underlying9 hus
                have HKEY := Lib.hid hkey
                have HMA := Lib.hid (HMAPJ.out.alloc (.cells #[.string u0, .int .i64 u1, .int .i64 u2] 38))
                have HOA := Lib.hid (HOWNJ.out.alloc (.cells #[.string u0, .int .i64 u1, .int .i64 u2] 38))
                have HNX := Lib.hid ((runR_snoc ((ll.take q).flatten ++ x.take p) (u0, u1, u2)).symm.trans (by rw [← take_flat HX.out HXP.out]))
                rw [← HRUN.out] at HNX
                have hjr : wr.heap.size + 1 ≤ wj.heap.size := by omega
                by_cases hmem : u0 ∈ nmR out
                · have hlk := HMA.out.look (t := 42) kS_inj kS_key KEYED Try.underlying42 Try.underlying3 (Z0.out _) hkey (r := true) (by simp [hmem])
                  obtain ⟨e, hye, hen⟩ := pos_at hmem
                  have hpos : posR (nmR out) u0 < out.length := (List.getElem?_eq_some_iff.1 hye).1
                  have HST := Lib.hid (stepR_old (x := (u0, u1, u2)) hmem hye)
                  have HNM := Lib.hid (nmR_set (x := (u0, u1, u2)) hye hen)
                  generalize posR (nmR out) u0 = ps at *
                  obtain ⟨g, cap, hv, hg1, hg2⟩ := own_form HOWNJ.out (by omega)
                  simp only [Value.slice.injEq] at hv
                  obtain ⟨rfl, _, rfl⟩ := hv
                  obtain ⟨k0, k1, k2⟩ := resC_cell HOA.out hye
                  obtain ⟨e0, e1, e2⟩ := e
                  simp only at k0 k1 k2
                  have i3 : (ps : Int) < out.length := by omega
                  have i4 : (0 : Int) ≤ (ps : Int) := by omega
                  have hgm : g ≠ wr.heap.size := by omega
                  obtain ⟨r, hr⟩ : ∃ r, betB (u0, u1, u2) (e0, e1, e2) = r := ⟨_, rfl⟩
                  have HR := Lib.hid hr
                  have HPOS := Lib.hid hpos
                  clear hye hen hmem hr hxp hkey
                  cases r
                  · have HNN : Hid (out = runR ((ll.take q).flatten ++ x.take (p + 1))) := Lib.hid (by have h := HNX.out; rw [HST.out, HR.out] at h; exact h)
                    go_wp2_with fail
                    refine wp_region_below (by kernel_rfl) (by kernel_rfl) ?_
                    repeat (go_big_quiet_step ((go_at_call 18; refine qBg (c_better _ _ _ _ _ _ _ HR.out _) (by simp) ?_; intro w_ h_; first | exact h_ | exact h_.below | (subst h_; exact Below.refl _ _) | (subst h_; (repeat' (first | (with_reducible exact Below.refl _ _) | (with_reducible assumption) | (with_reducible refine below_drewN ?_ _) | (with_reducible refine Below.drew ?_) | (with_reducible refine Below.alloc ?_ ?_ _) | (with_reducible refine Below.setCell ?_ ?_ _) | go_size))) | (obtain ⟨n_, rfl⟩ := h_; (repeat' (first | (with_reducible exact Below.refl _ _) | (with_reducible assumption) | (with_reducible refine below_drewN ?_ _) | (with_reducible refine Below.drew ?_) | (with_reducible refine Below.alloc ?_ ?_ _) | (with_reducible refine Below.setCell ?_ ?_ _) | go_size))))))
                    refine wpQuiet_nil ?_
                    intro _ hw'
                    obtain ⟨⟨w8, hb8⟩, hw''⟩ := hw'
                    subst hw''
                    have HB8 := Lib.hid hb8
                    have HOW8 := Lib.hid (own_below HOA.out hb8)
                    have HM8 := Lib.hid (HMA.out.later hb8)
                    clear hb8
                    go_wp2_with fail
                    go_roundw
                    case rel => first | exact ⟨p + 1, out, by omega, by go_num, HNN, HM8, HOW8, HBJ.out.trans ((((Below.refl wj.heap.size wj).alloc (Nat.le_refl _) _).trans (HB8.out.mono (by simp))).mono hzj)⟩ | ((repeat apply Exists.intro); exact ⟨⟨p + 1, out, by omega, by go_num, HNN, HM8, HOW8, HBJ.out.trans ((((Below.refl wj.heap.size wj).alloc (Nat.le_refl _) _).trans (HB8.out.mono (by simp))).mono hzj)⟩, rfl⟩)
                    case measure => simp [intOf]; omega
                  · have HNN : Hid (out.set ps (u0, u1, u2) = runR ((ll.take q).flatten ++ x.take (p + 1))) := Lib.hid (by have h := HNX.out; rw [HST.out, HR.out] at h; exact h)
                    go_wp2_with fail
                    refine wp_region_below (by kernel_rfl) (by kernel_rfl) ?_
                    repeat (go_big_quiet_step ((go_at_call 18; refine qBg (c_better _ _ _ _ _ _ _ HR.out _) (by simp) ?_; intro w_ h_; first | exact h_ | exact h_.below | (subst h_; exact Below.refl _ _) | (subst h_; (repeat' (first | (with_reducible exact Below.refl _ _) | (with_reducible assumption) | (with_reducible refine below_drewN ?_ _) | (with_reducible refine Below.drew ?_) | (with_reducible refine Below.alloc ?_ ?_ _) | (with_reducible refine Below.setCell ?_ ?_ _) | go_size))) | (obtain ⟨n_, rfl⟩ := h_; (repeat' (first | (with_reducible exact Below.refl _ _) | (with_reducible assumption) | (with_reducible refine below_drewN ?_ _) | (with_reducible refine Below.drew ?_) | (with_reducible refine Below.alloc ?_ ?_ _) | (with_reducible refine Below.setCell ?_ ?_ _) | go_size))))))
                    refine wpQuiet_nil ?_
                    intro _ hw'
                    obtain ⟨⟨w8, hb8⟩, hw''⟩ := hw'
                    subst hw''
                    rename World => wm
                    have HB8 := Lib.hid (HBJ.out.trans ((((Below.refl wj.heap.size wj).alloc (Nat.le_refl _) _).trans (hb8.mono (by simp))).mono hzj))
                    have HOW8 := Lib.hid (own_below HOA.out hb8)
                    have HM8 := Lib.hid (HMA.out.later hb8)
                    have hb8x := (hb8.block wj.heap.size (by simp)).trans (heap_alloc_new wj (.cells #[.string u0, .int .i64 u1, .int .i64 u2] 38))
                    obtain ⟨x0, x1, x2⟩ := box3R hb8x
                    have q0_ := (resC_cell HOW8.out (List.getElem?_eq_getElem HPOS.out))
                    obtain ⟨l0, l1, l2⟩ := q0_
                    have f0 := World.ownsRow.frozenAt HOW8.out (ps * 3)
                    have f1 := World.ownsRow.frozenAt HOW8.out (ps * 3 + 1)
                    have f2 := World.ownsRow.frozenAt HOW8.out (ps * 3 + 2)
                    have HSTORE := Lib.hid (res_store HOW8.out HPOS.out (u0, u1, u2))
                    have HMS := Lib.hid (((HM8.out.setCell (a := ⟨g, ps * 3, none⟩) (fun e => hgm e.symm) (.string u0)).setCell (a := ⟨g, ps * 3 + 1, none⟩) (fun e => hgm e.symm) (.int .i64 u1)).setCell (a := ⟨g, ps * 3 + 2, none⟩) (fun e => hgm e.symm) (.int .i64 u2))
                    have HBS := Lib.hid (((HB8.out.setCell (show wr.heap.size ≤ (⟨g, ps * 3, none⟩ : Addr).block by show wr.heap.size ≤ g; omega) (.string u0)).setCell (show wr.heap.size ≤ (⟨g, ps * 3 + 1, none⟩ : Addr).block by show wr.heap.size ≤ g; omega) (.int .i64 u1)).setCell (show wr.heap.size ≤ (⟨g, ps * 3 + 2, none⟩ : Addr).block by show wr.heap.size ≤ g; omega) (.int .i64 u2))
                    clear hb8 hb8x
                    go_wp2_with fail
                    go_roundw
                    case rel => first | exact ⟨p + 1, out.set ps (u0, u1, u2), by omega, by go_num, HNN, Lib.hid (by rw [HNM.out]; exact HMS.out), Lib.hid (by rw [List.length_set]; exact HSTORE.out), HBS.out⟩ | ((repeat apply Exists.intro); exact ⟨⟨p + 1, out.set ps (u0, u1, u2), by omega, by go_num, HNN, Lib.hid (by rw [HNM.out]; exact HMS.out), Lib.hid (by rw [List.length_set]; exact HSTORE.out), HBS.out⟩, rfl⟩)
                    case measure => simp [intOf]; omega
                · have hlk := HMA.out.look (t := 42) kS_inj kS_key KEYED Try.underlying42 Try.underlying3 (Z0.out _) hkey (r := false) (by rw [decide_eq_false_iff_not]; exact hmem)
                  have HNN : Hid (out ++ [(u0, u1, u2)] = runR ((ll.take q).flatten ++ x.take (p + 1))) := Lib.hid (by have h := HNX.out; rw [stepR_new hmem] at h; exact h)
                  have hnl := nmR_len out
                  have HNL := Lib.hid hnl
                  generalize posR (nmR out) u0 = ps at *
                  clear hmem hkey hxp hnl
                  go_wp2_with (first
                    | (at_mapUpdate; refine wpList_ixMap _ rfl _ _ _ 42 rfl 9 3 KEYED Try.underlying42 Try.underlying3 wr.heap.size _ rfl HMA.out (by rw [HNL.out]; simp only [maxLen]; omega) _ u0 rfl HKEY.out (by rw [HNL.out]; rfl) ?_; intro w7 hI7 hg7; have HI7 := Lib.hid hI7; have HOW7 := Lib.hid (own_mark HOA.out hg7 (own_ne_old HOA.out (by omega))); have HB7 := Lib.hid (below_mapI (HBJ.out.trans (((Below.refl wj.heap.size wj).alloc (Nat.le_refl _) (.cells #[.string u0, .int .i64 u1, .int .i64 u2] 38)).mono hzj)) hg7 (Nat.le_refl _) (by simp; omega)); obtain ⟨x0, x1, x2⟩ := box3R ((hg7.block wj.heap.size (by simp) (by simp; omega)).trans (heap_alloc_new wj (.cells #[.string u0, .int .i64 u1, .int .i64 u2] 38))); have hz7 := hg7.size; simp only [World.size_alloc] at hz7; clear hI7 hg7)
                    | (at_builtin; refine appS (by rfl) (.tmp 56) (.tmp 58) _ (by rfl) (wr.heap.size + 1) 38 _ 3 32 Try.underlying24 info_Result (by decide) (by decide) _ _ (by rfl) (by simp [Value.oneCell']) _ _ _ (by rfl) HOW7.out (by rfl) (by omega) (by omega) (by omega) ?_; intro v3 w3 hown3 hb3 _; have HO3 := Lib.hid hown3; have HB3 := Lib.hid hb3; clear hown3 hb3))
                  go_roundw
                  case rel => exact ⟨p + 1, out ++ [(u0, u1, u2)], by omega, by go_num, HNN, Lib.hid (by rw [nmR_snoc]; exact HI7.out.belowB HB3.out (by omega)), Lib.hid (by rw [flatR_snoc, List.length_append]; exact HO3.out), HB7.out.trans (HB3.out.mono (by omega))⟩
                  case measure => simp [intOf]; omega
              · obtain rfl : p = m0 := by omega
                have HNX : Hid (out = runR (ll.take (q + 1)).flatten) := Lib.hid (by
                  have h := HRUN.out
                  rw [show x.take p = x from List.take_of_length_le (by omega), ← take_next HX.out] at h
                  exact h)
                go_wp2_with fail
                go_roundw
                case rel => exact ⟨q + 1, out, by omega, by go_num, HNX, HMAPJ, HOWNJ, HBJ.out⟩
                case measure => simp [intOf]; omega
          · obtain rfl : q = k := by omega
            have hfl : out0 = runR ll.flatten := by
              have h := hout.out
              rw [List.take_of_length_le (by have := HL.out; omega)] at h
              exact h
            go_wp2_with fail
            go_ret2
            rw [e1.out.1, e1.out.2, ← hfl]
            exact ResPost.mk_ rfl (own_base hown.out (Nat.le_succ_of_le HB0.out.size)) (HB0.out.trans (hB.mono hz))
end Go.Proofs.Ytkpnkilpaokkcaa
