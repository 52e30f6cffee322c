/- Contract: the best results of rounds (the reference). -/
import Derived.Test.YtkpnkilpaokkcaaRss
import Derived.Test.YtkpnkilpaokkcaaAq
import Derived.Laws.OwnMore
namespace Go.Proofs.Ytkpnkilpaokkcaa
open Go.RowKit Go.BigFrame
attribute [local go_sem] sub_cell sub_frozen drewN_setCell

theorem own_base {w : World} {base base' n sz : Nat} {e : TypeId} {v : Value} {xs : List Value} (h : w.ownsRow base e sz v n xs) (hb : base' ≤ base) : w.ownsRow base' e sz v n xs := by
  refine ⟨h.1, ?_⟩
  rcases h.2 with h1 | ⟨g, cap, cur, hv, hg, r⟩
  · exact .inl h1
  · exact .inr ⟨g, cap, cur, hv, by omega, r⟩
/-- A fresh row of results and a code. -/
def ResPost (zs : List TResult) (code : Int) (w : World) (r : Ending) (w' : World) : Prop :=
  ∃ A c, r = .returned (.tuple #[.slice A zs.length c, .int .i64 code]) ∧ w'.ownsRow w.heap.size 38 3 (.slice A zs.length c) zs.length (flat resultC zs) ∧ Below w.heap.size w w'
theorem ResPost.mk_ {zs : List TResult} {code : Int} {w w' : World} {v : Value} {n : Nat} (hn : zs.length = n) (hown : w'.ownsRow w.heap.size 38 3 v n (flat resultC zs)) (hb : Below w.heap.size w w') : ResPost zs code w (.returned (.tuple #[v, .int .i64 code])) w' := by
  subst hn
  obtain ⟨A, c, rfl⟩ := own_slice hown
  exact ⟨A, c, rfl, hown, hb⟩
theorem ResPost.err {code : Int} {w w' : World} (hb : Below w.heap.size w w') : ResPost [] code w (.returned (.tuple #[.slice none 0 0, .int .i64 code])) w' :=
  ⟨none, 0, rfl, ⟨rfl, .inl ⟨rfl, rfl⟩⟩, hb⟩
theorem flat_set3 {l : List TResult} {k : Nat} (hk : k < l.length) (x : TResult) : flat resultC (l.set k x) = (((flat resultC l).set (k * 3) (.string x.1)).set (k * 3 + 1) (.int .i64 x.2.1)).set (k * 3 + 2) (.int .i64 x.2.2) := by
  induction l generalizing k with
  | nil => simp at hk
  | cons a l ih =>
    cases k with
    | zero => simp [flat, resultC]
    | succ k =>
      have := ih (k := k) (by simpa using hk)
      simp only [flat, List.set_cons_succ, List.flatMap_cons] at *
      rw [this, show (k + 1) * 3 = k * 3 + 3 by omega]
      rfl
theorem resC_cell {w : World} {base n c g k : Nat} {e : TypeId} {l : List TResult} {y : TResult} (h : w.ownsRow base e 3 (.slice (some ⟨g, 0, none⟩) n c) n (flat resultC l)) (hy : l[k]? = some y) :
    w.cell? ⟨g, k * 3, none⟩ = some (.string y.1) ∧ w.cell? ⟨g, k * 3 + 1, none⟩ = some (.int .i64 y.2.1) ∧ w.cell? ⟨g, k * 3 + 2, none⟩ = some (.int .i64 y.2.2) := by
  have hc := fun (j : Nat) (v : Value) hv => by
    have := h.cells (g := g) rfl j v hv
    rwa [Addr.add_lit, Nat.zero_add] at this
  exact ⟨hc _ _ (flat_get resultC_len hy (j := 0) rfl), hc _ _ (flat_get resultC_len hy (j := 1) rfl), hc _ _ (flat_get resultC_len hy (j := 2) rfl)⟩
/-- A result of a row of the call's own is written anew. -/
theorem res_store {w : World} {base n c g k : Nat} {e : TypeId} {l : List TResult} (h : w.ownsRow base e 3 (.slice (some ⟨g, 0, none⟩) n c) n (flat resultC l)) (hk : k < l.length) (x : TResult) :
    (((w.setCell ⟨g, k * 3, none⟩ (.string x.1)).setCell ⟨g, k * 3 + 1, none⟩ (.int .i64 x.2.1)).setCell ⟨g, k * 3 + 2, none⟩ (.int .i64 x.2.2)).ownsRow base e 3 (.slice (some ⟨g, 0, none⟩) n c) n (flat resultC (l.set k x)) := by
  have h1 := (World.ownsRow.stored h (k * 3) (.string x.1)).1
  have h2 := (World.ownsRow.stored h1 (k * 3 + 1) (.int .i64 x.2.1)).1
  have h3 := (World.ownsRow.stored h2 (k * 3 + 2) (.int .i64 x.2.2)).1
  rw [flat_set3 hk]
  exact h3
theorem own_form {w : World} {base n : Nat} {e : TypeId} {v : Value} {l : List TResult} (h : w.ownsRow base e 3 v n (flat resultC l)) (hn : 0 < n) : ∃ g c, v = .slice (some ⟨g, 0, none⟩) n c ∧ base ≤ g ∧ g < w.heap.size := by
  obtain ⟨g, cap, hv, h1, h2⟩ := h.form hn
  exact ⟨g, cap, hv, h1, h2⟩
theorem flatR_snoc (L : List TResult) (x : TResult) : flat resultC (L ++ [x]) = flat resultC L ++ resultC x := by simp [flat]
theorem box3R {w : World} {b : Nat} {x y z : Value} {e : TypeId} (h : w.heap[b]? = some (.cells #[x, y, z] e)) : w.cell? ⟨b, 0, none⟩ = some x ∧ w.cell? ⟨b, 1, none⟩ = some y ∧ w.cell? ⟨b, 2, none⟩ = some z := by
  refine ⟨?_, ?_, ?_⟩ <;> simp [World.cell?, h]
theorem all_take {ll : List (List TResult)} {k : Nat} {l : List TResult} (h : ∀ x ∈ ll.take k, ressB x = true) (hl : ll[k]? = some l) (hr : ressB l = true) : ∀ x ∈ ll.take (k + 1), ressB x = true := by
  intro x hx
  rw [List.take_add_one, hl] at hx
  rcases List.mem_append.1 hx with hx | hx
  · exact h x hx
  · simp only [Option.toList_some, List.mem_singleton] at hx
    rw [hx]; exact hr
set_option maxRecDepth 100000 in
set_option maxHeartbeats 16000000 in
theorem c_sBestOfRounds (A : Option Addr) (n c : Nat) (ll : List (List TResult)) (w : World) (ha : Rss w A n ll) (hsz : RssSz ll) (hm : ∀ l ∈ ll, l.length ≤ 1048576) (hn : n ≤ 1048576) :
    Calls Try.prog 5 #[.slice A n c] w (ResPost (brL ll) (brC ll) w) := by
  have HL := Lib.hid ha.len
  have HA := Lib.hid ha
  have HS := Lib.hid hsz
  have HM := Lib.hid hm
  clear ha hsz hm
  go_enter Try.func5, Try.ntmps5
  go_wp2_with fail
  go_loopw [4] (fun i wr => ∃ k : Nat, k ≤ n ∧ i = .int .i64 k ∧ Hid (∀ x ∈ ll.take k, ressB x = true) ∧ Below w.heap.size w wr) (fun i _ => n - (intOf i).toNat)
  case atStart => exact ⟨0, Nat.zero_le _, rfl, Lib.hid (by simp), Below.refl _ _⟩
  case round =>
    obtain ⟨k, hk, rfl, hok, hB⟩ := hrel
    rename World => wr
    have hz := hB.size
    by_cases hlt : k < n
    · obtain ⟨b, o, S, m, cc, x, rfl, hb1, hb2, hx, c0, hzs⟩ := rss_at HA.out hB hlt
      have HX := Lib.hid hx
      have HZS := Lib.hid hzs
      have hmx := HM.out _ (List.mem_of_getElem? hx)
      have hxm := hzs.1
      have i1 : (k : Int) < n := by omega
      obtain ⟨r, hr⟩ : ∃ r, ressB x = r := ⟨_, rfl⟩
      have C := Lib.hid (c_l22Ok S m cc x r hr wr HZS.out (fun y hy => (HS.out x (List.mem_of_getElem? HX.out)).2 y hy) (by omega))
      have HR := Lib.hid hr
      clear hx hzs hr
      cases r
      · have e1 : Hid (brL ll = [] ∧ brC ll = 1) := Lib.hid (by
          have hf : brOk ll = false := by
            rw [brOk, List.all_eq_false]
            exact ⟨x, List.mem_of_getElem? HX.out, by rw [HR.out]; simp⟩
          constructor <;> simp [brL, brC, hf])
        go_wp2_with (go_at_call 14; refine C.out.mono ?_; rintro r_ w1 ⟨rfl, hb1⟩)
        go_ret2
        rw [e1.out.1, e1.out.2]
        exact ResPost.err (hB.trans (hb1.mono hz))
      · have HN := Lib.hid (all_take hok.out HX.out HR.out)
        clear hok
        go_wp2_with (go_at_call 14; refine C.out.mono ?_; rintro r_ w1 ⟨rfl, hb1⟩; have HB1 := Lib.hid (hB.trans (hb1.mono hz)); clear hb1)
        go_roundw
        case rel => exact ⟨k + 1, by omega, by go_num, HN, HB1.out⟩
        case measure => simp [intOf]; omega
    · obtain rfl : k = n := by omega
      have hall : brOk ll = true := by
        rw [brOk, List.all_eq_true]
        have := hok.out
        rw [List.take_of_length_le (by have := HL.out; omega)] at this
        exact this
      have HALL := Lib.hid hall
      have H40 := Lib.hid (fun l (hl : l ∈ ll) => ress_len ((List.all_eq_true.1 hall) l hl))
      clear hok hall
      by_cases h10 : 10 < k
      · have e1 : Hid (brL ll = [] ∧ brC ll = 2) := Lib.hid (by
          have := HL.out
          constructor <;> simp [brL, brC, HALL.out] <;> omega)
        have t1 : decide ((10 : Int) < (k : Int)) = true := decide_eq_true (by omega)
        go_wp2_with fail
        go_ret2
        rw [e1.out.1, e1.out.2]
        exact ResPost.err hB
      · have e1 : Hid (brL ll = runR ll.flatten ∧ brC ll = 0) := Lib.hid (by
          have := HL.out
          constructor <;> simp [brL, brC, HALL.out] <;> omega)
        have HFL := Lib.hid (flat_le (ll := ll) (m := 40) H40.out)
        have t1 : decide ((10 : Int) < (k : Int)) = false := decide_eq_false (by omega)
        have hk10 : k ≤ 10 := by omega
        have HB0 := Lib.hid hB
        clear hB h10
        go_wp2_with fail
        go_loopw [5, 6] (fun v i wx => ∃ (q : Nat) (out : List TResult), q ≤ k ∧ i = .int .i64 q ∧ Hid (out = runR (ll.take q).flatten) ∧ Hid (wx.ownsRow wr.heap.size 38 3 v out.length (flat resultC out)) ∧ Below wr.heap.size wr wx) (fun _ i _ => k - (intOf i).toNat)
        case atStart => exact ⟨0, [], Nat.zero_le _, rfl, Lib.hid rfl, Lib.hid (World.ownsRow_made wr #[] 0 (Nat.le_refl _) (by simp [maxLen]) rfl), by (repeat' (first | (with_reducible exact Below.refl _ _) | (with_reducible assumption) | (with_reducible refine below_drewN ?_ _) | (with_reducible refine Below.drew ?_) | (with_reducible refine Below.alloc ?_ ?_ _) | (with_reducible refine Below.setCell ?_ ?_ _) | go_size))⟩
        case round =>
          obtain ⟨q, out0, hq, rfl, hout, hown, hB⟩ := hrel
          rename World => wo
          have hzo := hB.size
          by_cases hlt2 : q < k
          · obtain ⟨b, o, S0, m0, c0, x, hA0, hb1, _, hx, cq, hzs⟩ := rss_at HA.out (Below.refl _ _) hlt2
            subst hA0
            have HX := Lib.hid hx
            have h40 := H40.out x (List.mem_of_getElem? hx)
            have hm0 := hzs.1
            have i1 : (q : Int) < k := by omega
            have HXW := Lib.hid hzs
            have HCQ := Lib.hid cq
            have HBW := Lib.hid (HB0.out.trans (hB.mono hz))
            have HFT : (ll.take q).flatten.length ≤ 400 := by
              have h1 := flat_le (ll := ll.take q) (m := 40) (fun l hl => H40.out l (List.mem_of_mem_take hl))
              have h2 : (ll.take q).length * 40 ≤ 10 * 40 := Nat.mul_le_mul_right _ (by rw [List.length_take]; omega)
              omega
            have HOUT := hout
            have HOWN := hown
            have HBO := Lib.hid hB
            clear hx hzs hB cq hout hown
            go_wp2_with fail
            go_loopw [5, 7] (fun v j wx => ∃ (p : Nat) (out : List TResult), p ≤ m0 ∧ j = .int .i64 p ∧ Hid (out = runR ((ll.take q).flatten ++ x.take p)) ∧ Hid (wx.ownsRow wr.heap.size 38 3 v out.length (flat resultC out)) ∧ Below wr.heap.size wr wx) (fun _ j _ => m0 - (intOf j).toNat)
            case atStart => exact ⟨0, out0, Nat.zero_le _, rfl, Lib.hid (by rw [HOUT.out, List.take_zero, List.append_nil]), HOWN, HBO.out⟩
            case round =>
              obtain ⟨p, out, hp, rfl, hrun, hown, hB⟩ := hrel
              rename World => wj
              have hzj := hB.size
              have hBWj := HB0.out.trans (hB.mono hz)
              have HBWj := Lib.hid hBWj
              have hbwj : b < wj.heap.size := by have := hBWj.size; omega
              have cqj := (hBWj.cell (p := ⟨b, o + q, none⟩) hb1).trans HCQ.out
              have HBJ := Lib.hid hB
              have hol : out.length ≤ 440 := by
                have h1 := runR_len ((ll.take q).flatten ++ x.take p)
                rw [← hrun.out, List.length_append, List.length_take] at h1
                omega
              have HRUN := hrun
              have HNUP : Hid ((nmR out).Nodup) := Lib.hid (by show (nmR out).Nodup; rw [hrun.out]; exact runR_nodup _)
              have HOWNJ := hown
              obtain ⟨G', cp, rfl⟩ := own_slice hown.out
              clear hB hBWj hrun hown
              by_cases hlt3 : p < m0
              · obtain ⟨bs, os, u0, u1, u2, rfl, hs1, hs2, hxp, d0_, d1_, d2_⟩ := result_at HXW.out HBWj.out hlt3
                have HXP := Lib.hid hxp
                have i2 : (p : Int) < m0 := by omega
                have hwjs := HBWj.out.size
                clear hxp
                go_wp2_with fail
                go_loopw [9, 10] (fun a j wx => ∃ (y : Nat) (z : Int), y ≤ out.length ∧ j = .int .i64 y ∧ a = .int .i64 z ∧ Hid (lastN out u0 y = z) ∧ Hid (wx.heap[wj.heap.size]? = some (.cells #[.string u0, .int .i64 u1, .int .i64 u2] 38)) ∧ Below wj.heap.size wj wx ∧ wj.heap.size < wx.heap.size) (fun _ j _ => out.length - (intOf j).toNat)
                case atStart => exact ⟨0, -1, Nat.zero_le _, rfl, rfl, Lib.hid rfl, Lib.hid (heap_alloc_new wj _), by (repeat' (first | (with_reducible exact Below.refl _ _) | (with_reducible assumption) | (with_reducible refine below_drewN ?_ _) | (with_reducible refine Below.drew ?_) | (with_reducible refine Below.alloc ?_ ?_ _) | (with_reducible refine Below.setCell ?_ ?_ _) | go_size)), by simp⟩
                case round =>
                  obtain ⟨y, z, hy, rfl, rfl, hlast, hbx, hB, hgt⟩ := hrel
                  rename World => wk
                  have hzk := hB.size
                  have HOWK := Lib.hid (own_below HOWNJ.out hB)
                  obtain ⟨x0, x1, x2⟩ := box3R hbx.out
                  have HBX := hbx
                  have HBK := Lib.hid hB
                  have hlb := lastN_bd out u0 y
                  rw [hlast.out] at hlb
                  by_cases hlt4 : y < out.length
                  · obtain ⟨g, cap, hv, hg1, hg2⟩ := own_form HOWK.out (by omega)
                    simp only [Value.slice.injEq] at hv
                    obtain ⟨rfl, _, rfl⟩ := hv
                    obtain ⟨e, hye⟩ : ∃ e, out[y]? = some e := ⟨_, List.getElem?_eq_getElem hlt4⟩
                    obtain ⟨k0, k1, k2⟩ := resC_cell HOWK.out hye
                    have i3 : (y : Int) < out.length := by omega
                    have HYE := Lib.hid hye
                    have HLAST := hlast
                    clear hye hlast hbx hB
                    by_cases he : e.1 = u0
                    · have e1 := txt_eq he
                      have HN := Lib.hid (lastN_hit HYE.out he)
                      clear he
                      go_wp2_with fail
                      refine wp_region_below (by kernel_rfl) (by kernel_rfl) ?_
                      repeat (go_big_quiet_step (fail))
                      refine wpQuiet_nil ?_
                      intro _ hw'
                      obtain ⟨⟨w8, hb8⟩, hw''⟩ := hw'
                      subst hw''
                      have HB8 := Lib.hid (HBK.out.trans (hb8.mono hzk))
                      have HBX8 := Lib.hid ((hb8.block wj.heap.size hgt).trans HBX.out)
                      have hz8 := hb8.size
                      clear hb8
                      go_wp2_with fail
                      go_roundw
                      case rel => first | exact ⟨y + 1, y, by omega, by go_num, rfl, HN, HBX8, HB8.out, by omega⟩ | ((repeat apply Exists.intro); exact ⟨⟨y + 1, y, by omega, by go_num, rfl, HN, HBX8, HB8.out, by omega⟩, rfl⟩)
                      case measure => simp [intOf]; omega
                    · have e1 := txt_ne he
                      have HN := Lib.hid ((lastN_miss HYE.out he).trans HLAST.out)
                      clear he
                      go_wp2_with fail
                      refine wp_region_below (by kernel_rfl) (by kernel_rfl) ?_
                      repeat (go_big_quiet_step (fail))
                      refine wpQuiet_nil ?_
                      intro _ hw'
                      obtain ⟨⟨w8, hb8⟩, hw''⟩ := hw'
                      subst hw''
                      have HB8 := Lib.hid (HBK.out.trans (hb8.mono hzk))
                      have HBX8 := Lib.hid ((hb8.block wj.heap.size hgt).trans HBX.out)
                      have hz8 := hb8.size
                      clear hb8
                      go_wp2_with fail
                      go_roundw
                      case rel => first | exact ⟨y + 1, z, by omega, by go_num, rfl, HN, HBX8, HB8.out, by omega⟩ | ((repeat apply Exists.intro); exact ⟨⟨y + 1, z, by omega, by go_num, rfl, HN, HBX8, HB8.out, by omega⟩, rfl⟩)
                      case measure => simp [intOf]; omega
                  · obtain rfl : y = out.length := by omega
                    have HNX := Lib.hid ((runR_snoc ((ll.take q).flatten ++ x.take p) (u0, u1, u2)).symm.trans (by rw [← take_flat HX.out HXP.out]))
                    rw [← HRUN.out] at HNX
                    have HBF := Lib.hid (HBJ.out.trans (hB.mono hzj))
                    have hwk : wr.heap.size ≤ wk.heap.size := by omega
                    clear hB hbx
                    by_cases hmem : u0 ∈ nmR out
                    · obtain ⟨e, hye, hen⟩ := pos_at hmem
                      have hpos : posR (nmR out) u0 < out.length := (List.getElem?_eq_some_iff.1 hye).1
                      have hlz := lastN_end HNUP.out hmem out.length (Nat.le_refl _) hpos
                      rw [hlast.out] at hlz
                      have HST := Lib.hid (stepR_old (x := (u0, u1, u2)) hmem hye)
                      generalize posR (nmR out) u0 = ps at *
                      subst hlz
                      obtain ⟨g, cap, hv, hg1, hg2⟩ := own_form HOWK.out (by omega)
                      simp only [Value.slice.injEq] at hv
                      obtain ⟨rfl, _, rfl⟩ := hv
                      obtain ⟨k0, k1, k2⟩ := resC_cell HOWK.out hye
                      obtain ⟨e0, e1, e2⟩ := e
                      have i3 : (ps : Int) < out.length := by omega
                      have t2 : decide ((ps : Int) < 0) = false := decide_eq_false (by omega)
                      obtain ⟨r, hr⟩ : ∃ r, betB (u0, u1, u2) (e0, e1, e2) = r := ⟨_, rfl⟩
                      have C := Lib.hid (c_l22Better u0 e0 u1 u2 e1 e2 wj.heap.size 0 g (ps * 3) r hr wk x1 x2 k1 k2)
                      have HR := Lib.hid hr
                      have f0 := World.ownsRow.frozenAt HOWK.out (ps * 3)
                      have f1 := World.ownsRow.frozenAt HOWK.out (ps * 3 + 1)
                      have f2 := World.ownsRow.frozenAt HOWK.out (ps * 3 + 2)
                      have HSTORE := Lib.hid (fun nd => res_store (own_below HOWK.out (below_drewN (Below.refl wk.heap.size wk) nd)) hpos (u0, u1, u2))
                      have HROW9 := Lib.hid (fun nd => own_below HOWK.out (below_drewN (Below.refl wk.heap.size wk) nd))
                      clear hye hen hmem hlast hr
                      cases r
                      · have HNN : Hid (out = runR ((ll.take q).flatten ++ x.take (p + 1))) := Lib.hid (by have h := HNX.out; rw [HST.out, HR.out] at h; exact h)
                        go_wp2_with (go_at_call 15; refine C.out.mono ?_; rintro r_ w9 ⟨rfl, nd, rfl⟩)
                        go_roundw
                        case rel => exact ⟨p + 1, out, by omega, by go_num, HNN, Lib.hid (HROW9.out _), below_drewN HBF.out _⟩
                        case measure => simp [intOf]; omega
                      · have HNN : Hid (out.set ps (u0, u1, u2) = runR ((ll.take q).flatten ++ x.take (p + 1))) := Lib.hid (by have h := HNX.out; rw [HST.out, HR.out] at h; exact h)
                        go_wp2_with (go_at_call 15; refine C.out.mono ?_; rintro r_ w9 ⟨rfl, nd, rfl⟩)
                        go_roundw
                        case rel => exact ⟨p + 1, out.set ps (u0, u1, u2), by omega, by go_num, HNN, Lib.hid (by rw [List.length_set]; exact HSTORE.out _), ((((below_drewN HBF.out _).setCell (by show wr.heap.size ≤ g; omega) _).setCell (by show wr.heap.size ≤ g; omega) _).setCell (by show wr.heap.size ≤ g; omega) _)⟩
                        case measure => simp [intOf]; omega
                    · have hlz := lastN_none hmem out.length (Nat.le_refl _)
                      rw [hlast.out] at hlz
                      subst hlz
                      have HNN : Hid (out ++ [(u0, u1, u2)] = runR ((ll.take q).flatten ++ x.take (p + 1))) := Lib.hid (by have h := HNX.out; rw [stepR_new hmem] at h; exact h)
                      clear hmem hlast
                      go_wp2_with (at_builtin; refine appS (by rfl) (.tmp 66) (.tmp 68) _ (by rfl) wr.heap.size 38 _ 3 32 Try.underlying24 info_Result (by decide) (by decide) _ _ (by rfl) (by simp [Value.oneCell']) _ _ _ (by rfl) HOWK.out (by rfl) (by omega) (by omega) hwk ?_; intro v3 w3 hown3 hb3 _; have HO3 := Lib.hid hown3; have HB3 := Lib.hid hb3; clear hown3 hb3)
                      go_roundw
                      case rel => exact ⟨p + 1, out ++ [(u0, u1, u2)], by omega, by go_num, HNN, Lib.hid (by rw [flatR_snoc, List.length_append]; exact HO3.out), HBF.out.trans HB3.out⟩
                      case measure => simp [intOf]; omega
              · obtain rfl : p = m0 := by omega
                have HNX : Hid (out = runR (ll.take (q + 1)).flatten) := Lib.hid (by
                  have h := HRUN.out
                  rw [show x.take p = x from List.take_of_length_le (by omega), ← take_next HX.out] at h
                  exact h)
                go_wp2_with fail
                go_roundw
                case rel => exact ⟨q + 1, out, by omega, by go_num, HNX, HOWNJ, HBJ.out⟩
                case measure => simp [intOf]; omega
          · obtain rfl : q = k := by omega
            have hfl : out0 = runR ll.flatten := by
              have h := hout.out
              rw [List.take_of_length_le (by have := HL.out; omega)] at h
              exact h
            go_wp2_with fail
            go_ret2
            rw [e1.out.1, e1.out.2, ← hfl]
            exact ResPost.mk_ rfl (own_base hown.out HB0.out.size) (HB0.out.trans (hB.mono hz))
end Go.Proofs.Ytkpnkilpaokkcaa
