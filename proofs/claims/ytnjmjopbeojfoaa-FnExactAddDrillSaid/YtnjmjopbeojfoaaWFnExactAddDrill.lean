/- The walk of the law FnExactAddDrill: it returns true, and what was there stays as it was. -/
import Derived.Test.YtnjmjopbeojfoaaDr7
import Derived.Test.YtnjmjopbeojfoaaMkDrill
import Derived.Deep.DeepCutAuto
import Derived.Deep.RegionHeld3
import Derived.Test.YtnjmjopbeojfoaaZs
namespace Go.Proofs.Ytnjmjopbeojfoaa.fnExactAddDrill
open Go.RowKit Go.BigFrame
attribute [local go_sem] sub_cell sub_frozen drewN_setCell

set_option maxRecDepth 100000 in
set_option maxHeartbeats 40000000 in
theorem walk (A0 : Option Addr) (n0 c0 : Nat) (l0 : List (TDrill)) (a1_0 : ByteArray) (a1_1 : ByteArray) (a1_2 : Int) (w : World) (w0 : InDrill w A0 n0 l0) (w1_0 : a1_0.size ≤ maxLen) (w1_1 : a1_1.size ≤ maxLen) (w1_2 : (Lit.int .i64 a1_2).wf = true) :
    Calls Try.prog 7 #[.slice A0 n0 c0, .agg #[.string a1_0, .string a1_1, .int .i64 a1_2]] w fun e w' => e = .returned (.bool true) ∧ Below w.heap.size w w' := by
  obtain ⟨ha0, ok0, hm0⟩ := w0
  have HL0 := Lib.hid ha0.1
  have OK0 := Lib.hid ok0
  have HA0 := Lib.hid ha0
  clear ok0 ha0
  have hb0 : n0 ≤ 9223372036854775807 := hm0
  have HU : Hid (∃ u, w.alloc (.cells #[.string a1_0, .string a1_1, .int .i64 a1_2] 27) = u ∧ u.heap.size = w.heap.size + 1 ∧ Below w.heap.size w u ∧ Sl drillC u u.heap.size 3 A0 n0 l0 ∧ u.cell? ⟨w.heap.size, 0, none⟩ = some (.string a1_0) ∧ u.cell? ⟨w.heap.size, 1, none⟩ = some (.string a1_1) ∧ u.cell? ⟨w.heap.size, 2, none⟩ = some (.int .i64 a1_2)) := by
    have hx := box3 (heap_alloc_new w (.cells #[.string a1_0, .string a1_1, .int .i64 a1_2] 27))
    exact ⟨_, rfl, by simp, (Below.refl _ _).alloc (Nat.le_refl _) _, HA0.out.later ((Below.refl _ _).alloc (Nat.le_refl _) _), hx⟩
  obtain ⟨u, hu, hus, UB, ua, ub0, ub1, ub2⟩ := HU.out
  have HE := Lib.hid hu
  have HUA := Lib.hid ua
  have hwu : w.heap.size < u.heap.size := by omega
  clear ua hu HU
  have hw0 : (0 : Int) ≤ ((n0 + sumW drillW l0 : Nat) : Int) := by omega
  by_cases hq0 : 0 ≤ (1048576 : Int) - ((n0 + sumW drillW l0 : Nat) : Int)
  rotate_left
  · have H0 := Lib.hid (fun W h => c_szDrillS A0 n0 c0 l0 ((1048576 : Int)) (-1) W h (fun x hx => by obtain ⟨h0, h1, h2⟩ := OK0.out x hx; exact ⟨h0, h1⟩) hm0 (by omega) (by omega) (szV_neg (n := n0 + sumW drillW l0) (left := (1048576 : Int)) (by omega)))
    go_enter Try.func7, Try.ntmps7
    go_wp2_with fail
    rw [HE.out]
    refine (H0.out _ HUA.out).mono ?_
    rintro r_ wz1 ⟨rfl, bz1⟩
    have z1 := bz1
    have p0 := (z1.cell (p := ⟨w.heap.size, 0, none⟩) hwu).trans ub0
    have p1 := (z1.cell (p := ⟨w.heap.size, 1, none⟩) hwu).trans ub1
    have p2 := (z1.cell (p := ⟨w.heap.size, 2, none⟩) hwu).trans ub2
    go_wp2_with fail
    go_returns
    exact ⟨rfl, UB.trans (z1.mono (by omega))⟩
  have H0 := Lib.hid (fun W h => c_szDrillS A0 n0 c0 l0 ((1048576 : Int)) ((1048576 : Int) - ((n0 + sumW drillW l0 : Nat) : Int)) W h (fun x hx => by obtain ⟨h0, h1, h2⟩ := OK0.out x hx; exact ⟨h0, h1⟩) hm0 (by omega) (by omega) (szV_pos (n := n0 + sumW drillW l0) (left := (1048576 : Int)) hq0))
  have hw1 : (0 : Int) ≤ ((a1_0.size + a1_1.size : Nat) : Int) := by omega
  by_cases hq1 : 0 ≤ ((1048576 : Int) - ((n0 + sumW drillW l0 : Nat) : Int)) - ((a1_0.size + a1_1.size : Nat) : Int)
  rotate_left
  · have H1 := Lib.hid (fun W => c_szDrill a1_0 a1_1 a1_2 (((1048576 : Int) - ((n0 + sumW drillW l0 : Nat) : Int))) (-1) (szV_neg (n := a1_0.size + a1_1.size) (left := ((1048576 : Int) - ((n0 + sumW drillW l0 : Nat) : Int))) (by omega)) (by omega) (by omega) w1_0 w1_1 W)
    go_enter Try.func7, Try.ntmps7
    go_wp2_with fail
    rw [HE.out]
    refine (H0.out _ HUA.out).mono ?_
    rintro r_ wz1 ⟨rfl, bz1⟩
    have z1 := bz1
    have p0 := (z1.cell (p := ⟨w.heap.size, 0, none⟩) hwu).trans ub0
    have p1 := (z1.cell (p := ⟨w.heap.size, 1, none⟩) hwu).trans ub1
    have p2 := (z1.cell (p := ⟨w.heap.size, 2, none⟩) hwu).trans ub2
    go_wp2_with fail
    refine (H1.out _).mono ?_
    rintro r_ wz2 ⟨rfl, bz2⟩
    have z2 := z1.trans (bz2.mono z1.size)
    go_wp2_with fail
    go_returns
    exact ⟨rfl, UB.trans (z2.mono (by omega))⟩
  have H1 := Lib.hid (fun W => c_szDrill a1_0 a1_1 a1_2 (((1048576 : Int) - ((n0 + sumW drillW l0 : Nat) : Int))) (((1048576 : Int) - ((n0 + sumW drillW l0 : Nat) : Int)) - ((a1_0.size + a1_1.size : Nat) : Int)) (szV_pos (n := a1_0.size + a1_1.size) (left := ((1048576 : Int) - ((n0 + sumW drillW l0 : Nat) : Int))) hq1) (by omega) (by omega) w1_0 w1_1 W)
  have hn0 : n0 ≤ 1048576 := by omega
  obtain ⟨zs, hv_zs⟩ : ∃ z : List TDrill, addL l0 (a1_0, a1_1, a1_2) = z := ⟨_, rfl⟩
  obtain ⟨v, hv_v⟩ : ∃ z : Int, addC l0 (a1_0, a1_1, a1_2) = z := ⟨_, rfl⟩
  have hz0 : zs.length ≤ 40 := hv_zs ▸ addL_len l0 (a1_0, a1_1, a1_2)
  have C1 : Hid (∀ (B0 : Option Addr) (W : World), Sl drillC W W.heap.size 3 B0 n0 l0 → Calls Try.prog 27 #[.slice B0 n0 n0, .agg #[.string a1_0, .string a1_1, .int .i64 a1_2]] W (DrillsPost zs v W)) := fun B0 W h0 => hv_zs ▸ hv_v ▸ c_sAddDrill _ _ _ _ _ _ _ W h0 (fun x hx => by obtain ⟨h0, h1, h2⟩ := OK0.out x hx; exact ⟨h0, h1⟩) hn0 (Nat.le_refl _) w1_0 w1_1
  have C2 : Hid (∀ (B0 : Option Addr) (W : World), Sl drillC W W.heap.size 3 B0 n0 l0 → Calls Try.prog 28 #[.slice B0 n0 n0, .agg #[.string a1_0, .string a1_1, .int .i64 a1_2]] W (DrillsPost zs v W)) := fun B0 W h0 => hv_zs ▸ hv_v ▸ c_iAddDrill _ _ _ _ _ _ _ W h0 (fun x hx => by obtain ⟨h0, h1, h2⟩ := OK0.out x hx; exact ⟨h0, h1⟩) hn0 w1_0 w1_1
  clear hv_zs hv_v
  have hq1 : ¬ ((1 : Int) + (n0 : Int) * 3 < 0) := by omega
  have hq2 : ¬ ((1 : Int) + (zs.length : Int) * 3 < 0) := by omega
  go_enter Try.func7, Try.ntmps7
  go_wp2_with fail
  rw [HE.out]
  refine (H0.out _ HUA.out).mono ?_
  rintro r_ wz1 ⟨rfl, bz1⟩
  have z1 := bz1
  have p0 := (z1.cell (p := ⟨w.heap.size, 0, none⟩) hwu).trans ub0
  have p1 := (z1.cell (p := ⟨w.heap.size, 1, none⟩) hwu).trans ub1
  have p2 := (z1.cell (p := ⟨w.heap.size, 2, none⟩) hwu).trans ub2
  go_wp2_with fail
  refine (H1.out _).mono ?_
  rintro r_ wz2 ⟨rfl, bz2⟩
  have z2 := z1.trans (bz2.mono z1.size)
  go_upto_region 8 with (fail)
  go_cut [6, 7] (fun s6 s7 wx => ∃ Aw cw, s6 = .slice Aw zs.length cw ∧ s7 = .int .i64 v ∧ Hid (wx.ownsRow wz2.heap.size 31 3 (.slice Aw zs.length cw) zs.length (flat drillC zs)) ∧ Below u.heap.size u wx)
  case first =>
    have hz2 := z2.size
    have q0 := (z2.cell (p := ⟨w.heap.size, 0, none⟩) hwu).trans ub0
    have q1 := (z2.cell (p := ⟨w.heap.size, 1, none⟩) hwu).trans ub1
    have q2 := (z2.cell (p := ⟨w.heap.size, 2, none⟩) hwu).trans ub2
    go_region_held3 (fun w' => w'.cell? ⟨w.heap.size, 0, none⟩ = some (.string a1_0) ∧ w'.cell? ⟨w.heap.size, 1, none⟩ = some (.string a1_1) ∧ w'.cell? ⟨w.heap.size, 2, none⟩ = some (.int .i64 a1_2)) (first | go_keep | exact S3 | exact S2 | exact S1) (first | (go_at_call 22; refine (c_toDrillS _ _ _ _ _ (HUA.out.later (by (repeat' (first | (with_reducible exact Below.refl _ _) | (with_reducible assumption) | (with_reducible refine below_drewN ?_ _) | (with_reducible refine Below.drew ?_) | (with_reducible refine Below.alloc ?_ ?_ _) | (with_reducible refine Below.setCell ?_ ?_ _) | go_size)))) hn0).mono ?_; rintro r_ x1 ⟨rfl, t1, b1⟩; have g1 : Below u.heap.size u x1 := later b1 (by (repeat' (first | (with_reducible exact Below.refl _ _) | (with_reducible assumption) | (with_reducible refine below_drewN ?_ _) | (with_reducible refine Below.drew ?_) | (with_reducible refine Below.alloc ?_ ?_ _) | (with_reducible refine Below.setCell ?_ ?_ _) | go_size))); have g1z := g1.size; have k1 : Below wz2.heap.size wz2 x1 := later b1 (by (repeat' (first | (with_reducible exact Below.refl _ _) | (with_reducible assumption) | (with_reducible refine below_drewN ?_ _) | (with_reducible refine Below.drew ?_) | (with_reducible refine Below.alloc ?_ ?_ _) | (with_reducible refine Below.setCell ?_ ?_ _) | go_size))); have k1z := k1.size; have S1 := And.intro ((g1.cell (p := ⟨w.heap.size, 0, none⟩) hwu).trans ub0) (And.intro ((g1.cell (p := ⟨w.heap.size, 1, none⟩) hwu).trans ub1) ((g1.cell (p := ⟨w.heap.size, 2, none⟩) hwu).trans ub2)); have X1 := Lib.hid (drill_slOwn (base := wz2.heap.size) t1 HL0.out (by first | omega | (simp; done) | (simp; omega)) hm0); clear t1 b1) | (go_at_call 18; refine (c_toDrill _ _ _ _).mono ?_; rintro r_ x2 ⟨rfl, hw_⟩; have b2 := show Below _ _ x2 from hw_ ▸ (((Below.refl _ _).alloc (Nat.le_refl _) _).alloc (by simp) _).alloc (by simp; omega) _; have g2 : Below u.heap.size u x2 := later b2 (by (repeat' (first | (with_reducible exact Below.refl _ _) | (with_reducible assumption) | (with_reducible refine below_drewN ?_ _) | (with_reducible refine Below.drew ?_) | (with_reducible refine Below.alloc ?_ ?_ _) | (with_reducible refine Below.setCell ?_ ?_ _) | go_size))); have k2 : Below wz2.heap.size wz2 x2 := later b2 (by (repeat' (first | (with_reducible exact Below.refl _ _) | (with_reducible assumption) | (with_reducible refine below_drewN ?_ _) | (with_reducible refine Below.drew ?_) | (with_reducible refine Below.alloc ?_ ?_ _) | (with_reducible refine Below.setCell ?_ ?_ _) | go_size))); have g2z := g2.size; have k2z := k2.size; have S2 := And.intro ((g2.cell (p := ⟨w.heap.size, 0, none⟩) hwu).trans ub0) (And.intro ((g2.cell (p := ⟨w.heap.size, 1, none⟩) hwu).trans ub1) ((g2.cell (p := ⟨w.heap.size, 2, none⟩) hwu).trans ub2)); (try have X1 := Lib.hid (own_below X1.out b2)); clear hw_ b2) | (go_at_call 27; refine (C1.out _ _ (drill_own HL0.out X1.out)).mono ?_; rintro r_ x3 ⟨Ay, cy, rfl, o3, b3⟩; have g3 : Below u.heap.size u x3 := later b3 (by (repeat' (first | (with_reducible exact Below.refl _ _) | (with_reducible assumption) | (with_reducible refine below_drewN ?_ _) | (with_reducible refine Below.drew ?_) | (with_reducible refine Below.alloc ?_ ?_ _) | (with_reducible refine Below.setCell ?_ ?_ _) | go_size))); have O3 := Lib.hid (own_base (base' := wz2.heap.size) o3 (by first | exact k2z | exact k1z)); have S3 := And.intro ((g3.cell (p := ⟨w.heap.size, 0, none⟩) hwu).trans ub0) (And.intro ((g3.cell (p := ⟨w.heap.size, 1, none⟩) hwu).trans ub1) ((g3.cell (p := ⟨w.heap.size, 2, none⟩) hwu).trans ub2)); clear o3 b3))
    all_goals
      go_wp2_with fail
      go_meet
      case rel => exact ⟨Ay, cy, rfl, rfl, O3, g3⟩
  case rest =>
    obtain ⟨Aw, cw, rfl, rfl, OW, e3⟩ := hcut
    have o3 := OW.out
    rename World => w3
    go_wp2_with fail
    refine (c_toDrillS _ _ _ _ _ (HUA.out.later e3) hn0).mono ?_
    rintro r_ w4 ⟨rfl, t4, b4⟩
    have e4 := e3.trans (b4.mono e3.size)
    have o3_4 := own_below o3 b4
    have x4 := drill_slOwn t4 HL0.out (Nat.le_refl _) hm0
    have p0 := (e4.cell (p := ⟨w.heap.size, 0, none⟩) hwu).trans ub0
    have p1 := (e4.cell (p := ⟨w.heap.size, 1, none⟩) hwu).trans ub1
    have p2 := (e4.cell (p := ⟨w.heap.size, 2, none⟩) hwu).trans ub2
    go_wp2_with fail
    clear p0 p1 p2
    refine (c_toDrill _ _ _ _).mono ?_
    rintro r_ w5 ⟨rfl, hw_⟩
    have b5 := show Below _ _ w5 from hw_ ▸ (((Below.refl _ _).alloc (Nat.le_refl _) _).alloc (by simp) _).alloc (by simp; omega) _
    clear hw_
    have e5 := e4.trans (b5.mono e4.size)
    have o3_5 := own_below o3_4 b5
    have x4_5 := own_below x4 b5
    go_wp2_with fail
    refine (C2.out _ _ (drill_own HL0.out x4_5)).mono ?_
    rintro r_ w6 ⟨Ag, cg, rfl, o6, b6⟩
    have e6 := e5.trans (b6.mono e5.size)
    have o3_6 := own_below o3_5 b6
    have x4_6 := own_below x4_5 b6
    go_wp2_with fail
    refine (c_eqDrillS _ _ _ _ _ _ _ (drill_own rfl o6) (drill_own rfl o3_6) (by omega)).mono ?_
    rintro r_ w7 ⟨rfl, b7⟩
    have e7 := e6.trans (b7.mono e6.size)
    have o3_7 := own_below o3_6 b7
    have x4_7 := own_below x4_6 b7
    have o6_7 := own_below o6 b7
    go_wp2_with fail
    refine (c_toDrillS _ _ _ _ _ (HUA.out.later e7) hn0).mono ?_
    rintro r_ w8 ⟨rfl, t8, b8⟩
    have e8 := e7.trans (b8.mono e7.size)
    have o3_8 := own_below o3_7 b8
    have x4_8 := own_below x4_7 b8
    have o6_8 := own_below o6_7 b8
    have x8 := drill_slOwn t8 HL0.out (Nat.le_refl _) hm0
    go_wp2_with fail
    refine (c_eqDrillS _ _ _ _ _ _ _ (drill_own HL0.out x4_8) (drill_own HL0.out x8) (by omega)).mono ?_
    rintro r_ w9 ⟨rfl, b9⟩
    have e9 := e8.trans (b9.mono e8.size)
    have o3_9 := own_below o3_8 b9
    have x4_9 := own_below x4_8 b9
    have o6_9 := own_below o6_8 b9
    have x8_9 := own_below x8 b9
    go_wp2_with fail
    refine (c_markDrillS _ _ _ _ _ (1) _ HL0.out x4_9 (by omega) (by omega) (by omega)).mono ?_
    rintro r_ w10 ⟨rfl, y10, m10⟩
    have e10 := below_mark e9 m10 x4_9 (e3.size) e9.size
    have o3_10 := World.ownsRow.kept o3_9 m10 (own_sep o3 x4 (Nat.le_refl _))
    have o6_10 := World.ownsRow.kept o6_9 m10 (own_sep' x4 o6 b5.size)
    go_wp2_with fail
    refine (c_eqDrillS _ _ _ _ _ _ _ (drill_own rfl o6_10) (drill_own rfl o3_10) (by omega)).mono ?_
    rintro r_ w11 ⟨rfl, b11⟩
    have e11 := e10.trans (b11.mono e10.size)
    have o3_11 := own_below o3_10 b11
    have o6_11 := own_below o6_10 b11
    go_wp2_with fail
    refine (c_markDrillS _ _ _ _ _ 1 _ rfl o6_11 (by omega) (by omega) (by omega)).mono ?_
    rintro r_ w12 ⟨rfl, y12, m12⟩
    have e12 := below_mark e11 m12 o6_11 (e5.size) e11.size
    have o3_12 := World.ownsRow.kept o3_11 m12 (own_sep o3 o6 (Nat.le_trans b4.size b5.size))
    go_wp2_with fail
    refine (c_heldDrillS _ _ _ 1 _ (drill_own (drillMs_len 1 _) y12) (by omega) (by omega) (by omega)).mono ?_
    rintro r_ w13 ⟨rfl, b13⟩
    have e13 := e12.trans (b13.mono e12.size)
    have o3_13 := own_below o3_12 b13
    have o6_13 := own_below y12 b13
    have hzw13 := e13.size
    have q0 := (e13.cell (p := ⟨w.heap.size, 0, none⟩) hwu).trans ub0
    have q1 := (e13.cell (p := ⟨w.heap.size, 1, none⟩) hwu).trans ub1
    have q2 := (e13.cell (p := ⟨w.heap.size, 2, none⟩) hwu).trans ub2
    have HO3 := Lib.hid o3_13
    have HO6 := Lib.hid o6_13
    clear o3_13 o6_13 y12 x8_9
    go_wp2_with fail
    go_region_held3 (fun w' => w'.cell? ⟨w.heap.size, 0, none⟩ = some (.string a1_0) ∧ w'.cell? ⟨w.heap.size, 1, none⟩ = some (.string a1_1) ∧ w'.cell? ⟨w.heap.size, 2, none⟩ = some (.int .i64 a1_2)) (first | go_keep | exact S3 | exact S2 | exact S1) (first | (go_at_call 22; refine (c_toDrillS _ _ _ _ _ (HUA.out.later (by (repeat' (first | (with_reducible exact Below.refl _ _) | (with_reducible assumption) | (with_reducible refine below_drewN ?_ _) | (with_reducible refine Below.drew ?_) | (with_reducible refine Below.alloc ?_ ?_ _) | (with_reducible refine Below.setCell ?_ ?_ _) | go_size)))) hn0).mono ?_; rintro r_ x1 ⟨rfl, t1, b1⟩; have g1 : Below u.heap.size u x1 := later b1 (by (repeat' (first | (with_reducible exact Below.refl _ _) | (with_reducible assumption) | (with_reducible refine below_drewN ?_ _) | (with_reducible refine Below.drew ?_) | (with_reducible refine Below.alloc ?_ ?_ _) | (with_reducible refine Below.setCell ?_ ?_ _) | go_size))); have k1 : Below w13.heap.size w13 x1 := later b1 (by (repeat' (first | (with_reducible exact Below.refl _ _) | (with_reducible assumption) | (with_reducible refine below_drewN ?_ _) | (with_reducible refine Below.drew ?_) | (with_reducible refine Below.alloc ?_ ?_ _) | (with_reducible refine Below.setCell ?_ ?_ _) | go_size))); have g1z := g1.size; have k1z := k1.size; have S1 := And.intro ((g1.cell (p := ⟨w.heap.size, 0, none⟩) hwu).trans ub0) (And.intro ((g1.cell (p := ⟨w.heap.size, 1, none⟩) hwu).trans ub1) ((g1.cell (p := ⟨w.heap.size, 2, none⟩) hwu).trans ub2)); have X1 := Lib.hid (drill_slOwn (base := w13.heap.size) t1 HL0.out (by first | omega | (simp; done) | (simp; omega)) hm0); clear t1 b1) | (go_at_call 18; refine (c_toDrill _ _ _ _).mono ?_; rintro r_ x2 ⟨rfl, hw_⟩; have b2 := show Below _ _ x2 from hw_ ▸ (((Below.refl _ _).alloc (Nat.le_refl _) _).alloc (by simp) _).alloc (by simp; omega) _; have g2 : Below u.heap.size u x2 := later b2 (by (repeat' (first | (with_reducible exact Below.refl _ _) | (with_reducible assumption) | (with_reducible refine below_drewN ?_ _) | (with_reducible refine Below.drew ?_) | (with_reducible refine Below.alloc ?_ ?_ _) | (with_reducible refine Below.setCell ?_ ?_ _) | go_size))); have k2 : Below w13.heap.size w13 x2 := later b2 (by (repeat' (first | (with_reducible exact Below.refl _ _) | (with_reducible assumption) | (with_reducible refine below_drewN ?_ _) | (with_reducible refine Below.drew ?_) | (with_reducible refine Below.alloc ?_ ?_ _) | (with_reducible refine Below.setCell ?_ ?_ _) | go_size))); have g2z := g2.size; have k2z := k2.size; have S2 := And.intro ((g2.cell (p := ⟨w.heap.size, 0, none⟩) hwu).trans ub0) (And.intro ((g2.cell (p := ⟨w.heap.size, 1, none⟩) hwu).trans ub1) ((g2.cell (p := ⟨w.heap.size, 2, none⟩) hwu).trans ub2)); (try have X1 := Lib.hid (own_below X1.out b2)); clear hw_ b2) | (go_at_call 28; refine (C2.out _ _ (drill_own HL0.out X1.out)).mono ?_; rintro r_ x3 ⟨Ah, ch, rfl, o16, b3⟩; have e16 : Below u.heap.size u x3 := later b3 (by (repeat' (first | (with_reducible exact Below.refl _ _) | (with_reducible assumption) | (with_reducible refine below_drewN ?_ _) | (with_reducible refine Below.drew ?_) | (with_reducible refine Below.alloc ?_ ?_ _) | (with_reducible refine Below.setCell ?_ ?_ _) | go_size))); have k3 : Below w13.heap.size w13 x3 := later b3 (by (repeat' (first | (with_reducible exact Below.refl _ _) | (with_reducible assumption) | (with_reducible refine below_drewN ?_ _) | (with_reducible refine Below.drew ?_) | (with_reducible refine Below.alloc ?_ ?_ _) | (with_reducible refine Below.setCell ?_ ?_ _) | go_size))); have O16 := Lib.hid o16; have S3 := And.intro ((e16.cell (p := ⟨w.heap.size, 0, none⟩) hwu).trans ub0) (And.intro ((e16.cell (p := ⟨w.heap.size, 1, none⟩) hwu).trans ub1) ((e16.cell (p := ⟨w.heap.size, 2, none⟩) hwu).trans ub2)); clear o16 b3))
    all_goals
      have o16 := O16.out
      have o3_16 := own_below HO3.out k3
      have o6_16 := own_below HO6.out k3
      rename World => w16
      go_wp2_with fail
      refine (c_eqDrillS _ _ _ _ _ _ _ (drill_own rfl o16) (drill_own rfl o3_16) (by omega)).mono ?_
      rintro r_ w17 ⟨rfl, b17⟩
      have e17 := e16.trans (b17.mono e16.size)
      have o3_17 := own_below o3_16 b17
      have o6_17 := own_below o6_16 b17
      have o16_17 := own_below o16 b17
      go_wp2_with fail
      refine (c_heldDrillS _ _ _ 1 _ (drill_own (drillMs_len 1 _) o6_17) (by omega) (by omega) (by omega)).mono ?_
      rintro r_ w18 ⟨rfl, b18⟩
      have e18 := e17.trans (b18.mono e17.size)
      have o6_18 := own_below o6_17 b18
      go_wp2_with fail
      go_returns
      exact ⟨rfl, UB.trans (e18.mono (by omega))⟩
end Go.Proofs.Ytnjmjopbeojfoaa.fnExactAddDrill
