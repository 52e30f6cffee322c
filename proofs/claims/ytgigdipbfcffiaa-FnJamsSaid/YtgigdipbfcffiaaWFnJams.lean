/- The walk of the law FnJams: it returns true, and what was there stays as it was. -/
import Derived.Test.YtgigdipbfcffiaaJd
namespace Go.Proofs.Ytgigdipbfcffiaa.fnJams
open Go.RowKit Go.BigFrame
attribute [local go_sem] sub_cell sub_frozen drewN_setCell

theorem rise_mono {L : List (Int × Int)} (h : ∀ i s t, L[i]? = some s → L[i + 1]? = some t → s.2 ≤ t.2) {i k : Nat} {s t : Int × Int} (hk : i ≤ k) (hs : L[i]? = some s) (ht : L[k]? = some t) : s.2 ≤ t.2 := by
  induction hk generalizing t with
  | refl => rw [hs] at ht; simp only [Option.some.injEq] at ht; subst ht; exact Int.le_refl _
  | step hm ih =>
    rename_i m
    have hl := (List.getElem?_eq_some_iff.1 ht).1
    have h1 := ih (List.getElem?_eq_getElem (show m < L.length by omega))
    exact Int.le_trans h1 (h m _ _ (List.getElem?_eq_getElem (show m < L.length by omega)) ht)
theorem gl_stl {B : Int} {L : List (Int × Int)} (h : GL B 200 L) (hl : L.length ≤ 11) : StL B L :=
  ⟨by omega, fun s hs => by obtain ⟨p, q, r, u⟩ := h.1 s hs; exact ⟨p, q, r, by omega⟩, h.2⟩
def o1 (o : Option (Nat × Nat)) : Int := match o with | none => -1 | some z => (z.1 : Int)
def o2 (o : Option (Nat × Nat)) : Int := match o with | none => -1 | some z => (z.2 : Int)
/-- The first jam as it is told. -/
theorem fj_form (q : Nat → Nat → Bool) (m : Nat) : ∃ iv kv ev : Int, ∃ rb : Bool, fjR (fjx q m) = .tuple #[.int .i64 iv, .int .i64 kv, .int .i64 ev] ∧ (ev == 0) = rb ∧ decide ((0 : Int) < ((cntX q m : Nat) : Int)) = rb ∧
    ((ev = 3 ∧ fjx q m = none) ∨ ∃ z, fjx q m = some z ∧ iv = z.1 ∧ kv = z.2) := by
  cases h : fjx q m with
  | none =>
    have := (cntX_zero q m).2 h
    exact ⟨0, 0, 3, false, rfl, rfl, by rw [this]; rfl, .inl ⟨rfl, rfl⟩⟩
  | some z =>
    have : cntX q m ≠ 0 := fun e => by rw [(cntX_zero q m).1 e] at h; cases h
    exact ⟨z.1, z.2, 0, true, rfl, rfl, decide_eq_true (by omega), .inr ⟨z, rfl, rfl, rfl⟩⟩
theorem jm_tick {R F C N : Int} {s t : Int × Int} (h : t.2 ≤ s.2) {r : Bool} (hr : jmV R F C N s t = r) : decide (waitV R F C N s.1 t.1 ≤ s.2 - t.2) = !r := by
  have e : absV (s.2 - t.2) = s.2 - t.2 := if_neg (by omega)
  rw [← hr, jmV, e]
  by_cases h1 : s.2 - t.2 < waitV R F C N s.1 t.1
  · rw [decide_eq_true h1, decide_eq_false (by omega)]; rfl
  · rw [decide_eq_false h1, decide_eq_true (by omega)]; rfl

set_option maxRecDepth 100000 in
set_option maxHeartbeats 16000000 in
theorem walk (A0 : Option Addr) (n0 c0 : Nat) (A1 : Option Addr) (n1 c1 : Nat) (w : World) (w0 : InB w A0 n0) (w1 : InB w A1 n1) :
    Calls Try.prog 5 #[.slice A0 n0 c0, .slice A1 n1 c1] w fun e w' => e = .returned (.bool true) ∧ Below w.heap.size w w' := by
  obtain ⟨hb0, hn0⟩ := w0
  obtain ⟨hb1, hn1⟩ := w1
  have HA0 := Lib.hid hb0
  have HA1 := Lib.hid hb1
  clear hb0 hb1
  by_cases hl : (decide (3000 < n0) || decide (3000 < n1)) = true
  · have HL := Lib.hid hl
    clear hl
    go_enter Try.func5, Try.ntmps5
    go_wp2_with (go_at_call 6; refine (c_a2Long _ _ _ _ _ _ true _ HL.out).mono ?_; rintro r_ w1 ⟨rfl, rfl⟩)
    go_returns
    exact ⟨rfl, by (repeat' (first | (with_reducible exact Below.refl _ _) | (with_reducible assumption) | (with_reducible refine below_drewN ?_ _) | (with_reducible refine Below.drew ?_) | (with_reducible refine Below.alloc ?_ ?_ _) | (with_reducible refine Below.setCell ?_ ?_ _) | go_size))⟩
  · have hl2 : (decide (3000 < n0) || decide (3000 < n1)) = false := by simpa using hl
    have HL := Lib.hid hl2
    have e0 : n0 ≤ 3000 := by simp at hl; omega
    have e1 : n1 ≤ 3000 := by simp at hl; omega
    clear hl hl2
    go_enter Try.func5, Try.ntmps5
    go_wp2_with (go_at_call 6; refine (c_a2Long _ _ _ _ _ _ false _ HL.out).mono ?_; rintro r_ w1 ⟨rfl, rfl⟩)
    refine (c_A2Basket A0 n0 c0 _ (HA0.out.later (by (repeat' (first | (with_reducible exact Below.refl _ _) | (with_reducible assumption) | (with_reducible refine below_drewN ?_ _) | (with_reducible refine Below.drew ?_) | (with_reducible refine Below.alloc ?_ ?_ _) | (with_reducible refine Below.setCell ?_ ?_ _) | go_size)))) (by omega)).mono ?_
    rintro r_ w1 ⟨b, R, F, C, N, rfl, h1, h2, h3, h4, h5, h6, h7, h8, h9, h10, hb1⟩
    have hz1 := hb1.size
    have hO : OkK b R F C N := ⟨by omega, by omega, by omega, by omega, by omega, by omega, by omega, by omega, by omega, by omega⟩
    have HO := Lib.hid hO
    have hbb : 1 ≤ b ∧ b ≤ 16 := by omega
    obtain ⟨hb0, hb16⟩ := hbb
    have H1 : Hid (BkAt (w1.alloc (.cells #[.int .i64 b, .int .i64 R, .int .i64 F, .int .i64 C, .int .i64 N] 41)) w1.heap.size b R F C N) := Lib.hid (by show _ = _; simp [World.alloc, -World.alloc_eq])
    obtain ⟨p10, p11, p12, p13, p14, _⟩ := cells5_of H1.out
    clear hO h1 h2 h3 h4 h5 h6 h7 h8 h9 h10
    go_wp2_with fail
    refine (c_A2Strokes A1 n1 c1 b R F C N _ (HA1.out.later (by (repeat' (first | (with_reducible exact Below.refl _ _) | (with_reducible assumption) | (with_reducible refine below_drewN ?_ _) | (with_reducible refine Below.drew ?_) | (with_reducible refine Below.alloc ?_ ?_ _) | (with_reducible refine Below.setCell ?_ ?_ _) | go_size)))) (by omega) hb0 hb16).mono ?_
    rintro r_ w2 ⟨L, A, c, rfl, hL, hl11, hG, hb2⟩
    have H2 := Lib.hid ((hb2.block w1.heap.size (by go_size)).trans H1.out)
    obtain ⟨p20, p21, p22, p23, p24, _⟩ := cells5_of H2.out
    have hB2 := later hb2 (w := w) (by (repeat' (first | (with_reducible exact Below.refl _ _) | (with_reducible assumption) | (with_reducible refine below_drewN ?_ _) | (with_reducible refine Below.drew ?_) | (with_reducible refine Below.alloc ?_ ?_ _) | (with_reducible refine Below.setCell ?_ ?_ _) | go_size)))
    have hz2 := hB2.size
    have hq2 : w1.heap.size < w2.heap.size := by have := hb2.size; simp at this; omega
    have HST := Lib.hid (gl_stl hG hl11)
    have HGL := Lib.hid hG
    obtain ⟨q, hq⟩ : ∃ q, jmL R F C N L = q := ⟨_, rfl⟩
    have CF := Lib.hid (fun w hw => hq ▸ c_FirstJam b R F C N HO.out A L.length c L HST.out w hw)
    have CC := Lib.hid (fun w hw => hq ▸ c_CountJams b R F C N HO.out A L.length c L HST.out w hw)
    have CP := Lib.hid (fun w hw => hq ▸ c_PrintedOf b R F C N HO.out A L.length c L HST.out w hw)
    have HOK := HO
    have CM := Lib.hid (fun a e (a0 : 0 ≤ a) (a1 : a < b) (e0 : 0 ≤ e) (e1 : e < b) w => c_MustWait b R F C N a e HO.out a0 a1 e0 e1 w)
    obtain ⟨m, hm⟩ : ∃ m, L.length = m := ⟨_, rfl⟩
    rw [hm] at CF CC CP hL hl11
    have HM := Lib.hid hm
    have HQ := Lib.hid hq
    have HLS := Lib.hid hL
    clear hq hm hL hG hb2 p10 p11 p12 p13 p14 HO
    rw [HM.out]
    obtain ⟨iv, kv, ev, rb, hfj, hr1, hr2, hfin⟩ := fj_form q m
    rw [hfj] at CF
    have hcl := cntX_le q m m (Nat.le_refl _)
    have hcm : m * m ≤ 11 * 11 := Nat.mul_le_mul (by omega) (by omega)
    have hcl2 : cntX q m ≤ 121 := by omega
    obtain ⟨cn, hcn⟩ : ∃ cn : Int, ((cntX q m : Nat) : Int) = cn := ⟨_, rfl⟩
    have hcn2 : cn ≤ 121 := by omega
    have hcn0 : 0 ≤ cn := by omega
    rw [hcn] at CC hr2
    have HCN := Lib.hid hcn
    have HFIN := Lib.hid hfin
    clear hfj hcn hfin hcl hcm hcl2
    go_wp2_with fail
    refine (CF.out _ HLS.out).mono ?_
    rintro r_ w3 ⟨rfl, hb3⟩
    have H3 := Lib.hid ((hb3.block w1.heap.size (by go_size)).trans H2.out)
    obtain ⟨p30, p31, p32, p33, p34, _⟩ := cells5_of H3.out
    have hB3 := later hb3 (w := w) (by (repeat' (first | (with_reducible exact Below.refl _ _) | (with_reducible assumption) | (with_reducible refine below_drewN ?_ _) | (with_reducible refine Below.drew ?_) | (with_reducible refine Below.alloc ?_ ?_ _) | (with_reducible refine Below.setCell ?_ ?_ _) | go_size)))
    have hq3 : w1.heap.size < w3.heap.size := by have := hb3.size; omega
    have HL3 := Lib.hid (HLS.out.later hb3)
    clear hb3 p20 p21 p22 p23 p24
    go_wp2_with fail
    refine (CC.out _ HL3.out).mono ?_
    rintro r_ w4 ⟨rfl, hb4⟩
    have H4 := Lib.hid ((hb4.block w1.heap.size (by go_size)).trans H3.out)
    obtain ⟨p40, p41, p42, p43, p44, _⟩ := cells5_of H4.out
    have hB4 := later hb4 (w := w) (by (repeat' (first | (with_reducible exact Below.refl _ _) | (with_reducible assumption) | (with_reducible refine below_drewN ?_ _) | (with_reducible refine Below.drew ?_) | (with_reducible refine Below.alloc ?_ ?_ _) | (with_reducible refine Below.setCell ?_ ?_ _) | go_size)))
    have hq4 : w1.heap.size < w4.heap.size := by have := hb4.size; omega
    have HL4 := Lib.hid (HL3.out.later hb4)
    clear hb4 p30 p31 p32 p33 p34
    go_wp2_with fail
    refine (CP.out _ HL4.out).mono ?_
    rintro r_ w5 ⟨G, gc, rfl, hown, hb5⟩
    have H5 := Lib.hid ((hb5.block w1.heap.size (by go_size)).trans H4.out)
    have hB5 := later hb5 (w := w) (by (repeat' (first | (with_reducible exact Below.refl _ _) | (with_reducible assumption) | (with_reducible refine below_drewN ?_ _) | (with_reducible refine Below.drew ?_) | (with_reducible refine Below.alloc ?_ ?_ _) | (with_reducible refine Below.setCell ?_ ?_ _) | go_size)))
    have hq5 : w1.heap.size < w5.heap.size := by have := hb5.size; omega
    have HL5 := Lib.hid (HL4.out.later hb5)
    have HP5 := Lib.hid (z_own hown)
    obtain ⟨P, hP⟩ : ∃ P, prL q m = P := ⟨_, rfl⟩
    rw [hP] at HP5
    have hplen : (nz P).length ≤ 11 := by rw [nz_len, ← hP]; have := prL_len (q := q) m; omega
    have HPR := Lib.hid (hP ▸ prL_rise (q := q) m)
    have HPLT := Lib.hid (fun x (hx : x ∈ P) => prL_lt (q := q) (n := m) (hP ▸ hx))
    have HPB := Lib.hid (fun x y (hx : x < m) (hy : y < x) (h : q x y = true) => hP ▸ both_not (N := m) hx hy h)
    have HPE := Lib.hid (fun x (hx : x < m) => (hP ▸ blk_end (q := q) hx : blkB q m x x = !decide (x ∈ P)))
    have HPH := Lib.hid (fun x y (h : q x y = true) => (hP ▸ blkB_hit (N := m) h : blkB q m x (y + 1) = (blkB q m x y || decide (y ∈ P))))
    have HP0 := Lib.hid (fun (h : 0 < m) => (hP ▸ zero_left (q := q) h : 0 ∈ P))
    rw [hP]
    have CR := Lib.hid (fun w (hw : Zs w G (nz P).length (nz P)) => c_a2Rises G (nz P).length gc (nz P) (m : Int) w hw (by omega) (fun z hz => by
      obtain ⟨k, hk⟩ := List.getElem?_of_mem hz
      obtain ⟨x, rfl, hx⟩ := nz_get hk
      have := HPLT.out x (List.mem_of_getElem? hx)
      omega) (fun i z y hz hy => by
      obtain ⟨a, rfl, ha⟩ := nz_get hz
      obtain ⟨e, rfl, he⟩ := nz_get hy
      have := HPR.out i a e ha he
      omega))
    have CH := Lib.hid (fun (x : Nat) (r : Bool) (h : decide (x ∈ P) = r) w (hw : Zs w G (nz P).length (nz P)) => c_a2Has G (nz P).length gc (nz P) (x : Int) r w hw (by omega) (by rw [← h]; exact decide_eq_decide.2 nz_mem))
    clear hown hb5 hP p40 p41 p42 p43 p44
    generalize hpl : (nz P).length = pl at *
    clear hpl
    have t1 : ((ev == 0) != decide (0 < cn)) = false := by rw [hr1, hr2]; simp
    go_wp2_with fail
    refine (CR.out _ HP5.out).mono ?_
    rintro r_ w6 ⟨rfl, hb6⟩
    have H6 := Lib.hid ((hb6.block w1.heap.size (by go_size)).trans H5.out)
    have hB6 := later hb6 (w := w) (by (repeat' (first | (with_reducible exact Below.refl _ _) | (with_reducible assumption) | (with_reducible refine below_drewN ?_ _) | (with_reducible refine Below.drew ?_) | (with_reducible refine Below.alloc ?_ ?_ _) | (with_reducible refine Below.setCell ?_ ?_ _) | go_size)))
    have hq6 : w1.heap.size < w6.heap.size := by have := hb6.size; omega
    have HL6 := Lib.hid (HL5.out.later hb6)
    have HP6 := Lib.hid (HP5.out.later hb6)
    have HB6 := Lib.hid hB6
    clear hb6
    have HM5 := HQ
    by_cases hm0 : m = 0
    · subst hm0
      have hcz : cn = 0 := by rw [← HCN.out]; rfl
      subst hcz
      have hev : ev = 3 := by
        rcases HFIN.out with ⟨h, _⟩ | ⟨z, h, _⟩
        · exact h
        · cases h
      subst hev
      go_wp2_with fail
      go_loopw [14, 15, 16, 17] (fun a b c d wr => a = .int .i64 0 ∧ b = .int .i64 (-1) ∧ c = .int .i64 (-1) ∧ d = .int .i64 0 ∧ w6 = wr) (fun _ _ _ _ _ => 0)
      case atStart => exact ⟨rfl, rfl, rfl, rfl, rfl⟩
      case round =>
        obtain ⟨rfl, rfl, rfl, rfl, rfl⟩ := hrel
        go_wp2_with fail
        go_returns
        exact ⟨rfl, HB6.out⟩
    · have t2 : decide ((0 : Int) < (m : Int)) = true := decide_eq_true (by omega)
      have CH0 := Lib.hid (CH.out 0 true (decide_eq_true (HP0.out (by omega))))
      go_wp2_with (go_at_call 22; refine (CH0.out _ HP6.out).mono ?_; rintro r_ w' ⟨rfl, rfl⟩)
      go_loopw [14, 15, 16, 17] (fun s14 s15 s16 s17 wr => ∃ (x j : Nat) (f b : Int), x ≤ m ∧ j ≤ 150 ∧ s17 = .int .i64 x ∧ s14 = .int .i64 j ∧ s15 = .int .i64 f ∧ s16 = .int .i64 b ∧ Hid (cntX q x = j) ∧ Hid (o1 (fjx q x) = f) ∧ Hid (o2 (fjx q x) = b) ∧ Below w6.heap.size w6 wr) (fun _ _ _ x _ => m - (intOf x).toNat)
      case atStart => exact ⟨0, 0, -1, -1, Nat.zero_le _, by omega, rfl, rfl, rfl, rfl, Lib.hid rfl, Lib.hid rfl, Lib.hid rfl, Below.refl _ _⟩
      case round =>
        obtain ⟨x, j, f, bf, hx, hj, rfl, rfl, rfl, rfl, hcx, hf1, hf2, hB⟩ := hrel
        rename World => wo
        have hso := hB.size
        have HBO := Lib.hid hB
        by_cases hlt : x < m
        · have HXB := Lib.hid (HPE.out x hlt)
          have HCX := hcx
          obtain ⟨hx3, hhx⟩ : ∃ r, decide (x ∈ P) = r := ⟨_, rfl⟩
          rw [hhx] at HXB
          have HCHX := Lib.hid (CH.out x hx3 hhx)
          have HHX := Lib.hid hhx
          clear hB hcx hhx
          go_wp2_with fail
          go_loopw [14, 15, 16, 18, 19] (fun s14 s15 s16 s18 s19 wr => ∃ (y j' : Nat) (f b : Int) (bl : Bool), y ≤ x ∧ j' ≤ y ∧ s19 = .int .i64 y ∧ s14 = .int .i64 ((j : Int) + (j' : Int)) ∧ s15 = .int .i64 f ∧ s16 = .int .i64 b ∧ s18 = .bool bl ∧ Hid (cntR (q x) y = j') ∧ Hid (o1 (fj2 q x y) = f) ∧ Hid (o2 (fj2 q x y) = b) ∧ Hid (blkB q m x y = bl) ∧ Below w6.heap.size w6 wr) (fun _ _ _ _ y _ => x - (intOf y).toNat)
          case atStart => exact ⟨0, 0, f, bf, false, Nat.zero_le _, Nat.zero_le _, rfl, by simp, rfl, rfl, rfl, Lib.hid rfl, Lib.hid (by rw [fj2_zero]; exact hf1.out), Lib.hid (by rw [fj2_zero]; exact hf2.out), Lib.hid rfl, HBO.out⟩
          case round =>
            obtain ⟨y, j', f', bf', bl, hy, hj', rfl, rfl, rfl, rfl, rfl, hcr, hg1, hg2, hbl, hB⟩ := hrel
            rename World => wi
            have hsi := hB.size
            have hwi := hB6.size
            have hql : w1.heap.size < wi.heap.size := by omega
            have hBw := Lib.hid (HB6.out.trans (hB.mono hwi))
            by_cases hlt2 : y < x
            · obtain ⟨b1_, o, s', t', rfl, hbi, _, hxy, c0, c1⟩ := stroke_at HL6.out hB (k := y) (by omega)
              obtain ⟨s, t, _, _, hxx, d0_, d1_⟩ := stroke_atB HL6.out hB hlt
              obtain ⟨u0, u1, u2, u3⟩ := HGL.out.1 _ (List.mem_of_getElem? hxx)
              obtain ⟨v0, v1, v2, v3⟩ := HGL.out.1 _ (List.mem_of_getElem? hxy)
              simp only at u0 u1 u2 u3 v0 v1 v2 v3
              have htt := rise_mono HGL.out.2 (Nat.le_of_lt hlt2) hxy hxx
              simp only at htt
              have hqe : jmV R F C N (s, t) (s', t') = q x y := by rw [← HQ.out]; exact (jmL_eq hxx hxy).symm
              have htk := jm_tick (s := (s, t)) (t := (s', t')) htt hqe
              simp only at htk
              have HMW := Lib.hid (CM.out s s' u0 u1 v0 v1)
              have HMW2 := Lib.hid (CM.out s' s v0 v1 u0 u1)
              rw [waitV_symm] at HMW2
              have hvb := waitV_bd HOK.out u0 (by omega) v0 (by omega)
              generalize waitV R F C N s s' = v at *
              obtain ⟨p0, p1, p2, p3, p4, _⟩ := cells5_of ((hB.block w1.heap.size (by omega)).trans H6.out)
              have i1 : (x : Int) < m := by omega
              have i2 : (y : Int) < m := by omega
              have HB := Lib.hid hB
              have HG1 := hg1
              have HG2 := hg2
              have HBL := hbl
              have HCR := hcr
              have HP7 := Lib.hid (HP6.out.later hB)
              clear hxx hxy hg1 hg2 hbl hcr hqe
              go_wp2_with fail
              refine wp_region_below (by kernel_rfl) (by kernel_rfl) ?_
              repeat (go_big_quiet_step ((go_at_call 23; refine qBg (HMW.out _) (by simp) ?_; intro w_ h_; first | exact h_ | exact h_.below | (subst h_; exact Below.refl _ _) | (subst h_; (repeat' (first | (with_reducible exact Below.refl _ _) | (with_reducible assumption) | (with_reducible refine below_drewN ?_ _) | (with_reducible refine Below.drew ?_) | (with_reducible refine Below.alloc ?_ ?_ _) | (with_reducible refine Below.setCell ?_ ?_ _) | go_size))) | (obtain ⟨n_, rfl⟩ := h_; (repeat' (first | (with_reducible exact Below.refl _ _) | (with_reducible assumption) | (with_reducible refine below_drewN ?_ _) | (with_reducible refine Below.drew ?_) | (with_reducible refine Below.alloc ?_ ?_ _) | (with_reducible refine Below.setCell ?_ ?_ _) | go_size))))))
              refine wpQuiet_nil ?_
              intro _ hw'
              obtain ⟨⟨w7, hb7⟩, hw''⟩ := hw'
              subst hw''
              rename World => wj
              have H7 := Lib.hid ((hb7.block w1.heap.size hql).trans ((HB.out.block w1.heap.size (by omega)).trans H6.out))
              obtain ⟨p70, p71, p72, p73, p74, _⟩ := cells5_of H7.out
              have hsj : wi.heap.size ≤ wj.heap.size := hb7.size
              have hq7 : w1.heap.size < wj.heap.size := by omega
              have hB7 := HB.out.trans (hb7.mono hsi)
              have HB7 := Lib.hid hB7
              have c07 := (hb7.cell (p := ⟨b1_, o + y * 2, none⟩) hbi).trans c0
              have c17 := (hb7.cell (p := ⟨b1_, o + y * 2 + 1, none⟩) hbi).trans c1
              have d07 := (hb7.cell (p := ⟨b1_, o + x * 2, none⟩) hbi).trans d0_
              have d17 := (hb7.cell (p := ⟨b1_, o + x * 2 + 1, none⟩) hbi).trans d1_
              have hbj : b1_ < wj.heap.size := by omega
              have HMW := HMW2
              clear HMW2 hb7 hB7 hB
              go_wp2_with fail
              refine wp_region_below (by kernel_rfl) (by kernel_rfl) ?_
              repeat (go_big_quiet_step ((go_at_call 23; refine qBg (HMW.out _) (by simp) ?_; intro w_ h_; first | exact h_ | exact h_.below | (subst h_; exact Below.refl _ _) | (subst h_; (repeat' (first | (with_reducible exact Below.refl _ _) | (with_reducible assumption) | (with_reducible refine below_drewN ?_ _) | (with_reducible refine Below.drew ?_) | (with_reducible refine Below.alloc ?_ ?_ _) | (with_reducible refine Below.setCell ?_ ?_ _) | go_size))) | (obtain ⟨n_, rfl⟩ := h_; (repeat' (first | (with_reducible exact Below.refl _ _) | (with_reducible assumption) | (with_reducible refine below_drewN ?_ _) | (with_reducible refine Below.drew ?_) | (with_reducible refine Below.alloc ?_ ?_ _) | (with_reducible refine Below.setCell ?_ ?_ _) | go_size))))))
              refine wpQuiet_nil ?_
              intro _ hw'
              obtain ⟨⟨w8, hb8⟩, hw''⟩ := hw'
              subst hw''
              rename World => wk
              have hsk : wj.heap.size ≤ wk.heap.size := hb8.size
              have HB8 := Lib.hid (HB7.out.trans (hb8.mono (by omega)))
              have c08 := (hb8.cell (p := ⟨b1_, o + y * 2, none⟩) hbj).trans c07
              have c18 := (hb8.cell (p := ⟨b1_, o + y * 2 + 1, none⟩) hbj).trans c17
              have d08 := (hb8.cell (p := ⟨b1_, o + x * 2, none⟩) hbj).trans d07
              have d18 := (hb8.cell (p := ⟨b1_, o + x * 2 + 1, none⟩) hbj).trans d17
              have hbk : b1_ < wk.heap.size := by omega
              clear hb8 p70 p71 p72 p73 p74 c0 c1 d0_ d1_ c07 c17 d07 d17
              cases hj : q x y
              · rw [hj] at htk
                have HJ := Lib.hid hj
                clear hj
                go_wp2_with fail
                refine wp_region_below (by kernel_rfl) (by kernel_rfl) ?_
                repeat (go_big_quiet_step (fail))
                refine wpQuiet_nil ?_
                intro _ hw'
                obtain ⟨⟨w9, hb9⟩, hw''⟩ := hw'
                subst hw''
                rename World => wl
                have HB9 := Lib.hid (HB8.out.trans (hb9.mono (by omega)))
                clear hb9
                go_wp2_with fail
                go_roundw
                case rel => exact ⟨y + 1, j', f', bf', bl, by omega, by omega, by go_num, rfl, rfl, rfl, rfl, Lib.hid ((cntR_miss HJ.out).trans HCR.out), Lib.hid (by rw [fj2_miss HJ.out]; exact HG1.out), Lib.hid (by rw [fj2_miss HJ.out]; exact HG2.out), Lib.hid ((blkB_miss HJ.out).trans HBL.out), HB9.out⟩
                case measure => simp [intOf]; omega
              · rw [hj] at htk
                have HJ := Lib.hid hj
                have HPHX := Lib.hid (HPH.out x y hj)
                have HBT := Lib.hid (HPB.out x y hlt hlt2 hj)
                obtain ⟨hy3, hhy⟩ : ∃ r, decide (y ∈ P) = r := ⟨_, rfl⟩
                have HCHY := Lib.hid (CH.out y hy3 hhy)
                have hbt := HBT.out
                rw [HHX.out, hhy] at hbt
                have HHY := Lib.hid hhy
                clear hj hhy
                go_wp2_with fail
                refine wp_region_below (by kernel_rfl) (by kernel_rfl) ?_
                repeat (go_big_quiet_step (fail))
                refine wpQuiet_nil ?_
                intro _ hw'
                obtain ⟨⟨w9, hb9⟩, hw''⟩ := hw'
                subst hw''
                rename World => wl
                have HB9 := Lib.hid (HB8.out.trans (hb9.mono (by omega)))
                have HP9 := Lib.hid (HP6.out.later HB9.out)
                clear hb9
                cases hfj : fj2 q x y with
                | none =>
                  have hf0 : f' = -1 := by rw [← HG1.out, hfj]; rfl
                  subst hf0
                  have HG3 : Hid (o1 (fj2 q x (y + 1)) = (x : Int)) := Lib.hid (by rw [fj2_hit hfj HJ.out]; rfl)
                  have HG4 : Hid (o2 (fj2 q x (y + 1)) = (y : Int)) := Lib.hid (by rw [fj2_hit hfj HJ.out]; rfl)
                  clear hfj
                  cases bl <;> cases hx3 <;> (try (have hy0 : hy3 = false := by simpa using hbt); try subst hy0)
                  all_goals
                    clear hbt
                    have hhx := HHX.out
                    have hhy := HHY.out
                    go_wp2_with (go_at_call 22; refine (CH.out _ _ (by assumption) _ HP9.out).mono ?_; rintro r_ w' ⟨rfl, rfl⟩)
                    go_roundw
                    case rel => exact ⟨y + 1, j' + 1, x, y, _, by omega, by omega, by go_num, by go_num, rfl, rfl, rfl, Lib.hid (by show _ = _; rw [cntR_hit HJ.out, HCR.out]), HG3, HG4, Lib.hid (by show _ = _; rw [HPHX.out, HBL.out, HHY.out]; rfl), HB9.out⟩
                    case measure => simp [intOf]; omega
                | some z =>
                  have hf0 : f' = (z.1 : Int) := by rw [← HG1.out, hfj]; rfl
                  have hz0 : decide (f' < 0) = false := decide_eq_false (by omega)
                  have HG3 : Hid (o1 (fj2 q x (y + 1)) = f') := Lib.hid (by rw [fj2_yes hfj, ← hfj]; exact HG1.out)
                  have HG4 : Hid (o2 (fj2 q x (y + 1)) = bf') := Lib.hid (by rw [fj2_yes hfj, ← hfj]; exact HG2.out)
                  clear hfj hf0
                  cases bl <;> cases hx3 <;> (try (have hy0 : hy3 = false := by simpa using hbt); try subst hy0)
                  all_goals
                    clear hbt
                    have hhx := HHX.out
                    have hhy := HHY.out
                    go_wp2_with (go_at_call 22; refine (CH.out _ _ (by assumption) _ HP9.out).mono ?_; rintro r_ w' ⟨rfl, rfl⟩)
                    go_roundw
                    case rel => exact ⟨y + 1, j' + 1, f', bf', _, by omega, by omega, by go_num, by go_num, rfl, rfl, rfl, Lib.hid (by show _ = _; rw [cntR_hit HJ.out, HCR.out]), HG3, HG4, Lib.hid (by show _ = _; rw [HPHX.out, HBL.out, HHY.out]; rfl), HB9.out⟩
                    case measure => simp [intOf]; omega
            · obtain rfl : y = x := by omega
              have hble : bl = !hx3 := by rw [← hbl.out]; exact HXB.out
              have HP7 := Lib.hid (HP6.out.later hB)
              have HCN2 : Hid (cntX q (y + 1) = j + j') := Lib.hid (by show _ = _; rw [cntX, HCX.out, hcr.out])
              have hle := cntX_le q (y + 1) m (by omega)
              have hle2 : (y + 1) * m ≤ 11 * 11 := Nat.mul_le_mul (by omega) (by omega)
              rw [HCN2.out] at hle
              have HG1 : Hid (o1 (fjx q (y + 1)) = f') := Lib.hid (by rw [← fj2_end]; exact hg1.out)
              have HG2 : Hid (o2 (fjx q (y + 1)) = bf') := Lib.hid (by rw [← fj2_end]; exact hg2.out)
              subst hble
              cases hx3
              all_goals
                go_wp2_with (go_at_call 22; refine (HCHX.out _ HP7.out).mono ?_; rintro r_ w' ⟨rfl, rfl⟩)
                go_roundw
                case rel => exact ⟨y + 1, j + j', f', bf', by omega, by omega, by go_num, by simp, rfl, rfl, HCN2, HG1, HG2, hB⟩
                case measure => simp [intOf]; omega
        · obtain rfl : x = m := by omega
          have hjc : (j : Int) = cn := by rw [← HCN.out, ← hcx.out]
          subst hjc
          rcases HFIN.out with ⟨h3, hn⟩ | ⟨z, hz, hi, hk⟩
          · have hff : f = -1 := by rw [← hf1.out, hn]; rfl
            subst hff h3
            go_wp2_with fail
            go_returns
            exact ⟨rfl, HB6.out.trans (hB.mono HB6.out.size)⟩
          · have hff : f = z.1 := by rw [← hf1.out, hz]; rfl
            have hbf : bf = z.2 := by rw [← hf2.out, hz]; rfl
            have hz0 : decide (f < 0) = false := decide_eq_false (by omega)
            have hz1 : decide (0 ≤ f) = true := decide_eq_true (by omega)
            have hz2 : (iv == f) = true := by rw [hi, hff]; simp
            have hz3 : (kv == bf) = true := by rw [hk, hbf]; simp
            clear hff hbf hi hk hz
            go_wp2_with fail
            go_returns
            exact ⟨by simp [*], HB6.out.trans (hB.mono HB6.out.size)⟩
end Go.Proofs.Ytgigdipbfcffiaa.fnJams
