/- Contracts: how many strokes jam, which are printed (the program); the laws' helpers on numbers. -/
import Derived.Test.YtgigdipbfcffiaaJb
namespace Go.Proofs.Ytgigdipbfcffiaa
open Go.RowKit Go.BigFrame
attribute [local go_sem] sub_cell sub_frozen drewN_setCell

def nz (l : List Nat) : List Int := l.map fun (x : Nat) => (x : Int)
theorem nz_len (l : List Nat) : (nz l).length = l.length := by simp [nz]
theorem nz_get {l : List Nat} {k : Nat} {z : Int} (h : (nz l)[k]? = some z) : ∃ x : Nat, z = x ∧ l[k]? = some x := by
  simp only [nz, List.getElem?_map, Option.map_eq_some_iff] at h
  obtain ⟨x, hx, rfl⟩ := h
  exact ⟨x, rfl, hx⟩
theorem nz_mem {l : List Nat} {x : Nat} : ((x : Int) ∈ nz l) ↔ x ∈ l := by
  simp only [nz, List.mem_map]
  constructor
  · rintro ⟨y, hy, e⟩
    obtain rfl : y = x := by omega
    exact hy
  · intro h; exact ⟨x, h, rfl⟩
theorem all_step {p : Nat → Bool} {l : List Nat} {k x : Nat} (hx : l[k]? = some x) : (l.take (k + 1)).all p = ((l.take k).all p && p x) := by
  rw [List.take_add_one, hx, List.all_append]
  simp
set_option maxRecDepth 20000 in
set_option maxHeartbeats 4000000 in
theorem c_CountJams (B R F C N : Int) (h : OkK B R F C N) (A : Option Addr) (n c : Nat) (l : List (Int × Int)) (hl : StL B l) (w : World) (ha : Sl strokeC w w.heap.size 2 A n l) :
    Calls Try.prog 19 #[bkt B R F C N, .slice A n c] w fun e w' => e = .returned (.tuple #[.int .i64 (cntX (jmL R F C N l) n : Nat), .int .i64 0]) ∧ Below w.heap.size w w' := by
  have n60 : n ≤ 60 := by have := ha.1; have := hl.1; omega
  have HA := Lib.hid ha
  have h60 : B ≤ 60 := h.2.1
  have CJ := Lib.hid (fun (s t : Int × Int) r (hr : jmV R F C N s t = r) (a0 : 0 ≤ s.1) (a1 : s.1 < B) (c0 : 0 ≤ t.1) (c1 : t.1 < B) (s0 : 0 ≤ s.2) (s1 : s.2 ≤ 1000000) (t0 : 0 ≤ t.2) (t1 : t.2 ≤ 1000000) w => c_jams B R F C N s t r h hr a0 (by omega) c0 (by omega) s0 s1 t0 t1 w)
  have CV := Lib.hid (fun w (hw : Sl strokeC w w.heap.size 2 A n l) => c_ValidStrokes B R F C N h A n c l hl w hw)
  have HS := Lib.hid hl
  clear h hl ha
  generalize hq : jmL R F C N l = q at *
  have HQ := Lib.hid hq
  clear hq
  go_enter Try.func19, Try.ntmps19
  go_wp2_with fail
  refine (CV.out _ (HA.out.later (by (repeat' (first | (with_reducible exact Below.refl _ _) | (with_reducible assumption) | (with_reducible refine below_drewN ?_ _) | (with_reducible refine Below.drew ?_) | (with_reducible refine Below.alloc ?_ ?_ _) | (with_reducible refine Below.setCell ?_ ?_ _) | go_size))))).mono ?_
  rintro r_ w1 ⟨rfl, hb1⟩
  have H1 : Hid (BkAt w1 w.heap.size B R F C N) := Lib.hid ((hb1.block w.heap.size (by simp)).trans (by simp [World.alloc, -World.alloc_eq]))
  have hq1 : w.heap.size < w1.heap.size := by have := hb1.size; simp at this; omega
  have hB1 := later hb1 (w := w) (by (repeat' (first | (with_reducible exact Below.refl _ _) | (with_reducible assumption) | (with_reducible refine below_drewN ?_ _) | (with_reducible refine Below.drew ?_) | (with_reducible refine Below.alloc ?_ ?_ _) | (with_reducible refine Below.setCell ?_ ?_ _) | go_size)))
  have HB1 := Lib.hid hB1
  have HA1 := Lib.hid (HA.out.later hB1)
  clear hb1 hB1
  go_wp2_with fail
  go_loopw [6, 15] (fun v i wr => ∃ k z : Nat, k ≤ n ∧ z ≤ 3600 ∧ i = .int .i64 k ∧ v = .int .i64 z ∧ Hid (cntX q k = z) ∧ Below w1.heap.size w1 wr) (fun _ i _ => n - (intOf i).toNat)
  case atStart => exact ⟨0, 0, Nat.zero_le _, Nat.zero_le _, rfl, rfl, Lib.hid rfl, Below.refl _ _⟩
  case round =>
    obtain ⟨i, z, hi, hz, rfl, rfl, hf, hB⟩ := hrel
    rename World => wo
    have hs := hB.size
    by_cases hlt : i < n
    · obtain ⟨b, o, s, t, rfl, hb1, hb2, hx, _, _⟩ := stroke_at HA1.out hB hlt
      obtain ⟨s0, s1, t0, t1⟩ := HS.out.2.1 _ (List.mem_of_getElem? hx)
      have HX := Lib.hid hx
      have HBO := Lib.hid hB
      have HF := hf
      clear hx hf hB
      go_wp2_with fail
      go_loopw [6, 19] (fun v j wr => ∃ k y : Nat, k ≤ i ∧ y ≤ k ∧ j = .int .i64 k ∧ v = .int .i64 ((z : Int) + (y : Int)) ∧ Hid (cntR (q i) k = y) ∧ Below w1.heap.size w1 wr) (fun _ j _ => i - (intOf j).toNat)
      case atStart => exact ⟨0, 0, Nat.zero_le _, Nat.zero_le _, rfl, by simp, Lib.hid rfl, HBO.out⟩
      case round =>
        obtain ⟨k, y, hk, hy, rfl, rfl, hr, hB⟩ := hrel
        rename World => wi
        have hs2 := hB.size
        have hql : w.heap.size < wi.heap.size := by omega
        by_cases hlt2 : k < i
        · obtain ⟨s', t', e0, _, hx', c0, c1⟩ := stroke_atB HA1.out hB (k := k) (by omega)
          obtain ⟨s2, t2, _, _, hx2, d0_, d1_⟩ := stroke_atB HA1.out hB hlt
          rw [HX.out] at hx2
          simp only [Option.some.injEq, Prod.mk.injEq] at hx2
          obtain ⟨rfl, rfl⟩ := hx2
          obtain ⟨s0', s1', t0', t1'⟩ := HS.out.2.1 _ (List.mem_of_getElem? hx')
          have hqe : q i k = jmV R F C N (s, t) (s', t') := by rw [← HQ.out]; exact jmL_eq HX.out hx'
          obtain ⟨p0, p1, p2, p3, p4, _⟩ := cells5_of ((hB.block w.heap.size (by omega)).trans H1.out)
          have i1 : (i : Int) < n := by omega
          have i2 : (k : Int) < n := by omega
          have HR := hr
          clear hx' hr
          cases hj : q i k
          · have HJ := Lib.hid (CJ.out (s, t) (s', t') false (by rw [← hqe]; exact hj) s0 s1 s0' s1' t0 t1 t0' t1')
            have HJ2 := Lib.hid hj
            clear hqe hj
            go_wp2_with fail
            refine wp_region_below (by kernel_rfl) (by kernel_rfl) ?_
            repeat (go_big_quiet_step ((go_at_call 35; refine qBg (HJ.out _) (by simp) ?_; intro w_ h_; first | exact h_ | exact h_.below | (subst h_; exact Below.refl _ _) | (subst h_; (repeat' (first | (with_reducible exact Below.refl _ _) | (with_reducible assumption) | (with_reducible refine below_drewN ?_ _) | (with_reducible refine Below.drew ?_) | (with_reducible refine Below.alloc ?_ ?_ _) | (with_reducible refine Below.setCell ?_ ?_ _) | go_size))) | (obtain ⟨n_, rfl⟩ := h_; (repeat' (first | (with_reducible exact Below.refl _ _) | (with_reducible assumption) | (with_reducible refine below_drewN ?_ _) | (with_reducible refine Below.drew ?_) | (with_reducible refine Below.alloc ?_ ?_ _) | (with_reducible refine Below.setCell ?_ ?_ _) | go_size))))))
            refine wpQuiet_nil ?_
            intro _ hw'
            obtain ⟨⟨w9, hb9⟩, hw''⟩ := hw'
            subst hw''
            have hB9 := hB.trans (hb9.mono hs2)
            go_wp2_with fail
            go_roundw
            case rel => exact ⟨k + 1, y, by omega, by omega, by go_num, rfl, Lib.hid ((cntR_miss HJ2.out).trans HR.out), hB9⟩
            case measure => simp [intOf]; omega
          · have HJ := Lib.hid (CJ.out (s, t) (s', t') true (by rw [← hqe]; exact hj) s0 s1 s0' s1' t0 t1 t0' t1')
            have HJ2 := Lib.hid hj
            clear hqe hj
            go_wp2_with fail
            refine wp_region_below (by kernel_rfl) (by kernel_rfl) ?_
            repeat (go_big_quiet_step ((go_at_call 35; refine qBg (HJ.out _) (by simp) ?_; intro w_ h_; first | exact h_ | exact h_.below | (subst h_; exact Below.refl _ _) | (subst h_; (repeat' (first | (with_reducible exact Below.refl _ _) | (with_reducible assumption) | (with_reducible refine below_drewN ?_ _) | (with_reducible refine Below.drew ?_) | (with_reducible refine Below.alloc ?_ ?_ _) | (with_reducible refine Below.setCell ?_ ?_ _) | go_size))) | (obtain ⟨n_, rfl⟩ := h_; (repeat' (first | (with_reducible exact Below.refl _ _) | (with_reducible assumption) | (with_reducible refine below_drewN ?_ _) | (with_reducible refine Below.drew ?_) | (with_reducible refine Below.alloc ?_ ?_ _) | (with_reducible refine Below.setCell ?_ ?_ _) | go_size))))))
            refine wpQuiet_nil ?_
            intro _ hw'
            obtain ⟨⟨w9, hb9⟩, hw''⟩ := hw'
            subst hw''
            have hB9 := hB.trans (hb9.mono hs2)
            go_wp2_with fail
            go_roundw
            case rel => exact ⟨k + 1, y + 1, by omega, by omega, by go_num, by go_num, Lib.hid (by show _ = _; rw [cntR_hit HJ2.out, HR.out]), hB9⟩
            case measure => simp [intOf]; omega
        · obtain rfl : k = i := by omega
          have hcx : cntX q (k + 1) = z + y := by rw [cntX, HF.out, hr.out]
          have hcl := cntX_le q (k + 1) n (by omega)
          have hcm : (k + 1) * n ≤ 60 * 60 := Nat.mul_le_mul (by omega) (by omega)
          rw [hcx] at hcl
          have HCX := Lib.hid hcx
          clear hcx
          go_wp2_with fail
          go_roundw
          case rel => exact ⟨k + 1, z + y, by omega, by omega, by go_num, by simp, HCX, hB⟩
          case measure => simp [intOf]; omega
    · obtain rfl : i = n := by omega
      go_wp2_with fail
      go_returns
      exact ⟨by rw [hf.out]; rfl, HB1.out.trans (hB.mono HB1.out.size)⟩
set_option maxRecDepth 20000 in
set_option maxHeartbeats 8000000 in
theorem c_PrintedOf (B R F C N : Int) (h : OkK B R F C N) (A : Option Addr) (n c : Nat) (l : List (Int × Int)) (hl : StL B l) (w : World) (ha : Sl strokeC w w.heap.size 2 A n l) :
    Calls Try.prog 20 #[bkt B R F C N, .slice A n c] w (IntsPost (nz (prL (jmL R F C N l) n)) 0 w) := by
  have n60 : n ≤ 60 := by have := ha.1; have := hl.1; omega
  have HA := Lib.hid ha
  have h60 : B ≤ 60 := h.2.1
  have CJ := Lib.hid (fun (s t : Int × Int) r (hr : jmV R F C N s t = r) (a0 : 0 ≤ s.1) (a1 : s.1 < B) (c0 : 0 ≤ t.1) (c1 : t.1 < B) (s0 : 0 ≤ s.2) (s1 : s.2 ≤ 1000000) (t0 : 0 ≤ t.2) (t1 : t.2 ≤ 1000000) w => c_jams B R F C N s t r h hr a0 (by omega) c0 (by omega) s0 s1 t0 t1 w)
  have CV := Lib.hid (fun w (hw : Sl strokeC w w.heap.size 2 A n l) => c_ValidStrokes B R F C N h A n c l hl w hw)
  have HS := Lib.hid hl
  clear h hl ha
  generalize hq : jmL R F C N l = q at *
  have HQ := Lib.hid hq
  clear hq
  go_enter Try.func20, Try.ntmps20
  go_wp2_with fail
  refine (CV.out _ (HA.out.later (by (repeat' (first | (with_reducible exact Below.refl _ _) | (with_reducible assumption) | (with_reducible refine below_drewN ?_ _) | (with_reducible refine Below.drew ?_) | (with_reducible refine Below.alloc ?_ ?_ _) | (with_reducible refine Below.setCell ?_ ?_ _) | go_size))))).mono ?_
  rintro r_ w1 ⟨rfl, hb1⟩
  have H1 : Hid (BkAt w1 w.heap.size B R F C N) := Lib.hid ((hb1.block w.heap.size (by simp)).trans (by simp [World.alloc, -World.alloc_eq]))
  have hq1 : w.heap.size < w1.heap.size := by have := hb1.size; simp at this; omega
  have hB1 := later hb1 (w := w) (by (repeat' (first | (with_reducible exact Below.refl _ _) | (with_reducible assumption) | (with_reducible refine below_drewN ?_ _) | (with_reducible refine Below.drew ?_) | (with_reducible refine Below.alloc ?_ ?_ _) | (with_reducible refine Below.setCell ?_ ?_ _) | go_size)))
  have HB1 := Lib.hid hB1
  have HA1 := Lib.hid (HA.out.later hB1)
  clear hb1 hB1
  go_wp2_with fail
  go_loopw [6, 19] (fun v i wr => ∃ k : Nat, k ≤ n ∧ i = .int .i64 k ∧ Hid (wr.ownsRow w1.heap.size 2 1 v (nz (prL q k)).length ((nz (prL q k)).map (Value.int .i64))) ∧ Below w1.heap.size w1 wr) (fun _ i _ => n - (intOf i).toNat)
  case atStart => exact ⟨0, Nat.zero_le _, rfl, Lib.hid (World.ownsRow_made w1 #[] 0 (Nat.le_refl _) (by simp [maxLen]) rfl), by (repeat' (first | (with_reducible exact Below.refl _ _) | (with_reducible assumption) | (with_reducible refine below_drewN ?_ _) | (with_reducible refine Below.drew ?_) | (with_reducible refine Below.alloc ?_ ?_ _) | (with_reducible refine Below.setCell ?_ ?_ _) | go_size))⟩
  case round =>
    obtain ⟨i, hi, rfl, hown, hB⟩ := hrel
    rename World => wo
    have hs := hB.size
    have hql0 : w.heap.size < wo.heap.size := by omega
    by_cases hlt : i < n
    · obtain ⟨b, o, s, t, rfl, hb1, hb2, hx, c0, c1⟩ := stroke_at HA1.out hB hlt
      obtain ⟨s0, s1, t0, t1⟩ := HS.out.2.1 _ (List.mem_of_getElem? hx)
      have HX := Lib.hid hx
      have HBO := Lib.hid hB
      obtain ⟨G, c', rfl⟩ := own_slice hown.out
      have HO := hown
      have hml : (nz (prL q i)).length ≤ 60 := by rw [nz_len]; have := prL_len (q := q) i; omega
      have HZ := Lib.hid (z_own hown.out)
      have HPL := Lib.hid (fun x (hx : x ∈ prL q i) => prL_lt hx)
      have HPI := Lib.hid (fun h => prL_in (q := q) i h)
      have HPO := Lib.hid (fun h => prL_out (q := q) i h)
      clear hx hown hB
      generalize hP : prL q i = P at *
      have HNL := Lib.hid (nz_len P)
      generalize hm : (nz P).length = m at *
      have HM := Lib.hid hm
      clear hP hm
      go_wp2_with fail
      go_loopw [9, 26] (fun f j wr => ∃ (k : Nat) (r : Bool), k ≤ m ∧ j = .int .i64 k ∧ f = .bool r ∧ Hid ((P.take k).all (fun x => !q i x) = r) ∧ Hid (wr.heap[wo.heap.size]? = some (.cells #[.int .i64 s, .int .i64 t] 53)) ∧ Below wo.heap.size wo wr ∧ wo.heap.size < wr.heap.size) (fun _ j _ => m - (intOf j).toNat)
      case atStart => exact ⟨0, true, Nat.zero_le _, rfl, rfl, Lib.hid rfl, Lib.hid (by simp [World.alloc, -World.alloc_eq]), by (repeat' (first | (with_reducible exact Below.refl _ _) | (with_reducible assumption) | (with_reducible refine below_drewN ?_ _) | (with_reducible refine Below.drew ?_) | (with_reducible refine Below.alloc ?_ ?_ _) | (with_reducible refine Below.setCell ?_ ?_ _) | go_size)), by simp⟩
      case round =>
        obtain ⟨k, r, hk, rfl, rfl, hr, hst, hB, hgt⟩ := hrel
        rename World => wi
        have hs2 := hB.size
        have hql : w.heap.size < wi.heap.size := by omega
        by_cases hlt2 : k < m
        · obtain ⟨gb, go, z, e1, hg1, hg2, hz, cz⟩ := z_at HZ.out hB hlt2
          obtain ⟨x, rfl, hPx⟩ := nz_get hz
          subst e1
          have hxi := HPL.out x (List.mem_of_getElem? hPx)
          obtain ⟨s', t', e0, _, hx', d0_, d1_⟩ := stroke_atB HA1.out (HBO.out.trans (hB.mono hs)) (k := x) (by omega)
          obtain ⟨s0', s1', t0', t1'⟩ := HS.out.2.1 _ (List.mem_of_getElem? hx')
          have hqe : q i x = jmV R F C N (s, t) (s', t') := by rw [← HQ.out]; exact jmL_eq HX.out hx'
          obtain ⟨p0, p1, p2, p3, p4, _⟩ := cells5_of (((HBO.out.trans (hB.mono hs)).block w.heap.size (by omega)).trans H1.out)
          have st0 : wi.cell? ⟨wo.heap.size, 0, none⟩ = some (.int .i64 s) := by simp [World.cell?, hst.out]
          have st1 : wi.cell? ⟨wo.heap.size, 1, none⟩ = some (.int .i64 t) := by simp [World.cell?, hst.out]
          have i2 : (x : Int) < n := by omega
          have i3 : (0 : Int) ≤ (x : Int) := by omega
          have i4 : (k : Int) < m := by omega
          have HST := hst
          have HR := hr
          have HPX := Lib.hid hPx
          clear hx' hr hst hz hPx
          cases r
          · have hq0 := Lib.hid (all_step (p := fun x => !q i x) HPX.out)
            clear hqe
            go_wp2_with fail
            refine wp_region_below (by kernel_rfl) (by kernel_rfl) ?_
            repeat (go_big_quiet_step (fail))
            refine wpQuiet_nil ?_
            intro _ hw'
            obtain ⟨⟨w9, hb9⟩, hw''⟩ := hw'
            subst hw''
            have hB9 := hB.trans (hb9.mono hs2)
            have HST9 := Lib.hid ((hb9.block wo.heap.size hgt).trans HST.out)
            have hz9 := hb9.size
            go_wp2_with fail
            go_roundw
            case rel => exact ⟨k + 1, false, by omega, by go_num, rfl, Lib.hid (by show _ = _; rw [hq0.out, HR.out]; rfl), HST9, hB9, by omega⟩
            case measure => simp [intOf]; omega
          · cases hj : q i x
            · have HJ := Lib.hid (CJ.out (s, t) (s', t') false (by rw [← hqe]; exact hj) s0 s1 s0' s1' t0 t1 t0' t1')
              have HJ2 := Lib.hid hj
              clear hqe hj
              go_wp2_with fail
              refine wp_region_below (by kernel_rfl) (by kernel_rfl) ?_
              repeat (go_big_quiet_step ((go_at_call 35; refine qBg (HJ.out _) (by simp) ?_; intro w_ h_; first | exact h_ | exact h_.below | (subst h_; exact Below.refl _ _) | (subst h_; (repeat' (first | (with_reducible exact Below.refl _ _) | (with_reducible assumption) | (with_reducible refine below_drewN ?_ _) | (with_reducible refine Below.drew ?_) | (with_reducible refine Below.alloc ?_ ?_ _) | (with_reducible refine Below.setCell ?_ ?_ _) | go_size))) | (obtain ⟨n_, rfl⟩ := h_; (repeat' (first | (with_reducible exact Below.refl _ _) | (with_reducible assumption) | (with_reducible refine below_drewN ?_ _) | (with_reducible refine Below.drew ?_) | (with_reducible refine Below.alloc ?_ ?_ _) | (with_reducible refine Below.setCell ?_ ?_ _) | go_size))))))
              refine wpQuiet_nil ?_
              intro _ hw'
              obtain ⟨⟨w9, hb9⟩, hw''⟩ := hw'
              subst hw''
              have hB9 := hB.trans (hb9.mono hs2)
              have HST9 := Lib.hid ((hb9.block wo.heap.size hgt).trans HST.out)
              have hz9 := hb9.size
              go_wp2_with fail
              go_roundw
              case rel => exact ⟨k + 1, true, by omega, by go_num, rfl, Lib.hid (by show _ = _; rw [all_step HPX.out, HR.out, HJ2.out]; rfl), HST9, hB9, by omega⟩
              case measure => simp [intOf]; omega
            · have HJ := Lib.hid (CJ.out (s, t) (s', t') true (by rw [← hqe]; exact hj) s0 s1 s0' s1' t0 t1 t0' t1')
              have HJ2 := Lib.hid hj
              clear hqe hj
              go_wp2_with fail
              refine wp_region_below (by kernel_rfl) (by kernel_rfl) ?_
              repeat (go_big_quiet_step ((go_at_call 35; refine qBg (HJ.out _) (by simp) ?_; intro w_ h_; first | exact h_ | exact h_.below | (subst h_; exact Below.refl _ _) | (subst h_; (repeat' (first | (with_reducible exact Below.refl _ _) | (with_reducible assumption) | (with_reducible refine below_drewN ?_ _) | (with_reducible refine Below.drew ?_) | (with_reducible refine Below.alloc ?_ ?_ _) | (with_reducible refine Below.setCell ?_ ?_ _) | go_size))) | (obtain ⟨n_, rfl⟩ := h_; (repeat' (first | (with_reducible exact Below.refl _ _) | (with_reducible assumption) | (with_reducible refine below_drewN ?_ _) | (with_reducible refine Below.drew ?_) | (with_reducible refine Below.alloc ?_ ?_ _) | (with_reducible refine Below.setCell ?_ ?_ _) | go_size))))))
              refine wpQuiet_nil ?_
              intro _ hw'
              obtain ⟨⟨w9, hb9⟩, hw''⟩ := hw'
              subst hw''
              have hB9 := hB.trans (hb9.mono hs2)
              have HST9 := Lib.hid ((hb9.block wo.heap.size hgt).trans HST.out)
              have hz9 := hb9.size
              go_wp2_with fail
              go_roundw
              case rel => exact ⟨k + 1, false, by omega, by go_num, rfl, Lib.hid (by show _ = _; rw [all_step HPX.out, HR.out, HJ2.out]; rfl), HST9, hB9, by omega⟩
              case measure => simp [intOf]; omega
        · obtain rfl : k = m := by omega
          have hr2 : P.all (fun x => !q i x) = r := by
            have := hr.out
            rw [List.take_of_length_le (by have := HNL.out; omega)] at this
            exact this
          have HR2 := Lib.hid hr2
          have OWI := Lib.hid (own_below HO.out hB)
          have hBW := Lib.hid (HBO.out.trans (hB.mono hs))
          have hbs : w1.heap.size ≤ wi.heap.size := by omega
          clear hr hr2 hst
          cases r
          · go_wp2_with fail
            go_roundw
            case rel => exact ⟨i + 1, by omega, by go_num, Lib.hid (by rw [HPO.out HR2.out, HM.out]; exact OWI.out), hBW.out⟩
            case measure => simp [intOf]; omega
          · go_wp2_with (at_builtin; refine app1 rfl (.tmp 43) (.tmp 45) _ rfl w1.heap.size 2 _ 8 Try.underlying24 info_int64 rfl _ _ rfl _ k _ rfl OWI.out rfl (by omega) (by omega) hbs ?_; intro v3 w3 hown3 hb3 _; have OW := Lib.hid hown3; have HB3 := Lib.hid hb3; clear hown3 hb3)
            go_roundw
            case rel => exact ⟨i + 1, by omega, by go_num, Lib.hid (by rw [HPI.out HR2.out]; simp only [nz, List.map_append, List.length_append, List.length_map]; have := HM.out; rw [nz_len] at this; rw [this]; exact OW.out), hBW.out.trans HB3.out⟩
            case measure => simp [intOf]; omega
    · obtain rfl : i = n := by omega
      go_wp2_with fail
      go_ret2
      exact IntsPost.mk_ rfl (own_base hown.out HB1.out.size) (HB1.out.trans (hB.mono HB1.out.size))
set_option maxHeartbeats 1000000 in
theorem c_a2Has (A : Option Addr) (n c : Nat) (l : List Int) (z : Int) (r : Bool) (w : World) (ha : Zs w A n l) (hn : n ≤ 1048576) (hr : decide (z ∈ l) = r) :
    Calls Try.prog 22 #[.slice A n c, .int .i64 z] w fun e w' => e = .returned (.bool r) ∧ w = w' := by
  subst hr
  have HL := Lib.hid ha.1
  go_enter Try.func22, Try.ntmps22
  go_wp2_with fail
  go_loop [5] (fun i => ∃ k : Nat, k ≤ n ∧ i = .int .i64 k ∧ Hid (z ∉ l.take k)) (fun i => n - (intOf i).toNat)
  case atStart => exact ⟨0, Nat.zero_le _, rfl, Lib.hid (by simp)⟩
  case round =>
    obtain ⟨k, hk, rfl, hn⟩ := hrel
    by_cases hlt : k < n
    · obtain ⟨b, o, x, rfl, hb1, hb2, hx, c0⟩ := z_at ha (Below.refl _ _) hlt
      have HX := Lib.hid hx
      clear hx ha
      by_cases hxz : x = z
      · have t1 : (x == z) = true := by simp [hxz]
        have HM : Hid (z ∈ l) := Lib.hid (hxz ▸ List.mem_of_getElem? HX.out)
        clear hxz
        go_wp2_with fail
        go_ret
        exact ⟨by rw [decide_eq_true HM.out]; rfl, rfl⟩
      · have t1 : (x == z) = false := beq_eq_false_iff_ne.2 hxz
        have HN : Hid (z ∉ l.take (k + 1)) := Lib.hid (by rw [List.take_add_one, HX.out]; simp only [Option.toList_some, List.mem_append, List.mem_singleton, not_or]; exact ⟨hn.out, fun e => hxz e.symm⟩)
        clear hxz hn
        go_wp2_with fail
        go_round
        case rel => exact ⟨k + 1, by omega, by go_num, HN⟩
        case measure => simp [intOf]; omega
    · go_wp2_with fail
      go_ret
      have hM : z ∉ l := by have := hn.out; rwa [List.take_of_length_le (by have := HL.out; omega)] at this
      exact ⟨by rw [decide_eq_false hM]; rfl, rfl⟩
set_option maxHeartbeats 2000000 in
theorem c_a2Rises (A : Option Addr) (n c : Nat) (l : List Int) (z : Int) (w : World) (ha : Zs w A n l) (hn : n ≤ 1048576) (hb : ∀ x ∈ l, 0 ≤ x ∧ x < z) (hr : ∀ i x y, l[i]? = some x → l[i + 1]? = some y → x < y) :
    Calls Try.prog 21 #[.slice A n c, .int .i64 z] w fun e w' => e = .returned (.bool true) ∧ Below w.heap.size w w' := by
  have HA := Lib.hid ha
  have HB := Lib.hid hb
  have HR := Lib.hid hr
  clear ha hb hr
  go_enter Try.func21, Try.ntmps21
  go_wp2_with fail
  go_loopw [5] (fun i wr => ∃ k : Nat, k ≤ n ∧ i = .int .i64 k ∧ Below w.heap.size w wr) (fun i _ => n - (intOf i).toNat)
  case atStart => exact ⟨0, Nat.zero_le _, rfl, Below.refl _ _⟩
  case round =>
    obtain ⟨k, hk, rfl, hB⟩ := hrel
    rename World => wr
    have hs := hB.size
    by_cases hlt : k < n
    · obtain ⟨b, o, x, rfl, hb1, hb2, hx, c0⟩ := z_at HA.out hB hlt
      obtain ⟨x0, x1⟩ := HB.out x (List.mem_of_getElem? hx)
      have i1 : (k : Int) < n := by omega
      have i0 : (0 : Int) ≤ (k : Int) := by omega
      have m1 : decide (x < 0) = false := by simp; omega
      have m2 : decide (z ≤ x) = false := by simp; omega
      cases k with
      | zero =>
        have c0' : wr.cell? ⟨b, o, none⟩ = some (.int .i64 x) := c0
        clear hx
        go_wp2_with fail
        refine wp_region_below (by kernel_rfl) (by kernel_rfl) ?_
        repeat (go_big_quiet_step (fail))
        refine wpQuiet_nil ?_
        intro _ hw'
        obtain ⟨⟨w9, hb9⟩, hw''⟩ := hw'
        subst hw''
        have hB1 := hB.trans (hb9.mono hs)
        go_wp2_with fail
        go_roundw
        case rel => exact ⟨1, by omega, by go_num, hB1⟩
        case measure => simp [intOf]; omega
      | succ k =>
        obtain ⟨b', o', y, e1, _, _, hy, c1⟩ := z_at HA.out hB (k := k) (by omega)
        simp only [Option.some.injEq, Addr.mk.injEq, and_true] at e1
        obtain ⟨rfl, rfl⟩ := e1
        have hyx := HR.out k y x hy hx
        have m3 : decide (x ≤ y) = false := by simp; omega
        have m4 : decide ((0 : Int) < ((k + 1 : Nat) : Int)) = true := decide_eq_true (by omega)
        have i5 : ((k + 1 : Nat) : Int) = (k : Int) + 1 := by omega
        have i6 : (k : Int) < n := by omega
        have i7 : (0 : Int) ≤ (k : Int) := by omega
        clear hx hy
        go_wp2_with fail
        refine wp_region_below (by kernel_rfl) (by kernel_rfl) ?_
        repeat (go_big_quiet_step (fail))
        refine wpQuiet_nil ?_
        intro _ hw'
        obtain ⟨⟨w9, hb9⟩, hw''⟩ := hw'
        subst hw''
        have hB1 := hB.trans (hb9.mono hs)
        go_wp2_with fail
        go_roundw
        case rel => exact ⟨k + 2, by omega, by go_num, hB1⟩
        case measure => simp [intOf]; omega
    · go_wp2_with fail
      go_ret
      exact ⟨rfl, hB⟩
end Go.Proofs.Ytgigdipbfcffiaa
