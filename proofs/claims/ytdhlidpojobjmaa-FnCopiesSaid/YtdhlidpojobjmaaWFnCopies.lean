/- The walk of the law FnCopies: it returns true, and what was there stays as it was. -/
import Derived.Test.YtdhlidpojobjmaaCb
import Derived.Test.YtdhlidpojobjmaaAt
import Derived.Test.YtdhlidpojobjmaaCr
namespace Go.Proofs.Ytdhlidpojobjmaa.fnCopies
open Go.RowKit Go.BigFrame
attribute [local go_sem] sub_cell sub_frozen drewN_setCell

set_option maxRecDepth 20000 in
set_option maxHeartbeats 8000000 in
theorem walk (A0 : Option Addr) (n0 c0 : Nat) (A1 : Option Addr) (n1 c1 : Nat) (w : World) (w0 : InB w A0 n0) (w1 : InB w A1 n1) :
    Calls Try.prog 4 #[.slice A0 n0 c0, .slice A1 n1 c1] w fun e w' => e = .returned (.bool true) ∧ Below w.heap.size w w' := by
  obtain ⟨hb0, hn0⟩ := w0
  obtain ⟨hb1, hn1⟩ := w1
  have HA0 := Lib.hid hb0
  have HA1 := Lib.hid hb1
  clear hb0 hb1
  by_cases hl : (decide (3000 < n0) || decide (3000 < n1)) = true
  · have HL := Lib.hid hl
    clear hl
    go_enter Try.func4, Try.ntmps4
    go_wp2_with (go_at_call 7; refine (c_a2Long _ _ _ _ _ _ true _ HL.out).mono ?_; rintro r_ w1 ⟨rfl, rfl⟩)
    go_returns
    exact ⟨rfl, by (repeat' (first | (with_reducible exact Below.refl _ _) | (with_reducible assumption) | (with_reducible refine below_drewN ?_ _) | (with_reducible refine Below.drew ?_) | (with_reducible refine Below.alloc ?_ ?_ _) | (with_reducible refine Below.setCell ?_ ?_ _) | go_size))⟩
  · have hl2 : (decide (3000 < n0) || decide (3000 < n1)) = false := by simpa using hl
    have HL := Lib.hid hl2
    have e0 : n0 ≤ 3000 := by simp at hl; omega
    have e1 : n1 ≤ 3000 := by simp at hl; omega
    clear hl hl2
    go_enter Try.func4, Try.ntmps4
    go_wp2_with (go_at_call 7; refine (c_a2Long _ _ _ _ _ _ false _ HL.out).mono ?_; rintro r_ w1 ⟨rfl, rfl⟩)
    refine (c_A2Carbon A0 n0 c0 _ (HA0.out.later (by (repeat' (first | (with_reducible exact Below.refl _ _) | (with_reducible assumption) | (with_reducible refine below_drewN ?_ _) | (with_reducible refine Below.drew ?_) | (with_reducible refine Below.alloc ?_ ?_ _) | (with_reducible refine Below.setCell ?_ ?_ _) | go_size)))) (by omega)).mono ?_
    rintro r_ w1 ⟨F, L, M, rfl, h1, h2, h3, h4, h5, h6, hb1⟩
    have hz1 := hb1.size
    have hO : OkC F L M := ⟨by omega, by omega, by omega, by omega, by omega, by omega⟩
    have HO := Lib.hid hO
    obtain ⟨g1, g2⟩ := goodV_bd hO
    have gl := good_last hO
    have gn := good_next hO
    have HT := Lib.hid (fun k (hk0 : 0 ≤ k) (hk1 : k ≤ 500) => And.intro (fun w => c_TypingsFor F L M k w hO hk0 hk1) (typ_facts hO hk0 hk1))
    have CG := Lib.hid (fun w => c_GoodCopies F L M w hO)
    generalize goodV F L M = g at *
    have s1 := mul_le12 (s := g - 1) (L := L) (by omega) (by omega) (by omega) (by omega)
    have s2 := mul_le12 (s := g) (L := L) (by omega) (by omega) (by omega) (by omega)
    have CS1 := Lib.hid (fun w => c_StrengthAt F L M (g - 1) w hO (by omega) (by omega) s1.1 (by omega))
    generalize max (F - (g - 1) * L) 0 = la at *
    have CS2 := Lib.hid (fun (h : g < 12) w => c_StrengthAt F L M g w hO (by omega) (by omega) s2.1 (by omega))
    generalize max (F - g * L) 0 = nx at *
    clear s1 s2 hO
    have m1 : decide (g < 1) = false := by simp; omega
    have m2 : decide (12 < g) = false := by simp; omega
    have m3 : decide (la < M) = false := by simp; omega
    have H1 : Hid ((w1.alloc (.cells #[.int .i64 F, .int .i64 L, .int .i64 M] 33)).heap[w1.heap.size]? = some (.cells #[.int .i64 F, .int .i64 L, .int .i64 M] 33)) := Lib.hid (by simp [World.alloc, -World.alloc_eq])
    obtain ⟨p10, p11, p12, _⟩ := cells_of H1.out
    go_wp2_with fail
    refine (CG.out _).mono ?_
    rintro r_ w2 ⟨rfl, hb2⟩
    have H2 := Lib.hid ((hb2.block w1.heap.size (by go_size)).trans H1.out)
    obtain ⟨p20, p21, p22, _⟩ := cells_of H2.out
    have hB2 := later hb2 (w := w) (by (repeat' (first | (with_reducible exact Below.refl _ _) | (with_reducible assumption) | (with_reducible refine below_drewN ?_ _) | (with_reducible refine Below.drew ?_) | (with_reducible refine Below.alloc ?_ ?_ _) | (with_reducible refine Below.setCell ?_ ?_ _) | go_size)))
    have hz2 := hB2.size
    have hy2 := hb2.size
    (try simp only [World.size_alloc, World.size_setCell] at hy2)
    have hq2 : w1.heap.size < w2.heap.size := (by omega)
    clear p10 p11 p12 hb2
    go_wp2_with fail
    refine (CS1.out _).mono ?_
    rintro r_ w3 ⟨rfl, hb3⟩
    have H3 := Lib.hid ((hb3.block w1.heap.size (by go_size)).trans H2.out)
    obtain ⟨p30, p31, p32, _⟩ := cells_of H3.out
    have hB3 := later hb3 (w := w) (by (repeat' (first | (with_reducible exact Below.refl _ _) | (with_reducible assumption) | (with_reducible refine below_drewN ?_ _) | (with_reducible refine Below.drew ?_) | (with_reducible refine Below.alloc ?_ ?_ _) | (with_reducible refine Below.setCell ?_ ?_ _) | go_size)))
    have hz3 := hB3.size
    have hy3 := hb3.size
    (try simp only [World.size_alloc, World.size_setCell] at hy3)
    have hq3 : w1.heap.size < w3.heap.size := (by omega)
    clear p20 p21 p22 hb3
    by_cases h12 : g < 12
    · have gn' := gn h12
      have m4 : decide (M ≤ nx) = false := by simp; omega
      go_wp2_with fail
      refine (CS2.out h12 _).mono ?_
      rintro r_ w4 ⟨rfl, hb4⟩
      have H4 := Lib.hid ((hb4.block w1.heap.size (by go_size)).trans H3.out)
      obtain ⟨p40, p41, p42, _⟩ := cells_of H4.out
      have hB4 := later hb4 (w := w) (by (repeat' (first | (with_reducible exact Below.refl _ _) | (with_reducible assumption) | (with_reducible refine below_drewN ?_ _) | (with_reducible refine Below.drew ?_) | (with_reducible refine Below.alloc ?_ ?_ _) | (with_reducible refine Below.setCell ?_ ?_ _) | go_size)))
      have hz4 := hB4.size
      have hy4 := hb4.size
      (try simp only [World.size_alloc, World.size_setCell] at hy4)
      have hq4 : w1.heap.size < w4.heap.size := (by omega)
      clear p30 p31 p32 hb4
      go_wp2_with fail
      refine (c_a2At A1 n1 c1 0 12 w4 (HA1.out.later (by (repeat' (first | (with_reducible exact Below.refl _ _) | (with_reducible assumption) | (with_reducible refine below_drewN ?_ _) | (with_reducible refine Below.drew ?_) | (with_reducible refine Below.alloc ?_ ?_ _) | (with_reducible refine Below.setCell ?_ ?_ _) | go_size)))) (by omega) (by omega) (by omega) (by omega)).mono ?_
      rintro r_ w9 ⟨x, rfl, x0, x1, rfl⟩
      obtain ⟨sx0, sx1⟩ := mul_le12 (s := 1 + x - 1) (L := L) (by omega) (by omega) (by omega) (by omega)
      go_wp2_with fail
      refine (c_ForceFor F L M (1 + x) w4 HO.out (by omega) (by omega) sx0 (by omega)).mono ?_
      rintro r_ w5 ⟨fo, e0, hfo, rfl, hb5⟩
      have H5 := Lib.hid ((hb5.block w1.heap.size (by go_size)).trans H4.out)
      obtain ⟨p50, p51, p52, _⟩ := cells_of H5.out
      have hB5 := later hb5 (w := w) (by (repeat' (first | (with_reducible exact Below.refl _ _) | (with_reducible assumption) | (with_reducible refine below_drewN ?_ _) | (with_reducible refine Below.drew ?_) | (with_reducible refine Below.alloc ?_ ?_ _) | (with_reducible refine Below.setCell ?_ ?_ _) | go_size)))
      have hz5 := hB5.size
      have hy5 := hb5.size
      (try simp only [World.size_alloc, World.size_setCell] at hy5)
      have hq5 : w1.heap.size < w5.heap.size := (by omega)
      clear p40 p41 p42 hb5
      by_cases hbig : 1000 < M + (1 + x - 1) * L
      · rw [if_pos hbig] at hfo
        obtain ⟨rfl, rfl⟩ := hfo
        have m5 : decide (1000 < M + (1 + x - 1) * L) = true := by simpa using hbig
        go_wp2_with fail
        go_returns
        exact ⟨rfl, hB5⟩
      · rw [if_neg hbig] at hfo
        obtain ⟨e6, rfl⟩ := hfo
        have OX : OkC fo L M := ⟨by omega, by omega, by omega, by omega, by omega, by omega⟩
        have GX : goodV fo L M = 1 + x := by rw [e6]; exact good_force (by omega) (by omega) (by omega)
        have CGX := Lib.hid (fun w => GX ▸ c_GoodCopies fo L M w OX)
        have X5 : Hid ((w5.alloc (.cells #[.int .i64 fo, .int .i64 L, .int .i64 M] 33)).heap[w5.heap.size]? = some (.cells #[.int .i64 fo, .int .i64 L, .int .i64 M] 33)) := Lib.hid (by simp [World.alloc, -World.alloc_eq])
        have H5b : Hid ((w5.alloc (.cells #[.int .i64 fo, .int .i64 L, .int .i64 M] 33)).heap[w1.heap.size]? = some (.cells #[.int .i64 F, .int .i64 L, .int .i64 M] 33)) := Lib.hid ((Below.heap_alloc _ _ _ hq5).trans H5.out)
        by_cases hx : x = 0
        · have e7 : fo = M := by rw [e6, hx]; simp
          clear e6 GX
          subst e7
          subst hx
          go_wp2_with fail
          refine (CGX.out _).mono ?_
          rintro r_ w6 ⟨rfl, hb6⟩
          have H6 := Lib.hid ((hb6.block w1.heap.size (by go_size)).trans H5b.out)
          obtain ⟨p60, p61, p62, _⟩ := cells_of H6.out
          have hB6 := later hb6 (w := w) (by (repeat' (first | (with_reducible exact Below.refl _ _) | (with_reducible assumption) | (with_reducible refine below_drewN ?_ _) | (with_reducible refine Below.drew ?_) | (with_reducible refine Below.alloc ?_ ?_ _) | (with_reducible refine Below.setCell ?_ ?_ _) | go_size)))
          have hz6 := hB6.size
          have hy6 := hb6.size
          (try simp only [World.size_alloc, World.size_setCell] at hy6)
          have hq6 : w1.heap.size < w6.heap.size := (by omega)
          have X6 := Lib.hid ((hb6.block w5.heap.size (by go_size)).trans X5.out)
          obtain ⟨x60, x61, x62, xf6⟩ := cells_of X6.out
          have xf60 := xf6 0
          clear p50 p51 p52 hb6
          go_wp2_with fail
          go_returns
          exact ⟨rfl, hB6⟩
        · have l1 : L ≤ (1 + x - 1) * L := by
            have := Int.mul_le_mul_of_nonneg_right (show 1 ≤ 1 + x - 1 by omega) (show 0 ≤ L by omega)
            omega
          have OY : OkC (fo - 1) L M := ⟨by omega, by omega, by omega, by omega, by omega, by omega⟩
          have GY : goodV (fo - 1) L M < 1 + x := by rw [e6]; exact good_less (by omega) (by omega)
          have CGY := Lib.hid (fun w => c_GoodCopies (fo - 1) L M w OY)
          generalize goodV (fo - 1) L M = ls at *
          have m6 : (fo == M) = false := beq_eq_false_iff_ne.2 (by omega)
          have m7 : decide (ls < 1 + x) = true := by simpa using GY
          have fo1 : 1 < fo := by omega
          have fo2 : fo ≤ 1000 := by omega
          clear e6 GX OX OY hbig
          go_wp2_with fail
          refine (CGX.out _).mono ?_
          rintro r_ w6 ⟨rfl, hb6⟩
          have H6 := Lib.hid ((hb6.block w1.heap.size (by go_size)).trans H5b.out)
          obtain ⟨p60, p61, p62, _⟩ := cells_of H6.out
          have hB6 := later hb6 (w := w) (by (repeat' (first | (with_reducible exact Below.refl _ _) | (with_reducible assumption) | (with_reducible refine below_drewN ?_ _) | (with_reducible refine Below.drew ?_) | (with_reducible refine Below.alloc ?_ ?_ _) | (with_reducible refine Below.setCell ?_ ?_ _) | go_size)))
          have hz6 := hB6.size
          have hy6 := hb6.size
          (try simp only [World.size_alloc, World.size_setCell] at hy6)
          have hq6 : w1.heap.size < w6.heap.size := (by omega)
          have X6 := Lib.hid ((hb6.block w5.heap.size (by go_size)).trans X5.out)
          obtain ⟨x60, x61, x62, xf6⟩ := cells_of X6.out
          have xf60 := xf6 0
          clear p50 p51 p52 hb6
          go_wp2_with fail
          have X6b : Hid ((w6.setCell ⟨w5.heap.size, 0, none⟩ (.int .i64 (fo - 1))).heap[w5.heap.size]? = some (.cells #[.int .i64 (fo - 1), .int .i64 L, .int .i64 M] 33)) := Lib.hid (by simp [World.setCell, Array.getElem?_modify, X6.out])
          have H6b : Hid ((w6.setCell ⟨w5.heap.size, 0, none⟩ (.int .i64 (fo - 1))).heap[w1.heap.size]? = some (.cells #[.int .i64 F, .int .i64 L, .int .i64 M] 33)) := Lib.hid ((Below.heap_setCell _ _ _ _ (by show w1.heap.size ≠ w5.heap.size; omega)).trans H6.out)
          have hG6 : Below w.heap.size w (w6.setCell ⟨w5.heap.size, 0, none⟩ (.int .i64 (fo - 1))) := hB6.setCell (by show w.heap.size ≤ w5.heap.size; omega) _
          refine (CGY.out _).mono ?_
          rintro r_ w7 ⟨rfl, hb7⟩
          have H7 := Lib.hid ((hb7.block w1.heap.size (by go_size)).trans H6b.out)
          obtain ⟨p70, p71, p72, _⟩ := cells_of H7.out
          have hB7 := later hb7 (w := w) (by (repeat' (first | (with_reducible exact Below.refl _ _) | (with_reducible assumption) | (with_reducible refine below_drewN ?_ _) | (with_reducible refine Below.drew ?_) | (with_reducible refine Below.alloc ?_ ?_ _) | (with_reducible refine Below.setCell ?_ ?_ _) | go_size)))
          have hz7 := hB7.size
          have hy7 := hb7.size
          (try simp only [World.size_alloc, World.size_setCell] at hy7)
          have hq7 : w1.heap.size < w7.heap.size := (by omega)
          clear p60 p61 p62 hb7
          go_wp2_with fail
          refine (c_a2At A1 n1 c1 1 200 w7 (HA1.out.later (by (repeat' (first | (with_reducible exact Below.refl _ _) | (with_reducible assumption) | (with_reducible refine below_drewN ?_ _) | (with_reducible refine Below.drew ?_) | (with_reducible refine Below.alloc ?_ ?_ _) | (with_reducible refine Below.setCell ?_ ?_ _) | go_size)))) (by omega) (by omega) (by omega) (by omega)).mono ?_
          rintro r_ w10 ⟨y, rfl, y0, y1, rfl⟩
          obtain ⟨ht, t0, t1, t2, t3, t4, t5⟩ := HT.out y y0 (by omega)
          have CT := Lib.hid ht
          clear ht
          generalize typV F L M y = tp at *
          have t2' : decide (y ≤ tp * g) = true := by simpa using t2
          have t3' : decide ((tp - 1) * g < y) = true := by simpa using t3
          go_wp2_with fail
          refine (CT.out _).mono ?_
          rintro r_ w8 ⟨rfl, hb8⟩
          have hB8 := later hb8 (w := w) hB7
          clear hb8
          go_wp2_with fail
          go_returns
          exact ⟨by simp [*], hB8⟩
    · clear gn CS2
      go_wp2_with fail
      refine (c_a2At A1 n1 c1 0 12 w3 (HA1.out.later (by (repeat' (first | (with_reducible exact Below.refl _ _) | (with_reducible assumption) | (with_reducible refine below_drewN ?_ _) | (with_reducible refine Below.drew ?_) | (with_reducible refine Below.alloc ?_ ?_ _) | (with_reducible refine Below.setCell ?_ ?_ _) | go_size)))) (by omega) (by omega) (by omega) (by omega)).mono ?_
      rintro r_ w9 ⟨x, rfl, x0, x1, rfl⟩
      obtain ⟨sx0, sx1⟩ := mul_le12 (s := 1 + x - 1) (L := L) (by omega) (by omega) (by omega) (by omega)
      go_wp2_with fail
      refine (c_ForceFor F L M (1 + x) w3 HO.out (by omega) (by omega) sx0 (by omega)).mono ?_
      rintro r_ w5 ⟨fo, e0, hfo, rfl, hb5⟩
      have H5 := Lib.hid ((hb5.block w1.heap.size (by go_size)).trans H3.out)
      obtain ⟨p50, p51, p52, _⟩ := cells_of H5.out
      have hB5 := later hb5 (w := w) (by (repeat' (first | (with_reducible exact Below.refl _ _) | (with_reducible assumption) | (with_reducible refine below_drewN ?_ _) | (with_reducible refine Below.drew ?_) | (with_reducible refine Below.alloc ?_ ?_ _) | (with_reducible refine Below.setCell ?_ ?_ _) | go_size)))
      have hz5 := hB5.size
      have hy5 := hb5.size
      (try simp only [World.size_alloc, World.size_setCell] at hy5)
      have hq5 : w1.heap.size < w5.heap.size := (by omega)
      clear p30 p31 p32 hb5
      by_cases hbig : 1000 < M + (1 + x - 1) * L
      · rw [if_pos hbig] at hfo
        obtain ⟨rfl, rfl⟩ := hfo
        have m5 : decide (1000 < M + (1 + x - 1) * L) = true := by simpa using hbig
        go_wp2_with fail
        go_returns
        exact ⟨rfl, hB5⟩
      · rw [if_neg hbig] at hfo
        obtain ⟨e6, rfl⟩ := hfo
        have OX : OkC fo L M := ⟨by omega, by omega, by omega, by omega, by omega, by omega⟩
        have GX : goodV fo L M = 1 + x := by rw [e6]; exact good_force (by omega) (by omega) (by omega)
        have CGX := Lib.hid (fun w => GX ▸ c_GoodCopies fo L M w OX)
        have X5 : Hid ((w5.alloc (.cells #[.int .i64 fo, .int .i64 L, .int .i64 M] 33)).heap[w5.heap.size]? = some (.cells #[.int .i64 fo, .int .i64 L, .int .i64 M] 33)) := Lib.hid (by simp [World.alloc, -World.alloc_eq])
        have H5b : Hid ((w5.alloc (.cells #[.int .i64 fo, .int .i64 L, .int .i64 M] 33)).heap[w1.heap.size]? = some (.cells #[.int .i64 F, .int .i64 L, .int .i64 M] 33)) := Lib.hid ((Below.heap_alloc _ _ _ hq5).trans H5.out)
        by_cases hx : x = 0
        · have e7 : fo = M := by rw [e6, hx]; simp
          clear e6 GX
          subst e7
          subst hx
          go_wp2_with fail
          refine (CGX.out _).mono ?_
          rintro r_ w6 ⟨rfl, hb6⟩
          have H6 := Lib.hid ((hb6.block w1.heap.size (by go_size)).trans H5b.out)
          obtain ⟨p60, p61, p62, _⟩ := cells_of H6.out
          have hB6 := later hb6 (w := w) (by (repeat' (first | (with_reducible exact Below.refl _ _) | (with_reducible assumption) | (with_reducible refine below_drewN ?_ _) | (with_reducible refine Below.drew ?_) | (with_reducible refine Below.alloc ?_ ?_ _) | (with_reducible refine Below.setCell ?_ ?_ _) | go_size)))
          have hz6 := hB6.size
          have hy6 := hb6.size
          (try simp only [World.size_alloc, World.size_setCell] at hy6)
          have hq6 : w1.heap.size < w6.heap.size := (by omega)
          have X6 := Lib.hid ((hb6.block w5.heap.size (by go_size)).trans X5.out)
          obtain ⟨x60, x61, x62, xf6⟩ := cells_of X6.out
          have xf60 := xf6 0
          clear p50 p51 p52 hb6
          go_wp2_with fail
          go_returns
          exact ⟨rfl, hB6⟩
        · have l1 : L ≤ (1 + x - 1) * L := by
            have := Int.mul_le_mul_of_nonneg_right (show 1 ≤ 1 + x - 1 by omega) (show 0 ≤ L by omega)
            omega
          have OY : OkC (fo - 1) L M := ⟨by omega, by omega, by omega, by omega, by omega, by omega⟩
          have GY : goodV (fo - 1) L M < 1 + x := by rw [e6]; exact good_less (by omega) (by omega)
          have CGY := Lib.hid (fun w => c_GoodCopies (fo - 1) L M w OY)
          generalize goodV (fo - 1) L M = ls at *
          have m6 : (fo == M) = false := beq_eq_false_iff_ne.2 (by omega)
          have m7 : decide (ls < 1 + x) = true := by simpa using GY
          have fo1 : 1 < fo := by omega
          have fo2 : fo ≤ 1000 := by omega
          clear e6 GX OX OY hbig
          go_wp2_with fail
          refine (CGX.out _).mono ?_
          rintro r_ w6 ⟨rfl, hb6⟩
          have H6 := Lib.hid ((hb6.block w1.heap.size (by go_size)).trans H5b.out)
          obtain ⟨p60, p61, p62, _⟩ := cells_of H6.out
          have hB6 := later hb6 (w := w) (by (repeat' (first | (with_reducible exact Below.refl _ _) | (with_reducible assumption) | (with_reducible refine below_drewN ?_ _) | (with_reducible refine Below.drew ?_) | (with_reducible refine Below.alloc ?_ ?_ _) | (with_reducible refine Below.setCell ?_ ?_ _) | go_size)))
          have hz6 := hB6.size
          have hy6 := hb6.size
          (try simp only [World.size_alloc, World.size_setCell] at hy6)
          have hq6 : w1.heap.size < w6.heap.size := (by omega)
          have X6 := Lib.hid ((hb6.block w5.heap.size (by go_size)).trans X5.out)
          obtain ⟨x60, x61, x62, xf6⟩ := cells_of X6.out
          have xf60 := xf6 0
          clear p50 p51 p52 hb6
          go_wp2_with fail
          have X6b : Hid ((w6.setCell ⟨w5.heap.size, 0, none⟩ (.int .i64 (fo - 1))).heap[w5.heap.size]? = some (.cells #[.int .i64 (fo - 1), .int .i64 L, .int .i64 M] 33)) := Lib.hid (by simp [World.setCell, Array.getElem?_modify, X6.out])
          have H6b : Hid ((w6.setCell ⟨w5.heap.size, 0, none⟩ (.int .i64 (fo - 1))).heap[w1.heap.size]? = some (.cells #[.int .i64 F, .int .i64 L, .int .i64 M] 33)) := Lib.hid ((Below.heap_setCell _ _ _ _ (by show w1.heap.size ≠ w5.heap.size; omega)).trans H6.out)
          have hG6 : Below w.heap.size w (w6.setCell ⟨w5.heap.size, 0, none⟩ (.int .i64 (fo - 1))) := hB6.setCell (by show w.heap.size ≤ w5.heap.size; omega) _
          refine (CGY.out _).mono ?_
          rintro r_ w7 ⟨rfl, hb7⟩
          have H7 := Lib.hid ((hb7.block w1.heap.size (by go_size)).trans H6b.out)
          obtain ⟨p70, p71, p72, _⟩ := cells_of H7.out
          have hB7 := later hb7 (w := w) (by (repeat' (first | (with_reducible exact Below.refl _ _) | (with_reducible assumption) | (with_reducible refine below_drewN ?_ _) | (with_reducible refine Below.drew ?_) | (with_reducible refine Below.alloc ?_ ?_ _) | (with_reducible refine Below.setCell ?_ ?_ _) | go_size)))
          have hz7 := hB7.size
          have hy7 := hb7.size
          (try simp only [World.size_alloc, World.size_setCell] at hy7)
          have hq7 : w1.heap.size < w7.heap.size := (by omega)
          clear p60 p61 p62 hb7
          go_wp2_with fail
          refine (c_a2At A1 n1 c1 1 200 w7 (HA1.out.later (by (repeat' (first | (with_reducible exact Below.refl _ _) | (with_reducible assumption) | (with_reducible refine below_drewN ?_ _) | (with_reducible refine Below.drew ?_) | (with_reducible refine Below.alloc ?_ ?_ _) | (with_reducible refine Below.setCell ?_ ?_ _) | go_size)))) (by omega) (by omega) (by omega) (by omega)).mono ?_
          rintro r_ w10 ⟨y, rfl, y0, y1, rfl⟩
          obtain ⟨ht, t0, t1, t2, t3, t4, t5⟩ := HT.out y y0 (by omega)
          have CT := Lib.hid ht
          clear ht
          generalize typV F L M y = tp at *
          have t2' : decide (y ≤ tp * g) = true := by simpa using t2
          have t3' : decide ((tp - 1) * g < y) = true := by simpa using t3
          go_wp2_with fail
          refine (CT.out _).mono ?_
          rintro r_ w8 ⟨rfl, hb8⟩
          have hB8 := later hb8 (w := w) hB7
          clear hb8
          go_wp2_with fail
          go_returns
          exact ⟨by simp [*], hB8⟩
end Go.Proofs.Ytdhlidpojobjmaa.fnCopies
