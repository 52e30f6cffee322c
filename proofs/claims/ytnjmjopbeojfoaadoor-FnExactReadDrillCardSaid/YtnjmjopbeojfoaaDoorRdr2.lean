/- Contracts: a drill read from a text. -/
import Derived.Test.YtnjmjopbeojfoaaDoorRdr
import Derived.Deep.RegionHeld3
namespace Go.Proofs.YtnjmjopbeojfoaaDoor
open Go.RowKit Go.BigFrame
attribute [local go_sem] sub_cell sub_frozen drewN_setCell

set_option maxRecDepth 20000 in
set_option maxHeartbeats 8000000 in
theorem c_sReadDrill (s : ByteArray) (w : World) (hs : s.size ≤ 1048576) :
    Calls Tryd.prog 9 #[.string s] w fun e w' => e = .returned (rdT (rdV (bl s))) ∧ Below w.heap.size w w' := by
  have CS := Lib.hid (fun W => c_l01Split s 32 W hs)
  obtain ⟨L, hL⟩ : ∃ L, splL 32 (bl s) = L := ⟨_, rfl⟩
  have hLl := splL_len 32 (bl s)
  rw [hL, bl_len] at hLl
  have HL := Lib.hid hL
  rw [hL] at CS
  by_cases h3 : L.length = 3
  rotate_left
  · have HN : Hid (rdV (bl s) = none) := by
      show _ = _
      unfold rdV
      rw [hL]
      match L, h3 with
      | [], _ => rfl
      | [_], _ => rfl
      | [_, _], _ => rfl
      | [_, _, _], h => exact absurd rfl h
      | _ :: _ :: _ :: _ :: _, _ => rfl
    have h3I : ((L.length : Int) != 3) = true := by simp; omega
    clear hL
    go_enter Tryd.func9, Tryd.ntmps9
    go_wp2_with (go_at_call 16; refine (CS.out _).mono ?_; rintro r_ w1 ⟨v, rfl, hrow, hb1⟩; obtain ⟨A, cap, rfl, hcell⟩ := hrow.form; have hB1 := later hb1 (w := w) (by (repeat' (first | (with_reducible exact Below.refl _ _) | (with_reducible assumption) | (with_reducible refine below_drewN ?_ _) | (with_reducible refine Below.drew ?_) | (with_reducible refine Below.alloc ?_ ?_ _) | (with_reducible refine Below.setCell ?_ ?_ _) | go_size))); have hy1 := hb1.size; simp only [World.size_alloc] at hy1; have z0 : w1.cell? ⟨w.heap.size, 0, none⟩ = some (.string ⟨#[]⟩) := (hb1.cell (p := ⟨w.heap.size, 0, none⟩) (by simp)).trans (by simp [go_sem]); have zf0 : w1.frozen? ⟨w.heap.size, 0, none⟩ = false := (hb1.frozen (p := ⟨w.heap.size, 0, none⟩) (by simp)).trans (by simp [go_sem]); have z1 : w1.cell? ⟨w.heap.size, 1, none⟩ = some (.string ⟨#[]⟩) := (hb1.cell (p := ⟨w.heap.size, 1, none⟩) (by simp)).trans (by simp [go_sem]); have zf1 : w1.frozen? ⟨w.heap.size, 1, none⟩ = false := (hb1.frozen (p := ⟨w.heap.size, 1, none⟩) (by simp)).trans (by simp [go_sem]); have z2 : w1.cell? ⟨w.heap.size, 2, none⟩ = some (.int .i64 0) := (hb1.cell (p := ⟨w.heap.size, 2, none⟩) (by simp)).trans (by simp [go_sem]); have zf2 : w1.frozen? ⟨w.heap.size, 2, none⟩ = false := (hb1.frozen (p := ⟨w.heap.size, 2, none⟩) (by simp)).trans (by simp [go_sem]); clear hb1 hrow hcell)
    refine bodyPost_ret (by simp [results, Tryd.results9, go_sem, *]; try rfl) rfl ?_
    exact ⟨by rw [HN.out]; rfl, by (repeat' (first | (with_reducible exact Below.refl _ _) | (with_reducible assumption) | (with_reducible refine below_drewN ?_ _) | (with_reducible refine Below.drew ?_) | (with_reducible refine Below.alloc ?_ ?_ _) | (with_reducible refine Below.setCell ?_ ?_ _) | go_size))⟩
  · match L, h3 with
    | [a, b, c], _ =>
    have hla : a.length ≤ s.size := by rw [← bl_len]; exact splL_le (by rw [hL]; simp)
    have hlb : b.length ≤ s.size := by rw [← bl_len]; exact splL_le (by rw [hL]; simp)
    have hlc : c.length ≤ s.size := by rw [← bl_len]; exact splL_le (by rw [hL]; simp)
    have hsa : (sb a).size ≤ maxLen := by rw [sb_size]; unfold maxLen; omega
    have hsb : (sb b).size ≤ maxLen := by rw [sb_size]; unfold maxLen; omega
    have CN0 := fun W => c_l01Number (sb c) W (by rw [sb_size]; omega)
    rw [bl_sb] at CN0
    have hNV : rdV (bl s) = (numV c).bind fun n => if okDr (sb a, sb b, n) then some (sb a, sb b, n) else none := by unfold rdV; rw [hL]
    clear hL
    cases hn : numV c with
    | none =>
      rw [hn] at CN0 hNV
      have HN := Lib.hid hNV
      have CN : Hid (∀ W : World, Calls Tryd.prog 17 #[.string (sb c)] W fun e w' => e = .returned (.tuple #[.int .i64 0, .bool false]) ∧ Below W.heap.size W w') := CN0
      clear hn hNV CN0
      go_enter Tryd.func9, Tryd.ntmps9
      go_wp2_with (first | (go_at_call 16; refine (CS.out _).mono ?_; rintro r_ w1 ⟨v, rfl, hrow, hb1⟩; obtain ⟨A, cap, rfl, hcell⟩ := hrow.form; obtain ⟨g, rfl, hg, k0⟩ := hcell 0 (by simp); obtain ⟨g1, hA1, _, k1⟩ := hcell 1 (by simp); obtain rfl : g = g1 := (by simpa using hA1); obtain ⟨g2, hA2, _, k2⟩ := hcell 2 (by simp); obtain rfl : g = g2 := (by simpa using hA2); simp only [List.getElem_cons_zero, List.getElem_cons_succ] at k0 k1 k2; have hB1 := later hb1 (w := w) (by (repeat' (first | (with_reducible exact Below.refl _ _) | (with_reducible assumption) | (with_reducible refine below_drewN ?_ _) | (with_reducible refine Below.drew ?_) | (with_reducible refine Below.alloc ?_ ?_ _) | (with_reducible refine Below.setCell ?_ ?_ _) | go_size))); have hy1 := hb1.size; simp only [World.size_alloc] at hy1; have z0 : w1.cell? ⟨w.heap.size, 0, none⟩ = some (.string ⟨#[]⟩) := (hb1.cell (p := ⟨w.heap.size, 0, none⟩) (by simp)).trans (by simp [go_sem]); have zf0 : w1.frozen? ⟨w.heap.size, 0, none⟩ = false := (hb1.frozen (p := ⟨w.heap.size, 0, none⟩) (by simp)).trans (by simp [go_sem]); have z1 : w1.cell? ⟨w.heap.size, 1, none⟩ = some (.string ⟨#[]⟩) := (hb1.cell (p := ⟨w.heap.size, 1, none⟩) (by simp)).trans (by simp [go_sem]); have zf1 : w1.frozen? ⟨w.heap.size, 1, none⟩ = false := (hb1.frozen (p := ⟨w.heap.size, 1, none⟩) (by simp)).trans (by simp [go_sem]); have z2 : w1.cell? ⟨w.heap.size, 2, none⟩ = some (.int .i64 0) := (hb1.cell (p := ⟨w.heap.size, 2, none⟩) (by simp)).trans (by simp [go_sem]); have zf2 : w1.frozen? ⟨w.heap.size, 2, none⟩ = false := (hb1.frozen (p := ⟨w.heap.size, 2, none⟩) (by simp)).trans (by simp [go_sem]); clear hb1 hrow hcell hA1 hA2) | (go_at_call 17; refine (CN.out _).mono ?_; rintro r_ w2 ⟨rfl, hb2⟩; have hB2 := hB1.trans (hb2.mono hB1.size); have hy2 := hb2.size; have hg2 : g < w2.heap.size := (by omega); have hw2 : w.heap.size < w2.heap.size := (by omega); have y0 := (hb2.cell (p := ⟨g, 0, none⟩) hg).trans k0; have y1 := (hb2.cell (p := ⟨g, 1, none⟩) hg).trans k1; have y2 := (hb2.cell (p := ⟨g, 2, none⟩) hg).trans k2; have x0 := (hb2.cell (p := ⟨w.heap.size, 0, none⟩) (by show w.heap.size < _; omega)).trans z0; have xf0 := (hb2.frozen (p := ⟨w.heap.size, 0, none⟩) (by show w.heap.size < _; omega)).trans zf0; have x1 := (hb2.cell (p := ⟨w.heap.size, 1, none⟩) (by show w.heap.size < _; omega)).trans z1; have xf1 := (hb2.frozen (p := ⟨w.heap.size, 1, none⟩) (by show w.heap.size < _; omega)).trans zf1; have x2 := (hb2.cell (p := ⟨w.heap.size, 2, none⟩) (by show w.heap.size < _; omega)).trans z2; have xf2 := (hb2.frozen (p := ⟨w.heap.size, 2, none⟩) (by show w.heap.size < _; omega)).trans zf2; clear hb2 k0 k1 k2 z0 z1 z2 zf0 zf1 zf2))
      go_region
      all_goals
        go_wp2_with fail
        refine bodyPost_ret (by simp [results, Tryd.results9, go_sem, *]; try rfl) rfl ?_
        exact ⟨by rw [HN.out]; rfl, by (repeat' (first | (with_reducible exact Below.refl _ _) | (with_reducible assumption) | (with_reducible refine below_drewN ?_ _) | (with_reducible refine Below.drew ?_) | (with_reducible refine Below.alloc ?_ ?_ _) | (with_reducible refine Below.setCell ?_ ?_ _) | go_size))⟩
    | some n =>
      rw [hn] at CN0 hNV
      obtain ⟨n0, n1⟩ := numV_bd hn
      have CN : Hid (∀ W : World, Calls Tryd.prog 17 #[.string (sb c)] W fun e w' => e = .returned (.tuple #[.int .i64 n, .bool true]) ∧ Below W.heap.size W w') := CN0
      cases ho : okDr (sb a, sb b, n) with
      | false =>
        rw [Option.bind_some, ho] at hNV
        have HN := Lib.hid hNV
        have HO := Lib.hid ho
        clear hn hNV CN0 ho
        go_enter Tryd.func9, Tryd.ntmps9
        go_wp2_with (first | (go_at_call 16; refine (CS.out _).mono ?_; rintro r_ w1 ⟨v, rfl, hrow, hb1⟩; obtain ⟨A, cap, rfl, hcell⟩ := hrow.form; obtain ⟨g, rfl, hg, k0⟩ := hcell 0 (by simp); obtain ⟨g1, hA1, _, k1⟩ := hcell 1 (by simp); obtain rfl : g = g1 := (by simpa using hA1); obtain ⟨g2, hA2, _, k2⟩ := hcell 2 (by simp); obtain rfl : g = g2 := (by simpa using hA2); simp only [List.getElem_cons_zero, List.getElem_cons_succ] at k0 k1 k2; have hB1 := later hb1 (w := w) (by (repeat' (first | (with_reducible exact Below.refl _ _) | (with_reducible assumption) | (with_reducible refine below_drewN ?_ _) | (with_reducible refine Below.drew ?_) | (with_reducible refine Below.alloc ?_ ?_ _) | (with_reducible refine Below.setCell ?_ ?_ _) | go_size))); have hy1 := hb1.size; simp only [World.size_alloc] at hy1; have z0 : w1.cell? ⟨w.heap.size, 0, none⟩ = some (.string ⟨#[]⟩) := (hb1.cell (p := ⟨w.heap.size, 0, none⟩) (by simp)).trans (by simp [go_sem]); have zf0 : w1.frozen? ⟨w.heap.size, 0, none⟩ = false := (hb1.frozen (p := ⟨w.heap.size, 0, none⟩) (by simp)).trans (by simp [go_sem]); have z1 : w1.cell? ⟨w.heap.size, 1, none⟩ = some (.string ⟨#[]⟩) := (hb1.cell (p := ⟨w.heap.size, 1, none⟩) (by simp)).trans (by simp [go_sem]); have zf1 : w1.frozen? ⟨w.heap.size, 1, none⟩ = false := (hb1.frozen (p := ⟨w.heap.size, 1, none⟩) (by simp)).trans (by simp [go_sem]); have z2 : w1.cell? ⟨w.heap.size, 2, none⟩ = some (.int .i64 0) := (hb1.cell (p := ⟨w.heap.size, 2, none⟩) (by simp)).trans (by simp [go_sem]); have zf2 : w1.frozen? ⟨w.heap.size, 2, none⟩ = false := (hb1.frozen (p := ⟨w.heap.size, 2, none⟩) (by simp)).trans (by simp [go_sem]); clear hb1 hrow hcell hA1 hA2) | (go_at_call 17; refine (CN.out _).mono ?_; rintro r_ w2 ⟨rfl, hb2⟩; have hB2 := hB1.trans (hb2.mono hB1.size); have hy2 := hb2.size; have hg2 : g < w2.heap.size := (by omega); have hw2 : w.heap.size < w2.heap.size := (by omega); have y0 := (hb2.cell (p := ⟨g, 0, none⟩) hg).trans k0; have y1 := (hb2.cell (p := ⟨g, 1, none⟩) hg).trans k1; have y2 := (hb2.cell (p := ⟨g, 2, none⟩) hg).trans k2; have x0 := (hb2.cell (p := ⟨w.heap.size, 0, none⟩) (by show w.heap.size < _; omega)).trans z0; have xf0 := (hb2.frozen (p := ⟨w.heap.size, 0, none⟩) (by show w.heap.size < _; omega)).trans zf0; have x1 := (hb2.cell (p := ⟨w.heap.size, 1, none⟩) (by show w.heap.size < _; omega)).trans z1; have xf1 := (hb2.frozen (p := ⟨w.heap.size, 1, none⟩) (by show w.heap.size < _; omega)).trans zf1; have x2 := (hb2.cell (p := ⟨w.heap.size, 2, none⟩) (by show w.heap.size < _; omega)).trans z2; have xf2 := (hb2.frozen (p := ⟨w.heap.size, 2, none⟩) (by show w.heap.size < _; omega)).trans zf2; clear hb2 k0 k1 k2 z0 z1 z2 zf0 zf1 zf2))
        go_region
        all_goals
          go_wp2_with (go_at_call 12; refine (c_l21One _ _ _ _ HO.out _ hsa hsb).mono ?_; rintro r_ w3 ⟨rfl, hb3⟩; have r0 : w3.cell? ⟨w.heap.size, 0, none⟩ = some (.string ⟨#[]⟩) := (hb3.cell (p := ⟨w.heap.size, 0, none⟩) (by show w.heap.size < _; simp; omega)).trans (((((Below.refl w2.heap.size w2).alloc (Nat.le_refl _) _).drew).cell (p := ⟨w.heap.size, 0, none⟩) hw2).trans x0); have r1 : w3.cell? ⟨w.heap.size, 1, none⟩ = some (.string ⟨#[]⟩) := (hb3.cell (p := ⟨w.heap.size, 1, none⟩) (by show w.heap.size < _; simp; omega)).trans (((((Below.refl w2.heap.size w2).alloc (Nat.le_refl _) _).drew).cell (p := ⟨w.heap.size, 1, none⟩) hw2).trans x1); have r2 : w3.cell? ⟨w.heap.size, 2, none⟩ = some (.int .i64 0) := (hb3.cell (p := ⟨w.heap.size, 2, none⟩) (by show w.heap.size < _; simp; omega)).trans (((((Below.refl w2.heap.size w2).alloc (Nat.le_refl _) _).drew).cell (p := ⟨w.heap.size, 2, none⟩) hw2).trans x2); have hB3 := later hb3 (w := w) (by (repeat' (first | (with_reducible exact Below.refl _ _) | (with_reducible assumption) | (with_reducible refine below_drewN ?_ _) | (with_reducible refine Below.drew ?_) | (with_reducible refine Below.alloc ?_ ?_ _) | (with_reducible refine Below.setCell ?_ ?_ _) | go_size))); have hz3 := hB3.size; have hy3 := hb3.size; obtain ⟨hc3, hf3⟩ := bcell hb3; (try simp only [World.size_alloc, World.heap_drewN] at hc3 hf3 hy3); clear hb3)
          refine bodyPost_ret (by simp [results, Tryd.results9, go_sem, *]; try rfl) rfl ?_
          exact ⟨by rw [HN.out]; rfl, by (repeat' (first | (with_reducible exact Below.refl _ _) | (with_reducible assumption) | (with_reducible refine below_drewN ?_ _) | (with_reducible refine Below.drew ?_) | (with_reducible refine Below.alloc ?_ ?_ _) | (with_reducible refine Below.setCell ?_ ?_ _) | go_size))⟩
      | true =>
        rw [Option.bind_some, ho] at hNV
        have HN := Lib.hid hNV
        have HO := Lib.hid ho
        clear hn hNV CN0 ho
        go_enter Tryd.func9, Tryd.ntmps9
        go_wp2_with (first | (go_at_call 16; refine (CS.out _).mono ?_; rintro r_ w1 ⟨v, rfl, hrow, hb1⟩; obtain ⟨A, cap, rfl, hcell⟩ := hrow.form; obtain ⟨g, rfl, hg, k0⟩ := hcell 0 (by simp); obtain ⟨g1, hA1, _, k1⟩ := hcell 1 (by simp); obtain rfl : g = g1 := (by simpa using hA1); obtain ⟨g2, hA2, _, k2⟩ := hcell 2 (by simp); obtain rfl : g = g2 := (by simpa using hA2); simp only [List.getElem_cons_zero, List.getElem_cons_succ] at k0 k1 k2; have hB1 := later hb1 (w := w) (by (repeat' (first | (with_reducible exact Below.refl _ _) | (with_reducible assumption) | (with_reducible refine below_drewN ?_ _) | (with_reducible refine Below.drew ?_) | (with_reducible refine Below.alloc ?_ ?_ _) | (with_reducible refine Below.setCell ?_ ?_ _) | go_size))); have hy1 := hb1.size; simp only [World.size_alloc] at hy1; have z0 : w1.cell? ⟨w.heap.size, 0, none⟩ = some (.string ⟨#[]⟩) := (hb1.cell (p := ⟨w.heap.size, 0, none⟩) (by simp)).trans (by simp [go_sem]); have zf0 : w1.frozen? ⟨w.heap.size, 0, none⟩ = false := (hb1.frozen (p := ⟨w.heap.size, 0, none⟩) (by simp)).trans (by simp [go_sem]); have z1 : w1.cell? ⟨w.heap.size, 1, none⟩ = some (.string ⟨#[]⟩) := (hb1.cell (p := ⟨w.heap.size, 1, none⟩) (by simp)).trans (by simp [go_sem]); have zf1 : w1.frozen? ⟨w.heap.size, 1, none⟩ = false := (hb1.frozen (p := ⟨w.heap.size, 1, none⟩) (by simp)).trans (by simp [go_sem]); have z2 : w1.cell? ⟨w.heap.size, 2, none⟩ = some (.int .i64 0) := (hb1.cell (p := ⟨w.heap.size, 2, none⟩) (by simp)).trans (by simp [go_sem]); have zf2 : w1.frozen? ⟨w.heap.size, 2, none⟩ = false := (hb1.frozen (p := ⟨w.heap.size, 2, none⟩) (by simp)).trans (by simp [go_sem]); clear hb1 hrow hcell hA1 hA2) | (go_at_call 17; refine (CN.out _).mono ?_; rintro r_ w2 ⟨rfl, hb2⟩; have hB2 := hB1.trans (hb2.mono hB1.size); have hy2 := hb2.size; have hg2 : g < w2.heap.size := (by omega); have hw2 : w.heap.size < w2.heap.size := (by omega); have y0 := (hb2.cell (p := ⟨g, 0, none⟩) hg).trans k0; have y1 := (hb2.cell (p := ⟨g, 1, none⟩) hg).trans k1; have y2 := (hb2.cell (p := ⟨g, 2, none⟩) hg).trans k2; have x0 := (hb2.cell (p := ⟨w.heap.size, 0, none⟩) (by show w.heap.size < _; omega)).trans z0; have xf0 := (hb2.frozen (p := ⟨w.heap.size, 0, none⟩) (by show w.heap.size < _; omega)).trans zf0; have x1 := (hb2.cell (p := ⟨w.heap.size, 1, none⟩) (by show w.heap.size < _; omega)).trans z1; have xf1 := (hb2.frozen (p := ⟨w.heap.size, 1, none⟩) (by show w.heap.size < _; omega)).trans zf1; have x2 := (hb2.cell (p := ⟨w.heap.size, 2, none⟩) (by show w.heap.size < _; omega)).trans z2; have xf2 := (hb2.frozen (p := ⟨w.heap.size, 2, none⟩) (by show w.heap.size < _; omega)).trans zf2; clear hb2 k0 k1 k2 z0 z1 z2 zf0 zf1 zf2))
        go_region
        all_goals
          go_wp2_with (go_at_call 12; refine (c_l21One _ _ _ _ HO.out _ hsa hsb).mono ?_; rintro r_ w3 ⟨rfl, hb3⟩; have r0 : w3.cell? ⟨w.heap.size, 0, none⟩ = some (.string ⟨#[]⟩) := (hb3.cell (p := ⟨w.heap.size, 0, none⟩) (by show w.heap.size < _; simp; omega)).trans (((((Below.refl w2.heap.size w2).alloc (Nat.le_refl _) _).drew).cell (p := ⟨w.heap.size, 0, none⟩) hw2).trans x0); have r1 : w3.cell? ⟨w.heap.size, 1, none⟩ = some (.string ⟨#[]⟩) := (hb3.cell (p := ⟨w.heap.size, 1, none⟩) (by show w.heap.size < _; simp; omega)).trans (((((Below.refl w2.heap.size w2).alloc (Nat.le_refl _) _).drew).cell (p := ⟨w.heap.size, 1, none⟩) hw2).trans x1); have r2 : w3.cell? ⟨w.heap.size, 2, none⟩ = some (.int .i64 0) := (hb3.cell (p := ⟨w.heap.size, 2, none⟩) (by show w.heap.size < _; simp; omega)).trans (((((Below.refl w2.heap.size w2).alloc (Nat.le_refl _) _).drew).cell (p := ⟨w.heap.size, 2, none⟩) hw2).trans x2); have hB3 := later hb3 (w := w) (by (repeat' (first | (with_reducible exact Below.refl _ _) | (with_reducible assumption) | (with_reducible refine below_drewN ?_ _) | (with_reducible refine Below.drew ?_) | (with_reducible refine Below.alloc ?_ ?_ _) | (with_reducible refine Below.setCell ?_ ?_ _) | go_size))); have hz3 := hB3.size; have hy3 := hb3.size; obtain ⟨hc3, hf3⟩ := bcell hb3; (try simp only [World.size_alloc, World.heap_drewN] at hc3 hf3 hy3); clear hb3)
          refine bodyPost_ret (by simp [results, Tryd.results9, go_sem, *]; try rfl) rfl ?_
          exact ⟨by rw [HN.out]; rfl, by (repeat' (first | (with_reducible exact Below.refl _ _) | (with_reducible assumption) | (with_reducible refine below_drewN ?_ _) | (with_reducible refine Below.drew ?_) | (with_reducible refine Below.alloc ?_ ?_ _) | (with_reducible refine Below.setCell ?_ ?_ _) | go_size))⟩
end Go.Proofs.YtnjmjopbeojfoaaDoor
