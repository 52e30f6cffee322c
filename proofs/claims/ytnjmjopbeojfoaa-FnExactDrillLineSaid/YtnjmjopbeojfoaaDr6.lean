/- Contracts: the line of a drill. -/
import Derived.Test.YtnjmjopbeojfoaaDr2
import Derived.Test.YtnjmjopbeojfoaaBs
import Derived.Test.YtnjmjopbeojfoaaAq
namespace Go.Proofs.Ytnjmjopbeojfoaa
open Go.RowKit Go.BigFrame
attribute [local go_sem] sub_cell sub_frozen drewN_setCell

/-- Byte i of a drill's line. -/
def lnc (L : List UInt8) (i : Nat) : UInt8 := if i % 4 = 3 then 32 else L.getD (i / 4 % L.length) 0
def lnL (L : List UInt8) (n : Nat) : List UInt8 := (List.range n).map (lnc L)
theorem lnL_len (L : List UInt8) (n : Nat) : (lnL L n).length = n := by simp [lnL]
theorem lnL_succ (L : List UInt8) (n : Nat) : lnL L (n + 1) = lnL L n ++ [lnc L n] := by simp [lnL, List.range_succ]
theorem lnL_take (L : List UInt8) {n k : Nat} (h : k ≤ n) : (lnL L n).take k = lnL L k := by
  simp only [lnL, ← List.map_take, List.take_range]
  rw [Nat.min_eq_left h]
theorem lnL_get (L : List UInt8) {n k : Nat} (h : k < n) (hh) : (lnL L n)[k]'hh = lnc L k := by simp [lnL]
theorem lnc_blank {L : List UInt8} {i : Nat} (h : i % 4 = 3) : lnc L i = 32 := if_pos h
theorem lnc_letter {L : List UInt8} {i : Nat} (h : i % 4 ≠ 3) : lnc L i = L.getD (i / 4 % L.length) 0 := if_neg h
theorem lnL_four (L : List UInt8) (k : Nat) : lnL L (4 * (k + 1)) = lnL L (4 * k) ++ (repL [L.getD (k % L.length) 0] 3 ++ [32]) := by
  have e : 4 * (k + 1) = 4 * k + 1 + 1 + 1 + 1 := by omega
  rw [e, lnL_succ, lnL_succ, lnL_succ, lnL_succ, lnc_letter (by omega), lnc_letter (by omega), lnc_letter (by omega), lnc_blank (by omega)]
  rw [show 4 * k / 4 = k by omega, show (4 * k + 1) / 4 = k by omega, show (4 * k + 1 + 1) / 4 = k by omega]
  simp [repL]
/-- The line without the one blank at its end. -/
def cutE (L : List UInt8) (n : Nat) : List UInt8 := if n % 4 = 0 then lnL L (n - 1) else lnL L n
def okL (L : List UInt8) : Prop := 0 < L.length ∧ L.length ≤ 8 ∧ ∀ i, i < L.length → L.getD i 0 ≠ 32
theorem okL_ne {L : List UInt8} (h : okL L) (i : Nat) (hi : i % 4 ≠ 3) : (lnc L i == 32) = false := by
  rw [lnc_letter hi]
  simpa using h.2.2 _ (Nat.mod_lt _ h.1)
theorem trimR_line {L : List UInt8} (h : okL L) {n : Nat} (hn : 0 < n) : trimR (lnL L n) = cutE L n := by
  unfold cutE
  obtain ⟨k, rfl⟩ : ∃ k, n = k + 1 := ⟨n - 1, by omega⟩
  by_cases h4 : (k + 1) % 4 = 0
  · rw [if_pos h4, lnL_succ, lnc_blank (by omega), trimR_blank]
    obtain ⟨q, rfl⟩ : ∃ q, k = q + 1 := ⟨k - 1, by omega⟩
    rw [lnL_succ, trimR_other (okL_ne h _ (by omega))]
    simp [lnL_succ]
  · rw [if_neg h4, lnL_succ, trimR_other (okL_ne h _ (by omega))]
theorem okDr_L {nm ls : ByteArray} {mi : Int} (h : okDr (nm, ls, mi) = true) : okL (bl ls) := by
  simp only [okDr, Bool.and_eq_true, decide_eq_true_eq] at h
  obtain ⟨-, -, h2, h3, -⟩ := h
  have hl := textB_len h2
  refine ⟨by rw [bl_len]; exact h3, by rw [bl_len]; omega, fun i hi he => ?_⟩
  simp only [textB, Bool.and_eq_true, List.all_eq_true] at h2
  have := h2.2 _ (List.getElem_mem hi)
  rw [List.getD_eq_getElem?_getD, List.getElem?_eq_getElem hi] at he
  simp only [Option.getD_some] at he
  rw [he] at this
  exact absurd this (by decide)
def dlC (nm ls : ByteArray) (mi len : Int) : Int := if okDr (nm, ls, mi) then (if betw len 1 80 then 0 else 2) else 1
def dlA (nm ls : ByteArray) (mi len : Int) : ByteArray := if dlC nm ls mi len = 0 then sb (cutE (bl ls) len.toNat) else ⟨#[]⟩
theorem dl_cases (nm ls : ByteArray) (mi len : Int) : (okDr (nm, ls, mi) = false ∧ dlC nm ls mi len = 1 ∧ dlA nm ls mi len = ⟨#[]⟩) ∨ (okDr (nm, ls, mi) = true ∧ betw len 1 80 = false ∧ dlC nm ls mi len = 2 ∧ dlA nm ls mi len = ⟨#[]⟩) ∨
    (okDr (nm, ls, mi) = true ∧ betw len 1 80 = true ∧ (∃ n : Nat, len = n ∧ 1 ≤ n ∧ n ≤ 80 ∧ dlA nm ls mi len = sb (cutE (bl ls) n)) ∧ dlC nm ls mi len = 0) := by
  cases g : okDr (nm, ls, mi)
  · exact .inl ⟨rfl, by simp [dlC, g], by simp [dlA, dlC, g]⟩
  · cases g2 : betw len 1 80
    · exact .inr (.inl ⟨rfl, rfl, by simp [dlC, g, g2], by simp [dlA, dlC, g, g2]⟩)
    · refine .inr (.inr ⟨rfl, rfl, ⟨len.toNat, ?_, ?_, ?_, by simp [dlA, dlC, g, g2]⟩, by simp [dlC, g, g2]⟩) <;>
      · simp only [betw, Bool.and_eq_true, decide_eq_true_eq] at g2
        omega
set_option maxRecDepth 20000 in
set_option maxHeartbeats 4000000 in
theorem c_sDrillLine (nm ls : ByteArray) (mi len : Int) (w : World) (hn : nm.size ≤ maxLen) (hs : ls.size ≤ maxLen) :
    Calls Try.prog 17 #[.agg #[.string nm, .string ls, .int .i64 mi], .int .i64 len] w fun e w' => e = .returned (.tuple #[.string (dlA nm ls mi len), .int .i64 (dlC nm ls mi len)]) ∧ Below w.heap.size w w' := by
  rcases dl_cases nm ls mi len with ⟨g1, g3, g4⟩ | ⟨g1, g2, g3, g4⟩ | ⟨g1, g2, ⟨n, rfl, hn1, hn2, g4⟩, g3⟩
  · rw [g3, g4]
    have G1 := Lib.hid g1
    clear g1 g3 g4
    go_enter Try.func17, Try.ntmps17
    go_wp2_with (go_at_call 44; refine (c_l21One nm ls mi _ G1.out _ hn hs).mono ?_; rintro r_ w1 ⟨rfl, hb1⟩; have hB1 := later hb1 (w := w) (by (repeat' (first | (with_reducible exact Below.refl _ _) | (with_reducible assumption) | (with_reducible refine below_drewN ?_ _) | (with_reducible refine Below.drew ?_) | (with_reducible refine Below.alloc ?_ ?_ _) | (with_reducible refine Below.setCell ?_ ?_ _) | go_size))); have hz1 := hB1.size; have hy1 := hb1.size; obtain ⟨hc1, hf1⟩ := bcell hb1; (try simp only [World.size_alloc, World.heap_drewN] at hc1 hf1 hy1); clear hb1)
    go_returns
    exact ⟨rfl, by (repeat' (first | (with_reducible exact Below.refl _ _) | (with_reducible assumption) | (with_reducible refine below_drewN ?_ _) | (with_reducible refine Below.drew ?_) | (with_reducible refine Below.alloc ?_ ?_ _) | (with_reducible refine Below.setCell ?_ ?_ _) | go_size))⟩
  · rw [g3, g4]
    have G1 := Lib.hid g1
    have G2 := Lib.hid g2
    clear g1 g2 g3 g4
    go_enter Try.func17, Try.ntmps17
    go_wp2_with (first | (go_at_call 44; refine (c_l21One nm ls mi _ G1.out _ hn hs).mono ?_; rintro r_ w1 ⟨rfl, hb1⟩; have hB1 := later hb1 (w := w) (by (repeat' (first | (with_reducible exact Below.refl _ _) | (with_reducible assumption) | (with_reducible refine below_drewN ?_ _) | (with_reducible refine Below.drew ?_) | (with_reducible refine Below.alloc ?_ ?_ _) | (with_reducible refine Below.setCell ?_ ?_ _) | go_size))); have hz1 := hB1.size; have hy1 := hb1.size; obtain ⟨hc1, hf1⟩ := bcell hb1; (try simp only [World.size_alloc, World.heap_drewN] at hc1 hf1 hy1); clear hb1) | (go_at_call 45; refine (c_l00In _ _ _ _ G2.out _).mono ?_; rintro e w' ⟨rfl, rfl⟩))
    go_returns
    exact ⟨rfl, by (repeat' (first | (with_reducible exact Below.refl _ _) | (with_reducible assumption) | (with_reducible refine below_drewN ?_ _) | (with_reducible refine Below.drew ?_) | (with_reducible refine Below.alloc ?_ ?_ _) | (with_reducible refine Below.setCell ?_ ?_ _) | go_size))⟩
  · rw [g3, g4]
    have G1 := Lib.hid g1
    have G2 := Lib.hid g2
    have hL := okDr_L g1
    obtain ⟨hL1, hL2, _⟩ := hL
    have HL := Lib.hid (okDr_L g1)
    rw [bl_len] at hL1 hL2
    clear g1 g2 g3 g4
    go_enter Try.func17, Try.ntmps17
    go_wp2_with (first | (go_at_call 44; refine (c_l21One nm ls mi _ G1.out _ hn hs).mono ?_; rintro r_ w1 ⟨rfl, hb1⟩; have hB1 := later hb1 (w := w) (by (repeat' (first | (with_reducible exact Below.refl _ _) | (with_reducible assumption) | (with_reducible refine below_drewN ?_ _) | (with_reducible refine Below.drew ?_) | (with_reducible refine Below.alloc ?_ ?_ _) | (with_reducible refine Below.setCell ?_ ?_ _) | go_size))); have hz1 := hB1.size; have hx1 : w1.cell? ⟨w.heap.size, 1, none⟩ = some (.string ls) := (hb1.cell (p := ⟨w.heap.size, 1, none⟩) (by simp)).trans (by simp [go_sem]); have hy1 := hb1.size; simp only [World.size_alloc] at hy1; clear hb1) | (go_at_call 45; refine (c_l00In _ _ _ _ G2.out _).mono ?_; rintro e w' ⟨rfl, rfl⟩))
    go_loopw [6, 7] (fun v i wr => ∃ k : Nat, k ≤ n ∧ i = .int .i64 k ∧ Below w1.heap.size w1 wr ∧ Hid (BRow wr w1.heap.size v (lnL (bl ls) k))) (fun _ i _ => n - (intOf i).toNat)
    case atStart => exact ⟨0, Nat.zero_le _, rfl, by (repeat' (first | (with_reducible exact Below.refl _ _) | (with_reducible assumption) | (with_reducible refine below_drewN ?_ _) | (with_reducible refine Below.drew ?_) | (with_reducible refine Below.alloc ?_ ?_ _) | (with_reducible refine Below.setCell ?_ ?_ _) | go_size)), BRow.made _⟩
    case round =>
      obtain ⟨k, hk, rfl, hB, hrow⟩ := hrel
      have hz := hB.size
      have hlt9 : w.heap.size < wr.heap.size := by omega
      have c1 := (hB.cell (p := ⟨w.heap.size, 1, none⟩) (by show w.heap.size < _; omega)).trans hx1
      by_cases hlt : k < n
      · have HLN : Hid ((lnL (bl ls) k).length + 1 ≤ 1099511627776) := by show _ ≤ _; rw [lnL_len]; omega
        obtain ⟨q, hq⟩ : ∃ q, k % 4 = q := ⟨_, rfl⟩
        have ht : (k : Int).tmod 4 = (q : Int) := by rw [Int.tmod_eq_emod_of_nonneg (by omega)]; omega
        have hsn := Lib.hid (lnL_succ (bl ls) k)
        by_cases h3 : q = 3
        · have ht2 : ((q : Int) == 3) = true := by rw [h3]; rfl
          have HC := Lib.hid (lnc_blank (L := bl ls) (hq.trans h3))
          clear hq h3
          go_wp2_with (at_builtin; refine app1 rfl (.tmp 23) (.tmp 24) _ rfl w1.heap.size 5 _ 1 Try.underlying62 info_uint8 rfl _ _ rfl _ _ _ rfl hrow.out rfl HLN.out (by omega) hz ?_; intro v' w2 hown2 hb2 hg2)
          go_roundw
          case rel => exact ⟨k + 1, by omega, by go_num, hB.trans hb2, by show BRow _ _ _ _; rw [hsn.out, HC.out]; exact BRow.snoc hown2⟩
          case measure => simp [intOf]; omega
        · have ht2 : ((q : Int) == 3) = false := by simp; omega
          obtain ⟨r, hr⟩ : ∃ r, k / 4 % ls.size = r := ⟨_, rfl⟩
          obtain ⟨P, hP⟩ : ∃ P : Int, ((k / 4 : Nat) : Int) = P := ⟨_, rfl⟩
          have ht3 : (k : Int).tdiv 4 = P := by rw [Int.tdiv_eq_ediv_of_nonneg (by omega)]; omega
          have ht4 : P.tmod (ls.size : Int) = (r : Int) := by rw [← hP, Int.tmod_eq_emod_of_nonneg (by omega), ← hr]; rfl
          have hrl : r < ls.size := by rw [← hr]; exact Nat.mod_lt _ hL1
          have hm0 : 0 ≤ P.tmod (ls.size : Int) := by omega
          have hm1 : P.tmod (ls.size : Int) < (ls.size : Int) := by omega
          have hm2 : (P.tmod (ls.size : Int)).toNat < ls.size := by omega
          have hm3 : (P.tmod (ls.size : Int)).toNat = r := by omega
          clear ht4
          have hp20 : P ≤ 20 := by omega
          have hp0 : 0 ≤ P := by omega
          have hrl : r < ls.size := by rw [← hr]; exact Nat.mod_lt _ hL1
          have hrI : (r : Int) < ls.size := by omega
          have hr0 : (0 : Int) ≤ (r : Int) := by omega
          have hsz0 : ((ls.size : Int) == 0) = false := beq_eq_false_iff_ne.2 (by omega)
          have hszI : (1 : Int) ≤ ls.size := by omega
          have hwP2 : IntKind.i64.wrap P = P := IntWalk.i64_in _ (by omega)
          have hsn1 : ¬ ((ls.size : Int) = 0) := by omega
          have hsn2 : ¬ (ls.size = 0) := by omega
          have HC : Hid (lnc (bl ls) k = ls[r]) := by
            show _ = _
            rw [lnc_letter (by omega), bl_len, hr, List.getD_eq_getElem?_getD, bl_get ls r hrl]
            rfl
          have HM := Lib.hid hm3
          clear hq h3 hP hr hm3
          go_wp2_with fail
          go_region_held3 (fun w' => w'.cell? ⟨w.heap.size, 1, none⟩ = some (.string ls)) (first | go_keep | exact (hb2.cell (p := ⟨w.heap.size, 1, none⟩) (by show w.heap.size < _; omega)).trans c1) ((refine stepApp (by rfl) (.tmp 26) (.tmp 36) _ (by rfl) w1.heap.size 5 _ 1 1 Try.underlying62 info_uint8 (by rfl) (by decide) _ _ (by rfl) (by simp [Value.oneCell']) _ _ _ (by rfl) (hrow.out.later (Below.drew (Below.refl _ _))) (by rfl) HLN.out (by decide) (by simp; omega) ?_; intro v' w2 hown2 hb2 hg2))
          go_wp2_with fail
          go_roundw
          case rel => exact ⟨k + 1, by omega, by go_num, hB.trans ((Below.drew (Below.refl _ _)).trans hb2), by show BRow _ _ _ _; rw [hsn.out, HC.out]; have h9 := HM.out; simp only [h9] at hown2; exact BRow.snoc hown2⟩
          case measure => simp [intOf]; omega
      · obtain rfl : k = n := by omega
        obtain ⟨q, rfl⟩ : ∃ q, k = q + 1 := ⟨k - 1, by omega⟩
        rcases hrow.out.form with ⟨_, h0⟩ | ⟨g, cap, rfl, hg1, hg2, hc⟩
        · have := congrArg List.length h0
          rw [lnL_len] at this
          simp at this
        have hcap := hrow.out.cap_le
        rw [lnL_len] at hcap
        have HC := Lib.hid hc
        have cq := hc q (by rw [lnL_len]; omega)
        rw [lnL_get _ (by omega)] at cq
        rw [lnL_len] at *
        by_cases h4 : (q + 1) % 4 = 0
        · rw [lnc_blank (by omega)] at cq
          have cq2 : wr.cell? ⟨g, q, none⟩ = some (.int .u8 32) := cq
          have HE : Hid (cutE (bl ls) (q + 1) = lnL (bl ls) q) := by show _ = _; rw [cutE, if_pos h4]; rfl
          have hconv := rowText wr g cap (lnL (bl ls) q) (fun j hj => by
            rw [lnL_len] at hj
            have := HC.out j (by rw [lnL_len]; omega)
            rw [lnL_get _ (by omega)] at this ⊢
            exact this)
          rw [lnL_len] at hconv
          clear hrow hc cq h4
          go_wp2_with fail
          go_returns
          exact ⟨by rw [HE.out]; rfl, hB1.trans (hB.mono hz1)⟩
        · have hnb := okL_ne HL.out q (by omega)
          have hne : (((lnc (bl ls) q).toNat : Int) == 32) = false := by rw [u8_lit32]; exact hnb
          have HE : Hid (cutE (bl ls) (q + 1) = lnL (bl ls) (q + 1)) := by show _ = _; rw [cutE, if_neg h4]
          have hconv := hrow.out.text
          clear hrow hc h4
          go_wp2_with fail
          go_returns
          exact ⟨by rw [HE.out]; rfl, hB1.trans (hB.mono hz1)⟩
theorem sb_app (a b : List UInt8) : sb a ++ sb b = sb (a ++ b) := by
  apply sb_ext
  simp [bl, sb]
set_option maxHeartbeats 4000000 in
theorem c_iDrillLine (nm ls : ByteArray) (mi len : Int) (w : World) (hn : nm.size ≤ maxLen) (hs : ls.size ≤ maxLen) :
    Calls Try.prog 19 #[.agg #[.string nm, .string ls, .int .i64 mi], .int .i64 len] w fun e w' => e = .returned (.tuple #[.string (dlA nm ls mi len), .int .i64 (dlC nm ls mi len)]) ∧ Below w.heap.size w w' := by
  rcases dl_cases nm ls mi len with ⟨g1, g3, g4⟩ | ⟨g1, g2, g3, g4⟩ | ⟨g1, g2, ⟨n, rfl, hn1, hn2, g4⟩, g3⟩
  · rw [g3, g4]
    have G1 := Lib.hid g1
    clear g1 g3 g4
    go_enter Try.func19, Try.ntmps19
    go_wp2_with (go_at_call 46; refine (c_validDrill nm ls mi _ G1.out _ hn hs).mono ?_; rintro r_ w1 ⟨rfl, hb1⟩; have hB1 := later hb1 (w := w) (by (repeat' (first | (with_reducible exact Below.refl _ _) | (with_reducible assumption) | (with_reducible refine below_drewN ?_ _) | (with_reducible refine Below.drew ?_) | (with_reducible refine Below.alloc ?_ ?_ _) | (with_reducible refine Below.setCell ?_ ?_ _) | go_size))); have hz1 := hB1.size; have hy1 := hb1.size; obtain ⟨hc1, hf1⟩ := bcell hb1; (try simp only [World.size_alloc, World.heap_drewN] at hc1 hf1 hy1); clear hb1)
    go_returns
    exact ⟨rfl, by (repeat' (first | (with_reducible exact Below.refl _ _) | (with_reducible assumption) | (with_reducible refine below_drewN ?_ _) | (with_reducible refine Below.drew ?_) | (with_reducible refine Below.alloc ?_ ?_ _) | (with_reducible refine Below.setCell ?_ ?_ _) | go_size))⟩
  · rw [g3, g4]
    have G1 := Lib.hid g1
    have G2 := Lib.hid g2
    clear g1 g2 g3 g4
    go_enter Try.func19, Try.ntmps19
    go_wp2_with (first | (go_at_call 46; refine (c_validDrill nm ls mi _ G1.out _ hn hs).mono ?_; rintro r_ w1 ⟨rfl, hb1⟩; have hB1 := later hb1 (w := w) (by (repeat' (first | (with_reducible exact Below.refl _ _) | (with_reducible assumption) | (with_reducible refine below_drewN ?_ _) | (with_reducible refine Below.drew ?_) | (with_reducible refine Below.alloc ?_ ?_ _) | (with_reducible refine Below.setCell ?_ ?_ _) | go_size))); have hz1 := hB1.size; have hy1 := hb1.size; obtain ⟨hc1, hf1⟩ := bcell hb1; (try simp only [World.size_alloc, World.heap_drewN] at hc1 hf1 hy1); clear hb1) | (go_at_call 42; refine (c_between _ _ _ _ G2.out _).mono ?_; rintro e w' ⟨rfl, rfl⟩))
    go_returns
    exact ⟨rfl, by (repeat' (first | (with_reducible exact Below.refl _ _) | (with_reducible assumption) | (with_reducible refine below_drewN ?_ _) | (with_reducible refine Below.drew ?_) | (with_reducible refine Below.alloc ?_ ?_ _) | (with_reducible refine Below.setCell ?_ ?_ _) | go_size))⟩
  · rw [g3, g4]
    have G1 := Lib.hid g1
    have G2 := Lib.hid g2
    have hL := okDr_L g1
    obtain ⟨hL1, hL2, _⟩ := hL
    have HL := Lib.hid (okDr_L g1)
    rw [bl_len] at hL1 hL2
    clear g1 g2 g3 g4
    have HT : Hid (∀ W : World, Calls Try.prog 48 #[.string (sb (lnL (bl ls) n))] W fun e w' => e = .returned (.string (sb (cutE (bl ls) n))) ∧ W = w') := fun W => by
      have h1 := c_trimRight (sb (lnL (bl ls) n)) W (by rw [sb_size, lnL_len]; unfold maxLen; omega)
      rw [bl_sb, trimR_line HL.out (by omega)] at h1
      exact h1
    go_enter Try.func19, Try.ntmps19
    go_wp2_with (first | (go_at_call 46; refine (c_validDrill nm ls mi _ G1.out _ hn hs).mono ?_; rintro r_ w1 ⟨rfl, hb1⟩; have hB1 := later hb1 (w := w) (by (repeat' (first | (with_reducible exact Below.refl _ _) | (with_reducible assumption) | (with_reducible refine below_drewN ?_ _) | (with_reducible refine Below.drew ?_) | (with_reducible refine Below.alloc ?_ ?_ _) | (with_reducible refine Below.setCell ?_ ?_ _) | go_size))); have hz1 := hB1.size; have hx1 : w1.cell? ⟨w.heap.size, 1, none⟩ = some (.string ls) := (hb1.cell (p := ⟨w.heap.size, 1, none⟩) (by simp)).trans (by simp [go_sem]); have hy1 := hb1.size; simp only [World.size_alloc] at hy1; clear hb1) | (go_at_call 42; refine (c_between _ _ _ _ G2.out _).mono ?_; rintro e w' ⟨rfl, rfl⟩))
    go_loopw [6, 7, 8] (fun v i _ wr => ∃ k : Nat, 4 * k ≤ n + 3 ∧ i = .int .i64 k ∧ Below w1.heap.size w1 wr ∧ v = .string (sb (lnL (bl ls) (4 * k)))) (fun _ i _ _ => n + 4 - 4 * (intOf i).toNat)
    case atStart => exact ⟨0, by omega, rfl, by (repeat' (first | (with_reducible exact Below.refl _ _) | (with_reducible assumption) | (with_reducible refine below_drewN ?_ _) | (with_reducible refine Below.drew ?_) | (with_reducible refine Below.alloc ?_ ?_ _) | (with_reducible refine Below.setCell ?_ ?_ _) | go_size)), rfl⟩
    case round =>
      obtain ⟨k, hk, rfl, hB, rfl⟩ := hrel
      have hz := hB.size
      have hlt9 : w.heap.size < wr.heap.size := by omega
      have c1 := (hB.cell (p := ⟨w.heap.size, 1, none⟩) (by show w.heap.size < _; omega)).trans hx1
      obtain ⟨X, hX⟩ : ∃ X, sb (lnL (bl ls) (4 * k)) = X := ⟨_, rfl⟩
      have hXs : X.size = 4 * k := by rw [← hX, sb_size, lnL_len]
      have HX := Lib.hid hX
      rw [hX]
      clear hX
      by_cases hlt : 4 * k < n
      · have hltI : (X.size : Int) < n := by omega
        obtain ⟨r, hr⟩ : ∃ r, k % ls.size = r := ⟨_, rfl⟩
        have ht4 : (k : Int).tmod (ls.size : Int) = (r : Int) := by rw [Int.tmod_eq_emod_of_nonneg (by omega), ← hr]; rfl
        have hrl : r < ls.size := by rw [← hr]; exact Nat.mod_lt _ hL1
        have hrI : (r : Int) < ls.size := by omega
        have hr1 : (r : Int) + 1 ≤ ls.size := by omega
        have hr0 : (0 : Int) ≤ (r : Int) := by omega
        have hsz0 : ((ls.size : Int) == 0) = false := beq_eq_false_iff_ne.2 (by omega)
        have hszI : (1 : Int) ≤ ls.size := by omega
        have HE : Hid (X ++ (sb (repL [ls[r]] 3) ++ ⟨#[32]⟩) = sb (lnL (bl ls) (4 * (k + 1)))) := by
          show _ = _
          rw [← HX.out, lnL_four, bl_len, hr, List.getD_eq_getElem?_getD, bl_get ls r hrl, ← sb_app, ← sb_app]
          rfl
        have hsl : ls.extract r (r + 1) = sb [ls[r]] := by
          apply sb_ext
          rw [bl_sb]
          simp only [bl, ByteArray.data_extract, Array.toList_extract]
          rw [List.extract_eq_take_drop, show r + 1 - r = 1 by omega, List.drop_eq_getElem_cons (by simpa using hrl)]
          rfl
        clear hr
        have hsx : (sb (repL [ls[r]] 3) ++ (⟨#[32]⟩ : ByteArray)).size = 4 := rfl
        have hsy : (sb (repL [ls[r]] 3)).size = 3 := rfl
        have HR : Hid (∀ W : World, Calls Try.prog 47 #[.string (sb [ls[r]]), .int .i64 3] W fun e w' => e = .returned (.string (sb (repL [ls[r]] 3))) ∧ Below W.heap.size W w') := fun W => by
          have h1 := c_repeat (sb [ls[r]]) 3 W (by rw [sb_size]; simp) (by omega)
          rw [bl_sb] at h1
          exact h1
        go_wp2_with (go_at_call 47; refine (HR.out _).mono ?_; rintro r_ w2 ⟨rfl, hb2⟩)
        go_roundw
        case rel => exact ⟨k + 1, by omega, by go_num, hB.trans (hb2.mono hz), by rw [HE.out]⟩
        case measure => simp [intOf]; omega
      · have hsl : X.extract 0 n = sb (lnL (bl ls) n) := by
          rw [sb_take, ← HX.out, bl_sb, lnL_take _ (by omega)]
        go_wp2_with (go_at_call 48; refine (HT.out _).mono ?_; rintro r_ w' ⟨rfl, rfl⟩)
        go_returns
        exact ⟨rfl, hB1.trans (hB.mono hz1)⟩
end Go.Proofs.Ytnjmjopbeojfoaa
