/- Contracts: slices of tests (mirrors, comparison, validity). -/
import Derived.Test.YtjigkogopmebeaaMem
import Derived.Test.YtjigkogopmebeaaSp2
namespace Go.Proofs.Ytjigkogopmebeaa
open Go.RowKit Go.BigFrame
attribute [local go_sem] sub_cell sub_frozen drewN_setCell

theorem only_set3 {a w : World} {g : Nat} (h : a.grownBy w (some g)) (o : Nat) (u : Value) : a.grownBy (w.setCell ⟨g, o, none⟩ u) (some g) :=
  ⟨h.os, h.tape, h.output, by simpa [World.setCell] using h.size, fun i hi hne => (Below.heap_setCell w ⟨g, o, none⟩ u i (by rintro rfl; exact hne rfl)).trans (h.block i hi hne)⟩

/-- The cells of a test. -/
def trc (x : Int × Int × Int) : List Value := [.int .i64 x.1, .int .i64 x.2.1, .int .i64 x.2.2]
theorem trc_len (x : Int × Int × Int) : (trc x).length = 3 := rfl

/-- In a later world wr: the three cells of test k of a slice. -/
theorem tr_at {w wr : World} {A : Option Addr} {n k : Nat} {l : List (Int × Int × Int)} (h : Sl trc w w.heap.size 3 A n l) (hb : Below w.heap.size w wr) (hk : k < n) :
    ∃ b o s e t, A = some ⟨b, o, none⟩ ∧ b < wr.heap.size ∧ b < w.heap.size ∧ l[k]? = some (s, e, t) ∧ wr.cell? ⟨b, o + k * 3, none⟩ = some (.int .i64 s) ∧ wr.cell? ⟨b, o + k * 3 + 1, none⟩ = some (.int .i64 e) ∧ wr.cell? ⟨b, o + k * 3 + 2, none⟩ = some (.int .i64 t) := by
  obtain ⟨b, o, ⟨s, e, t⟩, hA, hlt, hx, hc⟩ := h.at_ hk
  have := hb.size
  refine ⟨b, o, s, e, t, hA, by omega, hlt, hx, ?_, ?_, ?_⟩
  · exact (hb.cell (p := ⟨b, o + k * 3, none⟩) hlt).trans (hc 0 _ rfl)
  · exact (hb.cell (p := ⟨b, o + k * 3 + 1, none⟩) hlt).trans (hc 1 _ rfl)
  · exact (hb.cell (p := ⟨b, o + k * 3 + 2, none⟩) hlt).trans (hc 2 _ rfl)

set_option maxHeartbeats 400000 in
theorem c_toTrial (s e t : Int) (w : World) :
    Calls Try.prog 12 #[.agg #[.int .i64 s, .int .i64 e, .int .i64 t]] w fun r w' => r = .returned (.agg #[.int .i64 s, .int .i64 e, .int .i64 t]) ∧ w' = ((w.alloc (.cells #[.int .i64 s, .int .i64 e, .int .i64 t] 38)).alloc (.cells #[.int .i64 s, .int .i64 e, .int .i64 t] 35)).alloc (.cells #[.int .i64 s, .int .i64 e, .int .i64 t] 35) := by
  go_enter Try.func12, Try.ntmps12
  go_wp2_with fail
  go_returns
  exact ⟨rfl, rfl⟩

set_option maxHeartbeats 400000 in
theorem c_szTrialS (A : Option Addr) (n c : Nat) (left r : Int) (hn : n ≤ 9223372036854775807) (hl : 0 ≤ left) (hl2 : left ≤ 1048576) (h : (if left - n < 0 then -1 else left - n) = r) (w : World) :
    Calls Try.prog 4 #[.slice A n c, .int .i64 left] w fun e w' => e = .returned (.int .i64 r) ∧ w = w' := by
  subst h
  by_cases h : left - n < 0
  · rw [if_pos h]
    go_enter Try.func4, Try.ntmps4
    go_wp2_with fail
    go_ret
    exact ⟨rfl, rfl⟩
  · rw [if_neg h]
    go_enter Try.func4, Try.ntmps4
    go_wp2_with fail
    go_ret
    exact ⟨rfl, rfl⟩

set_option maxHeartbeats 400000 in
theorem c_eqTrial (s e t : Int) (w : World) :
    Calls Try.prog 17 #[.agg #[.int .i64 s, .int .i64 e, .int .i64 t], .agg #[.int .i64 s, .int .i64 e, .int .i64 t]] w fun r w' => r = .returned (.bool true) ∧ Below w.heap.size w w' := by
  go_enter Try.func17, Try.ntmps17
  go_wp2_with fail
  go_returns
  exact ⟨rfl, by (repeat' (first | (with_reducible exact Below.refl _ _) | (with_reducible assumption) | (with_reducible refine below_drewN ?_ _) | (with_reducible refine Below.drew ?_) | (with_reducible refine Below.alloc ?_ ?_ _) | (with_reducible refine Below.setCell ?_ ?_ _) | go_size))⟩

set_option maxHeartbeats 1000000 in
theorem c_eqTrialS (A B : Option Addr) (n c d : Nat) (l : List (Int × Int × Int)) (w : World) (ha : Sl trc w w.heap.size 3 A n l) (hb : Sl trc w w.heap.size 3 B n l) (hn : n ≤ 4611686018427387904) :
    Calls Try.prog 8 #[.slice A n c, .slice B n d] w fun r w' => r = .returned (.bool true) ∧ Below w.heap.size w w' := by
  go_enter Try.func8, Try.ntmps8
  go_wp2_with fail
  go_loopw [5] (fun i wr => ∃ k : Nat, k ≤ n ∧ i = .int .i64 k ∧ Below w.heap.size w wr) (fun i _ => n - (intOf i).toNat)
  case atStart => exact ⟨0, Nat.zero_le _, rfl, Below.refl _ _⟩
  case round =>
    obtain ⟨k, hk, rfl, hB⟩ := hrel
    by_cases hlt : k < n
    · obtain ⟨b, o, s, e, t, rfl, hb1, hb2, hx, c0, c1, c2⟩ := tr_at ha hB hlt
      obtain ⟨b', o', s', e', t', rfl, hb1', hb2', hx', c0', c1', c2'⟩ := tr_at hb hB hlt
      rw [hx] at hx'
      simp only [Option.some.injEq, Prod.mk.injEq] at hx'
      obtain ⟨rfl, rfl, rfl⟩ := hx'
      have hz := hB.size
      clear ha hb hx
      go_wp2_with fail
      refine wp_region_below (by kernel_rfl) (by kernel_rfl) ?_
      repeat (go_big_quiet_step ((go_at_call 17; refine qBg (c_eqTrial _ _ _ _) (by simp) ?_; intro w_ h_; first | exact h_ | exact h_.below | (subst h_; exact Below.refl _ _) | (subst h_; (repeat' (first | (with_reducible exact Below.refl _ _) | (with_reducible assumption) | (with_reducible refine below_drewN ?_ _) | (with_reducible refine Below.drew ?_) | (with_reducible refine Below.alloc ?_ ?_ _) | (with_reducible refine Below.setCell ?_ ?_ _) | go_size))) | (obtain ⟨n_, rfl⟩ := h_; (repeat' (first | (with_reducible exact Below.refl _ _) | (with_reducible assumption) | (with_reducible refine below_drewN ?_ _) | (with_reducible refine Below.drew ?_) | (with_reducible refine Below.alloc ?_ ?_ _) | (with_reducible refine Below.setCell ?_ ?_ _) | go_size))))))
      refine wpQuiet_nil ?_
      intro _ hw'
      obtain ⟨⟨w9, hb9⟩, hw''⟩ := hw'
      subst hw''
      have hB1 := hB.trans (hb9.mono hz)
      go_wp2_with fail
      go_roundw
      case rel => exact ⟨k + 1, by omega, by go_num, hB1⟩
      case measure => simp [intOf]; omega
    · go_wp2_with fail
      go_ret
      exact ⟨rfl, hB⟩

theorem info_Trial : (Try.prog.info? 35).map (fun i => (i.zero, i.size, i.bytes)) = some (some (.agg #[.int .i64 0, .int .i64 0, .int .i64 0]), 3, 24) := by kernel_rfl

/-- Row g is filled up to element k. -/
theorem fill_step {w : World} {g : Nat} {e : TypeId} {m k : Nat} {z : Nat → Value} {l : List (Int × Int × Int)} {s r t : Int} (hx : l[k]? = some (s, r, t))
    (h : w.rowIs g e m (fun i => if i < k * 3 then (flat trc l)[i]?.getD undef else z i)) :
    (((w.setCell ⟨g, k * 3, none⟩ (.int .i64 s)).setCell ⟨g, k * 3 + 1, none⟩ (.int .i64 r)).setCell ⟨g, k * 3 + 2, none⟩ (.int .i64 t)).rowIs g e m (fun i => if i < (k + 1) * 3 then (flat trc l)[i]?.getD undef else z i) := by
  have e0 := flat_get (f := trc) trc_len (j := 0) hx rfl
  have e1 := flat_get (f := trc) trc_len (j := 1) hx rfl
  have e2 := flat_get (f := trc) trc_len (j := 2) hx rfl
  refine (((h.set _ _).set _ _).set _ _).congr fun i _ => ?_
  by_cases h2 : i = k * 3 + 2
  · subst h2; rw [if_pos rfl, if_pos (by omega), e2]; rfl
  rw [if_neg h2]
  by_cases h1 : i = k * 3 + 1
  · subst h1; rw [if_pos rfl, if_pos (by omega), e1]; rfl
  rw [if_neg h1]
  by_cases h0 : i = k * 3
  · subst h0; rw [if_pos rfl, if_pos (by omega), show (flat trc l)[k * 3]? = _ from e0]; rfl
  rw [if_neg h0]
  by_cases hk : i < k * 3
  · rw [if_pos hk, if_pos (by omega)]
  · rw [if_neg hk, if_neg (by omega)]

set_option maxHeartbeats 1000000 in
theorem c_toTrialS (A : Option Addr) (n c : Nat) (l : List (Int × Int × Int)) (w : World) (ha : Sl trc w w.heap.size 3 A n l) (hn : n ≤ 1048576) :
    Calls Try.prog 6 #[.slice A n c] w fun r w' => r = .returned (.slice (some ⟨w.heap.size, 0, none⟩) n n) ∧ OwnSl trc w' w.heap.size 35 3 l ∧ Below w.heap.size w w' := by
  have hl := ha.1
  have hmk := run_make_any (P := Try.prog) 26 35 _ 3 24 Try.underlying26 info_Trial .i64 .i64 n (by omega) (by omega)
  have HL := Lib.hid hl
  clear hl
  go_enter Try.func6, Try.ntmps6
  go_wp2_with fail
  go_loopw [4] (fun i wr => ∃ k : Nat, k ≤ n ∧ i = .int .i64 k ∧ Below w.heap.size w wr ∧ wr.rowIs w.heap.size 35 (n * 3) (fun i => if i < k * 3 then (flat trc l)[i]?.getD undef else (Value.cells (.agg #[.int .i64 0, .int .i64 0, .int .i64 0]))[i % (Value.cells (.agg #[.int .i64 0, .int .i64 0, .int .i64 0])).size]!)) (fun i _ => n - (intOf i).toNat)
  case atStart => exact ⟨0, Nat.zero_le _, rfl, by (repeat' (first | (with_reducible exact Below.refl _ _) | (with_reducible assumption) | (with_reducible refine below_drewN ?_ _) | (with_reducible refine Below.drew ?_) | (with_reducible refine Below.alloc ?_ ?_ _) | (with_reducible refine Below.setCell ?_ ?_ _) | go_size)), (rowIs_made _ _ _).congr fun i _ => (if_neg (by omega)).symm⟩
  case round =>
    obtain ⟨k, hk, rfl, hB, hrow⟩ := hrel
    by_cases hlt : k < n
    · obtain ⟨b, o, s, e, t, rfl, hb1, hb2, hx, c0, c1, c2⟩ := tr_at ha hB hlt
      have hz := hB.size
      have hg := hrow.lt
      have hg1 : w.heap.size < wr.heap.size + 1 := by omega
      have hg2 : w.heap.size < wr.heap.size + 1 + 1 := by omega
      obtain ⟨v0, r0⟩ : ∃ v, wr.cell? ⟨w.heap.size, k * 3, none⟩ = some v := ⟨_, hrow.cell (by omega)⟩
      obtain ⟨v1, r1⟩ : ∃ v, wr.cell? ⟨w.heap.size, k * 3 + 1, none⟩ = some v := ⟨_, hrow.cell (by omega)⟩
      obtain ⟨v2, r2⟩ : ∃ v, wr.cell? ⟨w.heap.size, k * 3 + 2, none⟩ = some v := ⟨_, hrow.cell (by omega)⟩
      have f0 := hrow.frozen (k * 3)
      have f1 := hrow.frozen (k * 3 + 1)
      have f2 := hrow.frozen (k * 3 + 2)
      have HX := Lib.hid hx
      have HR := Lib.hid hrow
      clear ha hx hrow hmk
      go_wp2_with (go_at_call 12; refine (c_toTrial _ _ _ _).mono ?_; rintro r_ w' ⟨rfl, rfl⟩)
      go_roundw
      case rel => exact ⟨k + 1, by omega, by go_num, by (repeat' (first | (with_reducible exact Below.refl _ _) | (with_reducible assumption) | (with_reducible refine below_drewN ?_ _) | (with_reducible refine Below.drew ?_) | (with_reducible refine Below.alloc ?_ ?_ _) | (with_reducible refine Below.setCell ?_ ?_ _) | go_size)), (((fill_step HX.out HR.out).alloc _).alloc _).alloc _⟩
      case measure => simp [intOf]; omega
    · go_wp2_with fail
      go_ret
      refine ⟨rfl, ⟨trc_len, ?_⟩, hB⟩
      rw [HL.out]
      exact hrow.congr fun i hi => by rw [if_pos (by omega)]

/-- Two lists of tests are the same. -/
def sameT (l m : List (Int × Int × Int)) : Bool := decide (l = m)
theorem take_same {α : Type} {l m : List α} {k : Nat} {x : α} (hx : l[k]? = some x) (hy : m[k]? = some x) (h : l.take k = m.take k) : l.take (k + 1) = m.take (k + 1) := by
  rw [List.take_add_one, List.take_add_one, hx, hy, h]

theorem diff_same {l m : List (Int × Int × Int)} {k : Nat} {x y : Int × Int × Int} (hx : l[k]? = some x) (hy : m[k]? = some y) (h : x ≠ y) : sameT l m = false := by
  simp only [sameT, decide_eq_false_iff_not]
  intro e
  subst e
  rw [hx] at hy
  exact h (Option.some.inj hy)
theorem all_same {l m : List (Int × Int × Int)} {n : Nat} (h1 : l.length = n) (h2 : m.length = n) (h : l.take n = m.take n) : sameT l m = true := by
  rw [List.take_of_length_le (by omega), List.take_of_length_le (by omega)] at h
  simpa [sameT] using h




/-- All tests of a list are valid, and there are at most 40. -/
def okT (l : List (Int × Int × Int)) : Bool := l.all (fun x => vtr x.1 x.2.1 x.2.2) && decide (l.length ≤ 40)
theorem all_step {l : List (Int × Int × Int)} {k : Nat} {x : Int × Int × Int} (hx : l[k]? = some x) (h : (l.take k).all (fun x => vtr x.1 x.2.1 x.2.2) = true) (hv : vtr x.1 x.2.1 x.2.2 = true) :
    (l.take (k + 1)).all (fun x => vtr x.1 x.2.1 x.2.2) = true := by
  rw [List.take_add_one, hx, List.all_append, h]
  simpa using hv
theorem okT_bad {l : List (Int × Int × Int)} {k : Nat} {x : Int × Int × Int} (hx : l[k]? = some x) (hv : vtr x.1 x.2.1 x.2.2 = false) : okT l = false := by
  simp only [okT, Bool.and_eq_false_iff]
  left
  rw [List.all_eq_false]
  exact ⟨x, List.mem_of_getElem? hx, by simp [hv]⟩
theorem okT_end {l : List (Int × Int × Int)} {n : Nat} (hl : l.length = n) (h : (l.take n).all (fun x => vtr x.1 x.2.1 x.2.2) = true) : okT l = decide ((n : Int) ≤ 40) := by
  rw [List.take_of_length_le (by omega)] at h
  simp only [okT, h, Bool.true_and, hl]
  simp; omega

set_option maxHeartbeats 1000000 in
theorem c_l20Ok (A : Option Addr) (n c : Nat) (l : List (Int × Int × Int)) (r : Bool) (h : okT l = r) (w : World) (ha : Sl trc w w.heap.size 3 A n l) (hn : n ≤ 1048576) :
    Calls Try.prog 27 #[.slice A n c] w fun e w' => e = .returned (.bool r) ∧ Below w.heap.size w w' := by
  subst h
  have HL := Lib.hid ha.1
  go_enter Try.func27, Try.ntmps27
  go_wp2_with fail
  go_loopw [3] (fun i wr => ∃ k : Nat, k ≤ n ∧ i = .int .i64 k ∧ Below w.heap.size w wr ∧ Hid ((l.take k).all (fun x => vtr x.1 x.2.1 x.2.2) = true)) (fun i _ => n - (intOf i).toNat)
  case atStart => exact ⟨0, Nat.zero_le _, rfl, Below.refl _ _, rfl⟩
  case round =>
    obtain ⟨k, hk, rfl, hB, hall⟩ := hrel
    by_cases hlt : k < n
    · obtain ⟨b, o, s, e, t, rfl, hb1, hb2, hx, c0, c1, c2⟩ := tr_at ha hB hlt
      have HX := Lib.hid hx
      clear ha hx
      cases hv : vtr s e t
      · go_wp2_with (go_at_call 43; refine (c_l20One s e t _ _ _ (by assumption) _ (by go_cell) (by go_cell) (by go_cell)).mono ?_; rintro r_ w' ⟨rfl, n, rfl⟩)
        go_ret
        exact ⟨by rw [okT_bad HX.out hv]; rfl, by (repeat' (first | (with_reducible exact Below.refl _ _) | (with_reducible assumption) | (with_reducible refine below_drewN ?_ _) | (with_reducible refine Below.drew ?_) | (with_reducible refine Below.alloc ?_ ?_ _) | (with_reducible refine Below.setCell ?_ ?_ _) | go_size))⟩
      · go_wp2_with (go_at_call 43; refine (c_l20One s e t _ _ _ (by assumption) _ (by go_cell) (by go_cell) (by go_cell)).mono ?_; rintro r_ w' ⟨rfl, n, rfl⟩)
        go_roundw
        case rel => exact ⟨k + 1, by omega, by go_num, by (repeat' (first | (with_reducible exact Below.refl _ _) | (with_reducible assumption) | (with_reducible refine below_drewN ?_ _) | (with_reducible refine Below.drew ?_) | (with_reducible refine Below.alloc ?_ ?_ _) | (with_reducible refine Below.setCell ?_ ?_ _) | go_size)), all_step HX.out hall.out hv⟩
        case measure => simp [intOf]; omega
    · go_wp2_with fail
      go_ret
      obtain rfl : k = n := by omega
      exact ⟨by rw [okT_end HL.out hall.out]; rfl, hB⟩


set_option maxHeartbeats 1000000 in
theorem c_iValidTrials (A : Option Addr) (n c : Nat) (l : List (Int × Int × Int)) (r : Bool) (h : okT l = r) (w : World) (ha : Sl trc w w.heap.size 3 A n l) (hn : n ≤ 1048576) :
    Calls Try.prog 20 #[.slice A n c] w fun e w' => e = .returned (.bool r) ∧ Below w.heap.size w w' := by
  subst h
  have HL := Lib.hid ha.1
  go_enter Try.func20, Try.ntmps20
  go_wp2_with fail
  go_loopw [7] (fun i wr => ∃ k : Nat, k ≤ n ∧ i = .int .i64 k ∧ Below w.heap.size w wr ∧ Hid ((l.take k).all (fun x => vtr x.1 x.2.1 x.2.2) = true)) (fun i _ => n - (intOf i).toNat)
  case atStart => exact ⟨0, Nat.zero_le _, rfl, Below.refl _ _, rfl⟩
  case round =>
    obtain ⟨k, hk, rfl, hB, hall⟩ := hrel
    have hz := hB.size
    by_cases hlt : k < n
    · obtain ⟨b, o, s, e, t, rfl, hb1, hb2, hx, c0, c1, c2⟩ := tr_at ha hB hlt
      have HX := Lib.hid hx
      clear ha hx
      cases hv : vtr s e t
      · go_wp2_with (go_at_call 30; refine (c_validTrial _ _ _ _ (by assumption) _).mono ?_; rintro r_ w' ⟨rfl, rfl⟩)
        go_ret
        exact ⟨by rw [okT_bad HX.out hv]; rfl, by (repeat' (first | (with_reducible exact Below.refl _ _) | (with_reducible assumption) | (with_reducible refine below_drewN ?_ _) | (with_reducible refine Below.drew ?_) | (with_reducible refine Below.alloc ?_ ?_ _) | (with_reducible refine Below.setCell ?_ ?_ _) | go_size))⟩
      · go_wp2_with (go_at_call 30; refine (c_validTrial _ _ _ _ (by assumption) _).mono ?_; rintro r_ w' ⟨rfl, rfl⟩)
        go_roundw
        case rel => exact ⟨k + 1, by omega, by go_num, by (repeat' (first | (with_reducible exact Below.refl _ _) | (with_reducible assumption) | (with_reducible refine below_drewN ?_ _) | (with_reducible refine Below.drew ?_) | (with_reducible refine Below.alloc ?_ ?_ _) | (with_reducible refine Below.setCell ?_ ?_ _) | go_size)), all_step HX.out hall.out hv⟩
        case measure => simp [intOf]; omega
    · go_wp2_with fail
      go_ret
      obtain rfl : k = n := by omega
      exact ⟨by rw [okT_end HL.out hall.out]; rfl, hB⟩

end Go.Proofs.Ytjigkogopmebeaa
