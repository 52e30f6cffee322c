/- Slices of Result: mirrors, comparison, marks. -/
import Derived.Test.YtkpnkilpaokkcaaMem
import Derived.Test.YtkpnkilpaokkcaaOpen
import Derived.Test.YtkpnkilpaokkcaaTw
namespace Go.Proofs.Ytkpnkilpaokkcaa
open Go.RowKit Go.BigFrame
attribute [local go_sem] sub_cell sub_frozen drewN_setCell

abbrev TResult := ByteArray × Int × Int
/-- The cells of a Result. -/
def resultC (x : TResult) : List Value := [.string x.1, .int .i64 x.2.1, .int .i64 x.2.2]
theorem resultC_len (x : TResult) : (resultC x).length = 3 := rfl
def resultW (x : TResult) : Nat := x.1.size

/-- In a later world wr: the cells of element k. -/
theorem result_at {w wr : World} {A : Option Addr} {n k : Nat} {l : List TResult} (h : Sl resultC w w.heap.size 3 A n l) (hb : Below w.heap.size w wr) (hk : k < n) :
    ∃ b o u0 u1 u2, A = some ⟨b, o, none⟩ ∧ b < wr.heap.size ∧ b < w.heap.size ∧ l[k]? = some (u0, u1, u2) ∧ wr.cell? ⟨b, o + k * 3, none⟩ = some (.string u0) ∧ wr.cell? ⟨b, o + k * 3 + 1, none⟩ = some (.int .i64 u1) ∧ wr.cell? ⟨b, o + k * 3 + 2, none⟩ = some (.int .i64 u2) := by
  obtain ⟨b, o, ⟨u0, u1, u2⟩, hA, hlt, hx, hc⟩ := h.at_ hk
  have := hb.size
  refine ⟨b, o, u0, u1, u2, hA, by omega, hlt, hx, ?_, ?_, ?_⟩
  · exact (hb.cell (p := ⟨b, o + k * 3, none⟩) hlt).trans (hc 0 _ rfl)
  · exact (hb.cell (p := ⟨b, o + k * 3 + 1, none⟩) hlt).trans (hc 1 _ rfl)
  · exact (hb.cell (p := ⟨b, o + k * 3 + 2, none⟩) hlt).trans (hc 2 _ rfl)

/-- .. where the slice's place is known. -/
theorem result_atB {w wr : World} {b o n k : Nat} {l : List TResult} (h : Sl resultC w w.heap.size 3 (some ⟨b, o, none⟩) n l) (hb : Below w.heap.size w wr) (hk : k < n) :
    ∃ u0 u1 u2, b < wr.heap.size ∧ b < w.heap.size ∧ l[k]? = some (u0, u1, u2) ∧ wr.cell? ⟨b, o + k * 3, none⟩ = some (.string u0) ∧ wr.cell? ⟨b, o + k * 3 + 1, none⟩ = some (.int .i64 u1) ∧ wr.cell? ⟨b, o + k * 3 + 2, none⟩ = some (.int .i64 u2) := by
  obtain ⟨b', o', u0, u1, u2, hA, r⟩ := result_at h hb hk
  simp only [Option.some.injEq, Addr.mk.injEq, and_true] at hA
  obtain ⟨rfl, rfl⟩ := hA
  exact ⟨u0, u1, u2, r⟩

set_option maxHeartbeats 400000 in
theorem c_toResult (u0 : ByteArray) (u1 : Int) (u2 : Int) (w : World) :
    Calls Try.prog 23 #[.agg #[.string u0, .int .i64 u1, .int .i64 u2]] w fun r w' => r = .returned (.agg #[.string u0, .int .i64 u1, .int .i64 u2]) ∧ w' = ((w.alloc (.cells #[.string u0, .int .i64 u1, .int .i64 u2] 48)).alloc (.cells #[.string u0, .int .i64 u1, .int .i64 u2] 38)).alloc (.cells #[.string u0, .int .i64 u1, .int .i64 u2] 38) := by
  go_enter Try.func23, Try.ntmps23
  go_wp2_with fail
  go_returns
  exact ⟨rfl, rfl⟩

set_option maxHeartbeats 400000 in
theorem c_szResult (u0 : ByteArray) (u1 : Int) (u2 : Int) (left r : Int) (h : szV (u0.size : Nat) left = r) (hl : 0 ≤ left) (hl2 : left ≤ 1048576) (hs0 : u0.size ≤ maxLen) (w : World) :
    Calls Try.prog 21 #[.agg #[.string u0, .int .i64 u1, .int .i64 u2], .int .i64 left] w fun e w' => e = .returned (.int .i64 r) ∧ Below w.heap.size w w' := by
  subst h
  unfold maxLen at hs0
  by_cases q0 : left - (u0.size : Int) < 0
  · rw [szV_neg (by omega)]
    go_enter Try.func21, Try.ntmps21
    go_wp2_with fail
    go_ret
    exact ⟨rfl, by (repeat' (first | (with_reducible exact Below.refl _ _) | (with_reducible assumption) | (with_reducible refine below_drewN ?_ _) | (with_reducible refine Below.drew ?_) | (with_reducible refine Below.alloc ?_ ?_ _) | (with_reducible refine Below.setCell ?_ ?_ _) | go_size))⟩
  rw [szV_pos (by omega)]
  go_enter Try.func21, Try.ntmps21
  go_wp2_with fail
  go_ret
  exact ⟨ret_int (by omega), by (repeat' (first | (with_reducible exact Below.refl _ _) | (with_reducible assumption) | (with_reducible refine below_drewN ?_ _) | (with_reducible refine Below.drew ?_) | (with_reducible refine Below.alloc ?_ ?_ _) | (with_reducible refine Below.setCell ?_ ?_ _) | go_size))⟩

set_option maxHeartbeats 1000000 in
theorem c_szResultS (A : Option Addr) (n c : Nat) (l : List TResult) (left r : Int) (w : World) (ha : Sl resultC w w.heap.size 3 A n l) (hs : ∀ x ∈ l, x.1.size ≤ maxLen) (hn : n ≤ maxLen) (hl : 0 ≤ left) (hl2 : left ≤ 1048576) (h : szV (n + sumW resultW l) left = r) :
    Calls Try.prog 13 #[.slice A n c, .int .i64 left] w fun e w' => e = .returned (.int .i64 r) ∧ Below w.heap.size w w' := by
  subst h
  unfold maxLen at hn
  have HS := Lib.hid hs
  have HL := Lib.hid ha.1
  clear hs
  by_cases h : left - n < 0
  · rw [szV_neg (by omega)]
    go_enter Try.func13, Try.ntmps13
    go_wp2_with fail
    go_ret
    exact ⟨rfl, Below.refl _ _⟩
  · go_enter Try.func13, Try.ntmps13
    go_wp2_with fail
    go_loopw [1, 5] (fun q i wr => ∃ k : Nat, ∃ v : Int, k ≤ n ∧ i = .int .i64 k ∧ q = .int .i64 v ∧ 0 ≤ v ∧ v ≤ 1048576 ∧ Below w.heap.size w wr ∧ Hid (v = left - n - (sumW resultW (l.take k) : Nat))) (fun _ i _ => n - (intOf i).toNat)
    case atStart => exact ⟨0, left - n, Nat.zero_le _, rfl, rfl, by omega, by omega, Below.refl _ _, by show left - n = _; simp [sumW]⟩
    case round =>
      obtain ⟨k, v, hk, rfl, rfl, hv0, hv1, hB, hv⟩ := hrel
      have hz := hB.size
      by_cases hlt : k < n
      · obtain ⟨b, o, u0, u1, u2, rfl, hb1, hb2, hx, c0, c1, c2⟩ := result_at ha hB hlt
        have h1 := HS.out _ (List.mem_of_getElem? hx)
        have hst := sumW_step (f := resultW) hx
        rw [show resultW (u0, u1, u2) = u0.size from rfl] at hst
        have hst2 := sumW_le (f := resultW) l (k + 1)
        have HX := Lib.hid hx
        have HV := hv
        clear ha hx hv
        cases hq : decide (v - ((u0.size : Nat) : Int) < 0)
        · have hq' : 0 ≤ v - ((u0.size : Nat) : Int) := by simpa using hq
          have H1 := Lib.hid (fun W => c_szResult u0 u1 u2 v _ (szV_pos hq') hv0 hv1 h1 W)
          have hu : (0 : Int) ≤ ((u0.size : Nat) : Int) := by omega
          have hnn : ¬ (v - ((u0.size : Nat) : Int) < 0) := by omega
          have HST := Lib.hid hst
          clear hst hst2 hq h1
          go_wp2_with (go_at_call 21; refine (H1.out _).mono ?_; rintro r_ w1 ⟨rfl, hb1⟩; have hB1 := later hb1 (w := w) (by (repeat' (first | (with_reducible exact Below.refl _ _) | (with_reducible assumption) | (with_reducible refine below_drewN ?_ _) | (with_reducible refine Below.drew ?_) | (with_reducible refine Below.alloc ?_ ?_ _) | (with_reducible refine Below.setCell ?_ ?_ _) | go_size))))
          go_roundw
          case rel => exact ⟨k + 1, _, by omega, by go_num, rfl, hq', by omega, hB1, by have e1 := HST.out; have e2 := HV.out; show v - _ = _; omega⟩
          case measure => simp [intOf]; omega
        · have hq' : v - ((u0.size : Nat) : Int) < 0 := by simpa using hq
          have H1 := Lib.hid (fun W => c_szResult u0 u1 u2 v _ (szV_neg hq') hv0 hv1 h1 W)
          have hfin : left - ((n + sumW resultW l : Nat) : Int) < 0 := by
            have e2 := HV.out
            omega
          have HF := Lib.hid hfin
          clear hst hst2 hq h1 hfin
          go_wp2_with (go_at_call 21; refine (H1.out _).mono ?_; rintro r_ w1 ⟨rfl, hb1⟩; have hB1 := later hb1 (w := w) (by (repeat' (first | (with_reducible exact Below.refl _ _) | (with_reducible assumption) | (with_reducible refine below_drewN ?_ _) | (with_reducible refine Below.drew ?_) | (with_reducible refine Below.alloc ?_ ?_ _) | (with_reducible refine Below.setCell ?_ ?_ _) | go_size))))
          go_ret
          exact ⟨by rw [szV_neg HF.out]; rfl, hB1⟩
      · go_wp2_with fail
        go_ret
        obtain rfl : k = n := by omega
        have e2 := hv.out
        rw [List.take_of_length_le (by rw [HL.out]; omega)] at e2
        exact ⟨by rw [szV_pos (by omega)]; exact ret_int (by omega), hB⟩

set_option maxHeartbeats 400000 in
theorem c_eqResult (u0 : ByteArray) (u1 : Int) (u2 : Int) (w : World) :
    Calls Try.prog 19 #[.agg #[.string u0, .int .i64 u1, .int .i64 u2], .agg #[.string u0, .int .i64 u1, .int .i64 u2]] w fun r w' => r = .returned (.bool true) ∧ Below w.heap.size w w' := by
  go_enter Try.func19, Try.ntmps19
  go_wp2_with fail
  go_returns
  exact ⟨rfl, by (repeat' (first | (with_reducible exact Below.refl _ _) | (with_reducible assumption) | (with_reducible refine below_drewN ?_ _) | (with_reducible refine Below.drew ?_) | (with_reducible refine Below.alloc ?_ ?_ _) | (with_reducible refine Below.setCell ?_ ?_ _) | go_size))⟩

set_option maxHeartbeats 1000000 in
theorem c_eqResultS (A B : Option Addr) (n c d : Nat) (l : List TResult) (w : World) (ha : Sl resultC w w.heap.size 3 A n l) (hb : Sl resultC w w.heap.size 3 B n l) (hn : n ≤ 4611686018427387904) :
    Calls Try.prog 8 #[.slice A n c, .slice B n d] w fun r w' => r = .returned (.bool true) ∧ Below w.heap.size w w' := by
  go_enter Try.func8, Try.ntmps8
  go_wp2_with fail
  go_loopw [5] (fun i wr => ∃ k : Nat, k ≤ n ∧ i = .int .i64 k ∧ Below w.heap.size w wr) (fun i _ => n - (intOf i).toNat)
  case atStart => exact ⟨0, Nat.zero_le _, rfl, Below.refl _ _⟩
  case round =>
    obtain ⟨k, hk, rfl, hB⟩ := hrel
    by_cases hlt : k < n
    · obtain ⟨b, o, u0, u1, u2, rfl, hb1, hb2, hx, c0, c1, c2⟩ := result_at ha hB hlt
      obtain ⟨b', o', u0', u1', u2', rfl, hb1', hb2', hx', c0', c1', c2'⟩ := result_at hb hB hlt
      rw [hx] at hx'
      simp only [Option.some.injEq, Prod.mk.injEq] at hx'
      obtain ⟨rfl, rfl, rfl⟩ := hx'
      have hz := hB.size
      clear ha hb hx
      go_wp2_with fail
      refine wp_region_below (by kernel_rfl) (by kernel_rfl) ?_
      repeat (go_big_quiet_step ((go_at_call 19; refine qBg (c_eqResult _ _ _ _) (by simp) ?_; intro w_ h_; (first | exact h_ | exact h_.below))))
      refine wpQuiet_nil ?_
      intro _ hw'
      obtain ⟨⟨w9, hb9⟩, hw''⟩ := hw'
      subst hw''
      have hB1 := hB.trans (hb9.mono hz)
      go_wp2_with fail
      go_roundw
      case rel => exact ⟨k + 1, by omega, by go_num, hB1⟩
      case measure => simp [intOf]; omega
    · go_wp2_with fail
      go_ret
      exact ⟨rfl, hB⟩

theorem info_Result : (Try.prog.info? 38).map (fun i => (i.zero, i.size, i.bytes)) = some (some (.agg #[.string ByteArray.empty, .int .i64 0, .int .i64 0]), 3, 32) := by kernel_rfl

/-- Row g is filled up to element k. -/
theorem result_fill {w : World} {g : Nat} {e : TypeId} {m k : Nat} {z : Nat → Value} {l : List TResult} {u0 u1 u2} (hx : l[k]? = some (u0, u1, u2))
    (h : w.rowIs g e m (fun i => if i < k * 3 then (flat resultC l)[i]?.getD undef else z i)) :
    ((((w.setCell ⟨g, k * 3, none⟩ (.string u0)).setCell ⟨g, k * 3 + 1, none⟩ (.int .i64 u1)).setCell ⟨g, k * 3 + 2, none⟩ (.int .i64 u2))).rowIs g e m (fun i => if i < (k + 1) * 3 then (flat resultC l)[i]?.getD undef else z i) := by
  have e0 := flat_get (f := resultC) resultC_len (j := 0) hx rfl
  have e1 := flat_get (f := resultC) resultC_len (j := 1) hx rfl
  have e2 := flat_get (f := resultC) resultC_len (j := 2) hx rfl
  refine (((h.set _ _).set _ _).set _ _).congr fun i _ => ?_
  by_cases h2 : i = k * 3 + 2
  · subst h2; rw [if_pos rfl, if_pos (by omega), e2]; rfl
  rw [if_neg h2]
  by_cases h1 : i = k * 3 + 1
  · subst h1; rw [if_pos rfl, if_pos (by omega), e1]; rfl
  rw [if_neg h1]
  by_cases h0 : i = k * 3
  · subst h0; rw [if_pos rfl, if_pos (by omega), show (flat resultC l)[k * 3]? = _ from e0]; rfl
  rw [if_neg h0]
  by_cases hk : i < k * 3
  · rw [if_pos hk, if_pos (by omega)]
  · rw [if_neg hk, if_neg (by omega)]

set_option maxHeartbeats 1000000 in
theorem c_toResultS (A : Option Addr) (n c : Nat) (l : List TResult) (w : World) (ha : Sl resultC w w.heap.size 3 A n l) (hn : n ≤ 1048576) :
    Calls Try.prog 16 #[.slice A n c] w fun r w' => r = .returned (.slice (some ⟨w.heap.size, 0, none⟩) n n) ∧ OwnSl resultC w' w.heap.size 38 3 l ∧ Below w.heap.size w w' := by
  have hl := ha.1
  have hmk := run_make_any (P := Try.prog) 24 38 _ 3 32 Try.underlying24 info_Result .i64 .i64 n (by omega) (by omega)
  have HL := Lib.hid hl
  clear hl
  go_enter Try.func16, Try.ntmps16
  go_wp2_with fail
  go_loopw [4] (fun i wr => ∃ k : Nat, k ≤ n ∧ i = .int .i64 k ∧ Below w.heap.size w wr ∧ wr.rowIs w.heap.size 38 (n * 3) (fun i => if i < k * 3 then (flat resultC l)[i]?.getD undef else (Value.cells (.agg #[.string ByteArray.empty, .int .i64 0, .int .i64 0]))[i % (Value.cells (.agg #[.string ByteArray.empty, .int .i64 0, .int .i64 0])).size]!)) (fun i _ => n - (intOf i).toNat)
  case atStart => exact ⟨0, Nat.zero_le _, rfl, by (repeat' (first | (with_reducible exact Below.refl _ _) | (with_reducible assumption) | (with_reducible refine below_drewN ?_ _) | (with_reducible refine Below.drew ?_) | (with_reducible refine Below.alloc ?_ ?_ _) | (with_reducible refine Below.setCell ?_ ?_ _) | go_size)), (rowIs_made _ _ _).congr fun i _ => (if_neg (by omega)).symm⟩
  case round =>
    obtain ⟨k, hk, rfl, hB, hrow⟩ := hrel
    by_cases hlt : k < n
    · obtain ⟨b, o, u0, u1, u2, rfl, hb1, hb2, hx, c0, c1, c2⟩ := result_at ha hB hlt
      have hz := hB.size
      have hg := hrow.lt
      have hg1 : w.heap.size < wr.heap.size + 1 := by omega
      have hg2 : w.heap.size < wr.heap.size + 1 + 1 := by omega
      obtain ⟨v0, r0⟩ : ∃ v, wr.cell? ⟨w.heap.size, k * 3, none⟩ = some v := ⟨_, hrow.cell (by omega)⟩
      obtain ⟨v1, r1⟩ : ∃ v, wr.cell? ⟨w.heap.size, k * 3 + 1, none⟩ = some v := ⟨_, hrow.cell (by omega)⟩
      obtain ⟨v2, r2⟩ : ∃ v, wr.cell? ⟨w.heap.size, k * 3 + 2, none⟩ = some v := ⟨_, hrow.cell (by omega)⟩
      have f0 := hrow.frozen (k * 3)
      have f1 := hrow.frozen (k * 3 + 1)
      have f2 := hrow.frozen (k * 3 + 2)
      have HX := Lib.hid hx
      have HR := Lib.hid hrow
      clear ha hx hrow hmk
      go_wp2_with (go_at_call 23; refine (c_toResult _ _ _ _).mono ?_; rintro r_ w' ⟨rfl, rfl⟩)
      go_roundw
      case rel => exact ⟨k + 1, by omega, by go_num, by (repeat' (first | (with_reducible exact Below.refl _ _) | (with_reducible assumption) | (with_reducible refine below_drewN ?_ _) | (with_reducible refine Below.drew ?_) | (with_reducible refine Below.alloc ?_ ?_ _) | (with_reducible refine Below.setCell ?_ ?_ _) | go_size)), (((result_fill HX.out HR.out).alloc _).alloc _).alloc _⟩
      case measure => simp [intOf]; omega
    · go_wp2_with fail
      go_ret
      refine ⟨rfl, ⟨resultC_len, ?_⟩, hB⟩
      rw [HL.out]
      exact hrow.congr fun i hi => by rw [if_pos (by omega)]

open Go.ChangeShapes Go.WideShapes Go.Deep
def InResult (w : World) (A : Option Addr) (n : Nat) (l : List TResult) : Prop :=
  Sl resultC w w.heap.size 3 A n l ∧ (∀ x ∈ l, x.1.size ≤ maxLen ∧ wf64 x.2.1 ∧ wf64 x.2.2) ∧ n ≤ maxLen
theorem results_of {H : Type} {enc : TypeId × Value → H} {w : World} {spare : Nat → Bool} {held : Bool} {A : Option Addr} {n c : Nat} {d : DataW H} {p : List MemPlace}
    (h : DataW.Trod enc Try.prog w 0 spare held 35 (.slice A n c) d p) : ∃ l, InResult w A n l := by
  obtain ⟨fuel, hf⟩ := h
  simp only [Value.cells] at hf
  exact sl_of_trod resultC 3 (by omega) (fun x => x.1.size ≤ maxLen ∧ wf64 x.2.1 ∧ wf64 x.2.2) Try.underlying35 (by kernel_rfl) resultC_len (fun fuel cs y hy => by
    obtain ⟨hl, hj⟩ := fields_of_trod Try.underlying48 (by kernel_rfl) (by kernel_rfl) hy
    obtain ⟨v0, z0, n0, e0, t0⟩ := hj 0 _ rfl
    obtain ⟨v1, z1, n1, e1, t1⟩ := hj 1 _ rfl
    obtain ⟨v2, z2, n2, e2, t2⟩ := hj 2 _ rfl
    obtain ⟨u0, hs0, _, ws0⟩ := DataW.trod_string Try.underlying9 t0
    obtain ⟨u1, hs1, _, ws1⟩ := DataW.trod_int Try.underlying2 t1
    obtain ⟨u2, hs2, _, ws2⟩ := DataW.trod_int Try.underlying2 t2
    simp only [List.cons.injEq, and_true] at hs0 hs1 hs2
    subst hs0 hs1 hs2
    refine ⟨(u0, u1, u2), ?_, ws0, wf64_of ws1, wf64_of ws2⟩
    match cs, hl with
    | [c0, c1, c2], _ => simp at e0 e1 e2; simp [resultC, e0, e1, e2]) hf
/-- What marks a Result that is element i of a row, counted from k0 on. -/
def resultM (k0 : Nat) (i : Nat) : TResult := (mtx (k0 + i * 3 + 0), ((k0 + i * 3 + 1 : Nat) : Int), ((k0 + i * 3 + 2 : Nat) : Int))
def resultMs (k0 n : Nat) : List TResult := (List.range n).map (resultM k0)
theorem resultMs_len (k0 n : Nat) : (resultMs k0 n).length = n := by simp [resultMs]
theorem resultMs_get {k0 n i : Nat} {x : TResult} (h : (resultMs k0 n)[i]? = some x) : x = resultM k0 i := by
  simp only [resultMs, List.getElem?_map, Option.map_eq_some_iff] at h
  obtain ⟨j, hj, rfl⟩ := h
  rcases Nat.lt_or_ge i n with h | h
  · rw [List.getElem?_range h] at hj
    simp only [Option.some.injEq] at hj
    rw [hj]
  · rw [List.getElem?_eq_none (by simpa using h)] at hj
    cases hj
theorem resultMs_at {k0 n i : Nat} (h : i < n) : (resultMs k0 n)[i]? = some (resultM k0 i) := by simp [resultMs, h]

end Go.Proofs.Ytkpnkilpaokkcaa
