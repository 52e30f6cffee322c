/- Slices of Drill: mirrors, comparison, marks. -/
import Derived.Test.YtnjmjopbeojfoaaMem
import Derived.Test.YtnjmjopbeojfoaaOpen
import Derived.Test.YtnjmjopbeojfoaaTw
namespace Go.Proofs.Ytnjmjopbeojfoaa
open Go.RowKit Go.BigFrame
attribute [local go_sem] sub_cell sub_frozen drewN_setCell

abbrev TDrill := ByteArray × ByteArray × Int
/-- The cells of a Drill. -/
def drillC (x : TDrill) : List Value := [.string x.1, .string x.2.1, .int .i64 x.2.2]
theorem drillC_len (x : TDrill) : (drillC x).length = 3 := rfl
def drillW (x : TDrill) : Nat := x.1.size + x.2.1.size

/-- In a later world wr: the cells of element k. -/
theorem drill_at {w wr : World} {A : Option Addr} {n k : Nat} {l : List TDrill} (h : Sl drillC w w.heap.size 3 A n l) (hb : Below w.heap.size w wr) (hk : k < n) :
    ∃ b o u0 u1 u2, A = some ⟨b, o, none⟩ ∧ b < wr.heap.size ∧ b < w.heap.size ∧ l[k]? = some (u0, u1, u2) ∧ wr.cell? ⟨b, o + k * 3, none⟩ = some (.string u0) ∧ wr.cell? ⟨b, o + k * 3 + 1, none⟩ = some (.string u1) ∧ wr.cell? ⟨b, o + k * 3 + 2, none⟩ = some (.int .i64 u2) := by
  obtain ⟨b, o, ⟨u0, u1, u2⟩, hA, hlt, hx, hc⟩ := h.at_ hk
  have := hb.size
  refine ⟨b, o, u0, u1, u2, hA, by omega, hlt, hx, ?_, ?_, ?_⟩
  · exact (hb.cell (p := ⟨b, o + k * 3, none⟩) hlt).trans (hc 0 _ rfl)
  · exact (hb.cell (p := ⟨b, o + k * 3 + 1, none⟩) hlt).trans (hc 1 _ rfl)
  · exact (hb.cell (p := ⟨b, o + k * 3 + 2, none⟩) hlt).trans (hc 2 _ rfl)

/-- .. where the slice's place is known. -/
theorem drill_atB {w wr : World} {b o n k : Nat} {l : List TDrill} (h : Sl drillC w w.heap.size 3 (some ⟨b, o, none⟩) n l) (hb : Below w.heap.size w wr) (hk : k < n) :
    ∃ u0 u1 u2, b < wr.heap.size ∧ b < w.heap.size ∧ l[k]? = some (u0, u1, u2) ∧ wr.cell? ⟨b, o + k * 3, none⟩ = some (.string u0) ∧ wr.cell? ⟨b, o + k * 3 + 1, none⟩ = some (.string u1) ∧ wr.cell? ⟨b, o + k * 3 + 2, none⟩ = some (.int .i64 u2) := by
  obtain ⟨b', o', u0, u1, u2, hA, r⟩ := drill_at h hb hk
  simp only [Option.some.injEq, Addr.mk.injEq, and_true] at hA
  obtain ⟨rfl, rfl⟩ := hA
  exact ⟨u0, u1, u2, r⟩

set_option maxHeartbeats 400000 in
theorem c_toDrill (u0 : ByteArray) (u1 : ByteArray) (u2 : Int) (w : World) :
    Calls Try.prog 18 #[.agg #[.string u0, .string u1, .int .i64 u2]] w fun r w' => r = .returned (.agg #[.string u0, .string u1, .int .i64 u2]) ∧ w' = ((w.alloc (.cells #[.string u0, .string u1, .int .i64 u2] 27)).alloc (.cells #[.string u0, .string u1, .int .i64 u2] 31)).alloc (.cells #[.string u0, .string u1, .int .i64 u2] 31) := by
  go_enter Try.func18, Try.ntmps18
  go_wp2_with fail
  go_returns
  exact ⟨rfl, rfl⟩

set_option maxHeartbeats 400000 in
theorem c_szDrill (u0 : ByteArray) (u1 : ByteArray) (u2 : Int) (left r : Int) (h : szV (u0.size + u1.size : Nat) left = r) (hl : 0 ≤ left) (hl2 : left ≤ 1048576) (hs0 : u0.size ≤ maxLen) (hs1 : u1.size ≤ maxLen) (w : World) :
    Calls Try.prog 16 #[.agg #[.string u0, .string u1, .int .i64 u2], .int .i64 left] w fun e w' => e = .returned (.int .i64 r) ∧ Below w.heap.size w w' := by
  subst h
  unfold maxLen at hs0 hs1
  by_cases q0 : left - (u0.size : Int) < 0
  · rw [szV_neg (by omega)]
    go_enter Try.func16, Try.ntmps16
    go_wp2_with fail
    go_ret
    exact ⟨rfl, by (repeat' (first | (with_reducible exact Below.refl _ _) | (with_reducible assumption) | (with_reducible refine below_drewN ?_ _) | (with_reducible refine Below.drew ?_) | (with_reducible refine Below.alloc ?_ ?_ _) | (with_reducible refine Below.setCell ?_ ?_ _) | go_size))⟩
  by_cases q1 : left - (u0.size : Int) - (u1.size : Int) < 0
  · rw [szV_neg (by omega)]
    go_enter Try.func16, Try.ntmps16
    go_wp2_with fail
    go_ret
    exact ⟨rfl, by (repeat' (first | (with_reducible exact Below.refl _ _) | (with_reducible assumption) | (with_reducible refine below_drewN ?_ _) | (with_reducible refine Below.drew ?_) | (with_reducible refine Below.alloc ?_ ?_ _) | (with_reducible refine Below.setCell ?_ ?_ _) | go_size))⟩
  rw [szV_pos (by omega)]
  go_enter Try.func16, Try.ntmps16
  go_wp2_with fail
  go_ret
  exact ⟨ret_int (by omega), by (repeat' (first | (with_reducible exact Below.refl _ _) | (with_reducible assumption) | (with_reducible refine below_drewN ?_ _) | (with_reducible refine Below.drew ?_) | (with_reducible refine Below.alloc ?_ ?_ _) | (with_reducible refine Below.setCell ?_ ?_ _) | go_size))⟩

set_option maxHeartbeats 1000000 in
theorem c_szDrillS (A : Option Addr) (n c : Nat) (l : List TDrill) (left r : Int) (w : World) (ha : Sl drillC w w.heap.size 3 A n l) (hs : ∀ x ∈ l, x.1.size ≤ maxLen ∧ x.2.1.size ≤ maxLen) (hn : n ≤ maxLen) (hl : 0 ≤ left) (hl2 : left ≤ 1048576) (h : szV (n + sumW drillW l) left = r) :
    Calls Try.prog 20 #[.slice A n c, .int .i64 left] w fun e w' => e = .returned (.int .i64 r) ∧ Below w.heap.size w w' := by
  subst h
  unfold maxLen at hn
  have HS := Lib.hid hs
  have HL := Lib.hid ha.1
  clear hs
  by_cases h : left - n < 0
  · rw [szV_neg (by omega)]
    go_enter Try.func20, Try.ntmps20
    go_wp2_with fail
    go_ret
    exact ⟨rfl, Below.refl _ _⟩
  · go_enter Try.func20, Try.ntmps20
    go_wp2_with fail
    go_loopw [1, 5] (fun q i wr => ∃ k : Nat, ∃ v : Int, k ≤ n ∧ i = .int .i64 k ∧ q = .int .i64 v ∧ 0 ≤ v ∧ v ≤ 1048576 ∧ Below w.heap.size w wr ∧ Hid (v = left - n - (sumW drillW (l.take k) : Nat))) (fun _ i _ => n - (intOf i).toNat)
    case atStart => exact ⟨0, left - n, Nat.zero_le _, rfl, rfl, by omega, by omega, Below.refl _ _, by show left - n = _; simp [sumW]⟩
    case round =>
      obtain ⟨k, v, hk, rfl, rfl, hv0, hv1, hB, hv⟩ := hrel
      have hz := hB.size
      by_cases hlt : k < n
      · obtain ⟨b, o, u0, u1, u2, rfl, hb1, hb2, hx, c0, c1, c2⟩ := drill_at ha hB hlt
        have h1 := HS.out _ (List.mem_of_getElem? hx)
        have hst := sumW_step (f := drillW) hx
        rw [show drillW (u0, u1, u2) = u0.size + u1.size from rfl] at hst
        have hst2 := sumW_le (f := drillW) l (k + 1)
        have HX := Lib.hid hx
        have HV := hv
        clear ha hx hv
        cases hq : decide (v - ((u0.size + u1.size : Nat) : Int) < 0)
        · have hq' : 0 ≤ v - ((u0.size + u1.size : Nat) : Int) := by simpa using hq
          have H1 := Lib.hid (fun W => c_szDrill u0 u1 u2 v _ (szV_pos hq') hv0 hv1 h1.1 h1.2 W)
          have hu : (0 : Int) ≤ ((u0.size + u1.size : Nat) : Int) := by omega
          have hnn : ¬ (v - ((u0.size + u1.size : Nat) : Int) < 0) := by omega
          have HST := Lib.hid hst
          clear hst hst2 hq h1
          go_wp2_with (go_at_call 16; refine (H1.out _).mono ?_; rintro r_ w1 ⟨rfl, hb1⟩; have hB1 := later hb1 (w := w) (by (repeat' (first | (with_reducible exact Below.refl _ _) | (with_reducible assumption) | (with_reducible refine below_drewN ?_ _) | (with_reducible refine Below.drew ?_) | (with_reducible refine Below.alloc ?_ ?_ _) | (with_reducible refine Below.setCell ?_ ?_ _) | go_size))))
          go_roundw
          case rel => exact ⟨k + 1, _, by omega, by go_num, rfl, hq', by omega, hB1, by have e1 := HST.out; have e2 := HV.out; show v - _ = _; omega⟩
          case measure => simp [intOf]; omega
        · have hq' : v - ((u0.size + u1.size : Nat) : Int) < 0 := by simpa using hq
          have H1 := Lib.hid (fun W => c_szDrill u0 u1 u2 v _ (szV_neg hq') hv0 hv1 h1.1 h1.2 W)
          have hfin : left - ((n + sumW drillW l : Nat) : Int) < 0 := by
            have e2 := HV.out
            omega
          have HF := Lib.hid hfin
          clear hst hst2 hq h1 hfin
          go_wp2_with (go_at_call 16; refine (H1.out _).mono ?_; rintro r_ w1 ⟨rfl, hb1⟩; have hB1 := later hb1 (w := w) (by (repeat' (first | (with_reducible exact Below.refl _ _) | (with_reducible assumption) | (with_reducible refine below_drewN ?_ _) | (with_reducible refine Below.drew ?_) | (with_reducible refine Below.alloc ?_ ?_ _) | (with_reducible refine Below.setCell ?_ ?_ _) | go_size))))
          go_ret
          exact ⟨by rw [szV_neg HF.out]; rfl, hB1⟩
      · go_wp2_with fail
        go_ret
        obtain rfl : k = n := by omega
        have e2 := hv.out
        rw [List.take_of_length_le (by rw [HL.out]; omega)] at e2
        exact ⟨by rw [szV_pos (by omega)]; exact ret_int (by omega), hB⟩

set_option maxHeartbeats 400000 in
theorem c_eqDrill (u0 : ByteArray) (u1 : ByteArray) (u2 : Int) (w : World) :
    Calls Try.prog 50 #[.agg #[.string u0, .string u1, .int .i64 u2], .agg #[.string u0, .string u1, .int .i64 u2]] w fun r w' => r = .returned (.bool true) ∧ Below w.heap.size w w' := by
  go_enter Try.func50, Try.ntmps50
  go_wp2_with fail
  go_returns
  exact ⟨rfl, by (repeat' (first | (with_reducible exact Below.refl _ _) | (with_reducible assumption) | (with_reducible refine below_drewN ?_ _) | (with_reducible refine Below.drew ?_) | (with_reducible refine Below.alloc ?_ ?_ _) | (with_reducible refine Below.setCell ?_ ?_ _) | go_size))⟩

set_option maxHeartbeats 1000000 in
theorem c_eqDrillS (A B : Option Addr) (n c d : Nat) (l : List TDrill) (w : World) (ha : Sl drillC w w.heap.size 3 A n l) (hb : Sl drillC w w.heap.size 3 B n l) (hn : n ≤ 4611686018427387904) :
    Calls Try.prog 24 #[.slice A n c, .slice B n d] w fun r w' => r = .returned (.bool true) ∧ Below w.heap.size w w' := by
  go_enter Try.func24, Try.ntmps24
  go_wp2_with fail
  go_loopw [5] (fun i wr => ∃ k : Nat, k ≤ n ∧ i = .int .i64 k ∧ Below w.heap.size w wr) (fun i _ => n - (intOf i).toNat)
  case atStart => exact ⟨0, Nat.zero_le _, rfl, Below.refl _ _⟩
  case round =>
    obtain ⟨k, hk, rfl, hB⟩ := hrel
    by_cases hlt : k < n
    · obtain ⟨b, o, u0, u1, u2, rfl, hb1, hb2, hx, c0, c1, c2⟩ := drill_at ha hB hlt
      obtain ⟨b', o', u0', u1', u2', rfl, hb1', hb2', hx', c0', c1', c2'⟩ := drill_at hb hB hlt
      rw [hx] at hx'
      simp only [Option.some.injEq, Prod.mk.injEq] at hx'
      obtain ⟨rfl, rfl, rfl⟩ := hx'
      have hz := hB.size
      clear ha hb hx
      go_wp2_with fail
      refine wp_region_below (by kernel_rfl) (by kernel_rfl) ?_
      repeat (go_big_quiet_step ((go_at_call 50; refine qBg (c_eqDrill _ _ _ _) (by simp) ?_; intro w_ h_; (first | exact h_ | exact h_.below))))
      refine wpQuiet_nil ?_
      intro _ hw'
      obtain ⟨⟨w9, hb9⟩, hw''⟩ := hw'
      subst hw''
      have hB1 := hB.trans (hb9.mono hz)
      go_wp2_with fail
      go_roundw
      case rel => exact ⟨k + 1, by omega, by go_num, hB1⟩
      case measure => simp [intOf]; omega
    · go_wp2_with fail
      go_ret
      exact ⟨rfl, hB⟩

theorem info_Drill : (Try.prog.info? 31).map (fun i => (i.zero, i.size, i.bytes)) = some (some (.agg #[.string ByteArray.empty, .string ByteArray.empty, .int .i64 0]), 3, 40) := by kernel_rfl

/-- Row g is filled up to element k. -/
theorem drill_fill {w : World} {g : Nat} {e : TypeId} {m k : Nat} {z : Nat → Value} {l : List TDrill} {u0 u1 u2} (hx : l[k]? = some (u0, u1, u2))
    (h : w.rowIs g e m (fun i => if i < k * 3 then (flat drillC l)[i]?.getD undef else z i)) :
    ((((w.setCell ⟨g, k * 3, none⟩ (.string u0)).setCell ⟨g, k * 3 + 1, none⟩ (.string u1)).setCell ⟨g, k * 3 + 2, none⟩ (.int .i64 u2))).rowIs g e m (fun i => if i < (k + 1) * 3 then (flat drillC l)[i]?.getD undef else z i) := by
  have e0 := flat_get (f := drillC) drillC_len (j := 0) hx rfl
  have e1 := flat_get (f := drillC) drillC_len (j := 1) hx rfl
  have e2 := flat_get (f := drillC) drillC_len (j := 2) hx rfl
  refine (((h.set _ _).set _ _).set _ _).congr fun i _ => ?_
  by_cases h2 : i = k * 3 + 2
  · subst h2; rw [if_pos rfl, if_pos (by omega), e2]; rfl
  rw [if_neg h2]
  by_cases h1 : i = k * 3 + 1
  · subst h1; rw [if_pos rfl, if_pos (by omega), e1]; rfl
  rw [if_neg h1]
  by_cases h0 : i = k * 3
  · subst h0; rw [if_pos rfl, if_pos (by omega), show (flat drillC l)[k * 3]? = _ from e0]; rfl
  rw [if_neg h0]
  by_cases hk : i < k * 3
  · rw [if_pos hk, if_pos (by omega)]
  · rw [if_neg hk, if_neg (by omega)]

set_option maxHeartbeats 1000000 in
theorem c_toDrillS (A : Option Addr) (n c : Nat) (l : List TDrill) (w : World) (ha : Sl drillC w w.heap.size 3 A n l) (hn : n ≤ 1048576) :
    Calls Try.prog 22 #[.slice A n c] w fun r w' => r = .returned (.slice (some ⟨w.heap.size, 0, none⟩) n n) ∧ OwnSl drillC w' w.heap.size 31 3 l ∧ Below w.heap.size w w' := by
  have hl := ha.1
  have hmk := run_make_any (P := Try.prog) 37 31 _ 3 40 Try.underlying37 info_Drill .i64 .i64 n (by omega) (by omega)
  have HL := Lib.hid hl
  clear hl
  go_enter Try.func22, Try.ntmps22
  go_wp2_with fail
  go_loopw [4] (fun i wr => ∃ k : Nat, k ≤ n ∧ i = .int .i64 k ∧ Below w.heap.size w wr ∧ wr.rowIs w.heap.size 31 (n * 3) (fun i => if i < k * 3 then (flat drillC l)[i]?.getD undef else (Value.cells (.agg #[.string ByteArray.empty, .string ByteArray.empty, .int .i64 0]))[i % (Value.cells (.agg #[.string ByteArray.empty, .string ByteArray.empty, .int .i64 0])).size]!)) (fun i _ => n - (intOf i).toNat)
  case atStart => exact ⟨0, Nat.zero_le _, rfl, by (repeat' (first | (with_reducible exact Below.refl _ _) | (with_reducible assumption) | (with_reducible refine below_drewN ?_ _) | (with_reducible refine Below.drew ?_) | (with_reducible refine Below.alloc ?_ ?_ _) | (with_reducible refine Below.setCell ?_ ?_ _) | go_size)), (rowIs_made _ _ _).congr fun i _ => (if_neg (by omega)).symm⟩
  case round =>
    obtain ⟨k, hk, rfl, hB, hrow⟩ := hrel
    by_cases hlt : k < n
    · obtain ⟨b, o, u0, u1, u2, rfl, hb1, hb2, hx, c0, c1, c2⟩ := drill_at ha hB hlt
      have hz := hB.size
      have hg := hrow.lt
      have hg1 : w.heap.size < wr.heap.size + 1 := by omega
      have hg2 : w.heap.size < wr.heap.size + 1 + 1 := by omega
      obtain ⟨v0, r0⟩ : ∃ v, wr.cell? ⟨w.heap.size, k * 3, none⟩ = some v := ⟨_, hrow.cell (by omega)⟩
      obtain ⟨v1, r1⟩ : ∃ v, wr.cell? ⟨w.heap.size, k * 3 + 1, none⟩ = some v := ⟨_, hrow.cell (by omega)⟩
      obtain ⟨v2, r2⟩ : ∃ v, wr.cell? ⟨w.heap.size, k * 3 + 2, none⟩ = some v := ⟨_, hrow.cell (by omega)⟩
      have f0 := hrow.frozen (k * 3)
      have f1 := hrow.frozen (k * 3 + 1)
      have f2 := hrow.frozen (k * 3 + 2)
      have HX := Lib.hid hx
      have HR := Lib.hid hrow
      clear ha hx hrow hmk
      go_wp2_with (go_at_call 18; refine (c_toDrill _ _ _ _).mono ?_; rintro r_ w' ⟨rfl, rfl⟩)
      go_roundw
      case rel => exact ⟨k + 1, by omega, by go_num, by (repeat' (first | (with_reducible exact Below.refl _ _) | (with_reducible assumption) | (with_reducible refine below_drewN ?_ _) | (with_reducible refine Below.drew ?_) | (with_reducible refine Below.alloc ?_ ?_ _) | (with_reducible refine Below.setCell ?_ ?_ _) | go_size)), (((drill_fill HX.out HR.out).alloc _).alloc _).alloc _⟩
      case measure => simp [intOf]; omega
    · go_wp2_with fail
      go_ret
      refine ⟨rfl, ⟨drillC_len, ?_⟩, hB⟩
      rw [HL.out]
      exact hrow.congr fun i hi => by rw [if_pos (by omega)]

open Go.ChangeShapes Go.WideShapes Go.Deep
def InDrill (w : World) (A : Option Addr) (n : Nat) (l : List TDrill) : Prop :=
  Sl drillC w w.heap.size 3 A n l ∧ (∀ x ∈ l, x.1.size ≤ maxLen ∧ x.2.1.size ≤ maxLen ∧ wf64 x.2.2) ∧ n ≤ maxLen
theorem drills_of {H : Type} {enc : TypeId × Value → H} {w : World} {spare : Nat → Bool} {held : Bool} {A : Option Addr} {n c : Nat} {d : DataW H} {p : List MemPlace}
    (h : DataW.Trod enc Try.prog w 0 spare held 34 (.slice A n c) d p) : ∃ l, InDrill w A n l := by
  obtain ⟨fuel, hf⟩ := h
  simp only [Value.cells] at hf
  exact sl_of_trod drillC 3 (by omega) (fun x => x.1.size ≤ maxLen ∧ x.2.1.size ≤ maxLen ∧ wf64 x.2.2) Try.underlying34 (by kernel_rfl) drillC_len (fun fuel cs y hy => by
    obtain ⟨hl, hj⟩ := fields_of_trod Try.underlying27 (by kernel_rfl) (by kernel_rfl) hy
    obtain ⟨v0, z0, n0, e0, t0⟩ := hj 0 _ rfl
    obtain ⟨v1, z1, n1, e1, t1⟩ := hj 1 _ rfl
    obtain ⟨v2, z2, n2, e2, t2⟩ := hj 2 _ rfl
    obtain ⟨u0, hs0, _, ws0⟩ := DataW.trod_string Try.underlying9 t0
    obtain ⟨u1, hs1, _, ws1⟩ := DataW.trod_string Try.underlying9 t1
    obtain ⟨u2, hs2, _, ws2⟩ := DataW.trod_int Try.underlying2 t2
    simp only [List.cons.injEq, and_true] at hs0 hs1 hs2
    subst hs0 hs1 hs2
    refine ⟨(u0, u1, u2), ?_, ws0, ws1, wf64_of ws2⟩
    match cs, hl with
    | [c0, c1, c2], _ => simp at e0 e1 e2; simp [drillC, e0, e1, e2]) hf
/-- What marks a Drill that is element i of a row, counted from k0 on. -/
def drillM (k0 : Nat) (i : Nat) : TDrill := (mtx (k0 + i * 3 + 0), mtx (k0 + i * 3 + 1), ((k0 + i * 3 + 2 : Nat) : Int))
def drillMs (k0 n : Nat) : List TDrill := (List.range n).map (drillM k0)
theorem drillMs_len (k0 n : Nat) : (drillMs k0 n).length = n := by simp [drillMs]
theorem drillMs_get {k0 n i : Nat} {x : TDrill} (h : (drillMs k0 n)[i]? = some x) : x = drillM k0 i := by
  simp only [drillMs, List.getElem?_map, Option.map_eq_some_iff] at h
  obtain ⟨j, hj, rfl⟩ := h
  rcases Nat.lt_or_ge i n with h | h
  · rw [List.getElem?_range h] at hj
    simp only [Option.some.injEq] at hj
    rw [hj]
  · rw [List.getElem?_eq_none (by simpa using h)] at hj
    cases hj
theorem drillMs_at {k0 n i : Nat} (h : i < n) : (drillMs k0 n)[i]? = some (drillM k0 i) := by simp [drillMs, h]

end Go.Proofs.Ytnjmjopbeojfoaa
