/- Slices of Drill: mirrors, comparison, marks. -/
import Derived.Test.YtnjmjopbeojfoaaDoorMem
import Derived.Test.YtnjmjopbeojfoaaDoorOpen
import Derived.Test.YtnjmjopbeojfoaaDoorTw
namespace Go.Proofs.YtnjmjopbeojfoaaDoor
open Go.RowKit Go.BigFrame
attribute [local go_sem] sub_cell sub_frozen drewN_setCell

abbrev TDrill := ByteArray × ByteArray × Int
/-- The cells of a Drill. -/
def drillC (x : TDrill) : List Value := [.string x.1, .string x.2.1, .int .i64 x.2.2]
theorem drillC_len (x : TDrill) : (drillC x).length = 3 := rfl
def drillW (x : TDrill) : Nat := x.1.size + x.2.1.size

/-- In a later world wr: the cells of element k. -/
theorem drill_at {w wr : World} {A : Option Addr} {n k : Nat} {l : List TDrill} (h : Sl drillC w w.heap.size 3 A n l) (hb : Below w.heap.size w wr) (hk : k < n) :
    ∃ b o u0 u1 u2, A = some ⟨b, o, none⟩ ∧ b < wr.heap.size ∧ b < w.heap.size ∧ l[k]? = some (u0, u1, u2) ∧ wr.cell? ⟨b, o + k * 3, none⟩ = some (.string u0) ∧ wr.cell? ⟨b, o + k * 3 + 1, none⟩ = some (.string u1) ∧ wr.cell? ⟨b, o + k * 3 + 2, none⟩ = some (.int .i64 u2) := by
  obtain ⟨b, o, ⟨u0, u1, u2⟩, hA, hlt, hx, hc⟩ := h.at_ hk
  have := hb.size
  refine ⟨b, o, u0, u1, u2, hA, by omega, hlt, hx, ?_, ?_, ?_⟩
  · exact (hb.cell (p := ⟨b, o + k * 3, none⟩) hlt).trans (hc 0 _ rfl)
  · exact (hb.cell (p := ⟨b, o + k * 3 + 1, none⟩) hlt).trans (hc 1 _ rfl)
  · exact (hb.cell (p := ⟨b, o + k * 3 + 2, none⟩) hlt).trans (hc 2 _ rfl)

/-- .. where the slice's place is known. -/
theorem drill_atB {w wr : World} {b o n k : Nat} {l : List TDrill} (h : Sl drillC w w.heap.size 3 (some ⟨b, o, none⟩) n l) (hb : Below w.heap.size w wr) (hk : k < n) :
    ∃ u0 u1 u2, b < wr.heap.size ∧ b < w.heap.size ∧ l[k]? = some (u0, u1, u2) ∧ wr.cell? ⟨b, o + k * 3, none⟩ = some (.string u0) ∧ wr.cell? ⟨b, o + k * 3 + 1, none⟩ = some (.string u1) ∧ wr.cell? ⟨b, o + k * 3 + 2, none⟩ = some (.int .i64 u2) := by
  obtain ⟨b', o', u0, u1, u2, hA, r⟩ := drill_at h hb hk
  simp only [Option.some.injEq, Addr.mk.injEq, and_true] at hA
  obtain ⟨rfl, rfl⟩ := hA
  exact ⟨u0, u1, u2, r⟩

set_option maxHeartbeats 400000 in
theorem c_toDrill (u0 : ByteArray) (u1 : ByteArray) (u2 : Int) (w : World) :
    Calls Tryd.prog 7 #[.agg #[.string u0, .string u1, .int .i64 u2]] w fun r w' => r = .returned (.agg #[.string u0, .string u1, .int .i64 u2]) ∧ w' = ((w.alloc (.cells #[.string u0, .string u1, .int .i64 u2] 23)).alloc (.cells #[.string u0, .string u1, .int .i64 u2] 26)).alloc (.cells #[.string u0, .string u1, .int .i64 u2] 26) := by
  go_enter Tryd.func7, Tryd.ntmps7
  go_wp2_with fail
  go_returns
  exact ⟨rfl, rfl⟩

set_option maxHeartbeats 400000 in
theorem c_szDrill (u0 : ByteArray) (u1 : ByteArray) (u2 : Int) (left r : Int) (h : szV (u0.size + u1.size : Nat) left = r) (hl : 0 ≤ left) (hl2 : left ≤ 1048576) (hs0 : u0.size ≤ maxLen) (hs1 : u1.size ≤ maxLen) (w : World) :
    Calls Tryd.prog 5 #[.agg #[.string u0, .string u1, .int .i64 u2], .int .i64 left] w fun e w' => e = .returned (.int .i64 r) ∧ Below w.heap.size w w' := by
  subst h
  unfold maxLen at hs0 hs1
  by_cases q0 : left - (u0.size : Int) < 0
  · rw [szV_neg (by omega)]
    go_enter Tryd.func5, Tryd.ntmps5
    go_wp2_with fail
    go_ret
    exact ⟨rfl, by (repeat' (first | (with_reducible exact Below.refl _ _) | (with_reducible assumption) | (with_reducible refine below_drewN ?_ _) | (with_reducible refine Below.drew ?_) | (with_reducible refine Below.alloc ?_ ?_ _) | (with_reducible refine Below.setCell ?_ ?_ _) | go_size))⟩
  by_cases q1 : left - (u0.size : Int) - (u1.size : Int) < 0
  · rw [szV_neg (by omega)]
    go_enter Tryd.func5, Tryd.ntmps5
    go_wp2_with fail
    go_ret
    exact ⟨rfl, by (repeat' (first | (with_reducible exact Below.refl _ _) | (with_reducible assumption) | (with_reducible refine below_drewN ?_ _) | (with_reducible refine Below.drew ?_) | (with_reducible refine Below.alloc ?_ ?_ _) | (with_reducible refine Below.setCell ?_ ?_ _) | go_size))⟩
  rw [szV_pos (by omega)]
  go_enter Tryd.func5, Tryd.ntmps5
  go_wp2_with fail
  go_ret
  exact ⟨ret_int (by omega), by (repeat' (first | (with_reducible exact Below.refl _ _) | (with_reducible assumption) | (with_reducible refine below_drewN ?_ _) | (with_reducible refine Below.drew ?_) | (with_reducible refine Below.alloc ?_ ?_ _) | (with_reducible refine Below.setCell ?_ ?_ _) | go_size))⟩


set_option maxHeartbeats 400000 in
theorem c_eqDrill (u0 : ByteArray) (u1 : ByteArray) (u2 : Int) (w : World) :
    Calls Tryd.prog 11 #[.agg #[.string u0, .string u1, .int .i64 u2], .agg #[.string u0, .string u1, .int .i64 u2]] w fun r w' => r = .returned (.bool true) ∧ Below w.heap.size w w' := by
  go_enter Tryd.func11, Tryd.ntmps11
  go_wp2_with fail
  go_returns
  exact ⟨rfl, by (repeat' (first | (with_reducible exact Below.refl _ _) | (with_reducible assumption) | (with_reducible refine below_drewN ?_ _) | (with_reducible refine Below.drew ?_) | (with_reducible refine Below.alloc ?_ ?_ _) | (with_reducible refine Below.setCell ?_ ?_ _) | go_size))⟩


theorem info_Drill : (Tryd.prog.info? 26).map (fun i => (i.zero, i.size, i.bytes)) = some (some (.agg #[.string ByteArray.empty, .string ByteArray.empty, .int .i64 0]), 3, 40) := by kernel_rfl

/-- Row g is filled up to element k. -/
theorem drill_fill {w : World} {g : Nat} {e : TypeId} {m k : Nat} {z : Nat → Value} {l : List TDrill} {u0 u1 u2} (hx : l[k]? = some (u0, u1, u2))
    (h : w.rowIs g e m (fun i => if i < k * 3 then (flat drillC l)[i]?.getD undef else z i)) :
    ((((w.setCell ⟨g, k * 3, none⟩ (.string u0)).setCell ⟨g, k * 3 + 1, none⟩ (.string u1)).setCell ⟨g, k * 3 + 2, none⟩ (.int .i64 u2))).rowIs g e m (fun i => if i < (k + 1) * 3 then (flat drillC l)[i]?.getD undef else z i) := by
  have e0 := flat_get (f := drillC) drillC_len (j := 0) hx rfl
  have e1 := flat_get (f := drillC) drillC_len (j := 1) hx rfl
  have e2 := flat_get (f := drillC) drillC_len (j := 2) hx rfl
  refine (((h.set _ _).set _ _).set _ _).congr fun i _ => ?_
  by_cases h2 : i = k * 3 + 2
  · subst h2; rw [if_pos rfl, if_pos (by omega), e2]; rfl
  rw [if_neg h2]
  by_cases h1 : i = k * 3 + 1
  · subst h1; rw [if_pos rfl, if_pos (by omega), e1]; rfl
  rw [if_neg h1]
  by_cases h0 : i = k * 3
  · subst h0; rw [if_pos rfl, if_pos (by omega), show (flat drillC l)[k * 3]? = _ from e0]; rfl
  rw [if_neg h0]
  by_cases hk : i < k * 3
  · rw [if_pos hk, if_pos (by omega)]
  · rw [if_neg hk, if_neg (by omega)]


open Go.ChangeShapes Go.WideShapes Go.Deep
def InDrill (w : World) (A : Option Addr) (n : Nat) (l : List TDrill) : Prop :=
  Sl drillC w w.heap.size 3 A n l ∧ (∀ x ∈ l, x.1.size ≤ maxLen ∧ x.2.1.size ≤ maxLen ∧ wf64 x.2.2) ∧ n ≤ maxLen
end Go.Proofs.YtnjmjopbeojfoaaDoor
