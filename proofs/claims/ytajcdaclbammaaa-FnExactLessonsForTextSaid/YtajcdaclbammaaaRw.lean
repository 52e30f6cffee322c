/- Rows of int64 of the call's own, made by make, written place by place. -/
import Derived.Test.YtajcdaclbammaaaTi
import Derived.OneCell
namespace Go.Proofs.Ytajcdaclbammaaa
open Go.RowKit Go.BigFrame

/-- Block g is a row of n int64s, the list l. -/
def RowZ (w : World) (g n : Nat) (l : List Int) : Prop := l.length = n ∧ w.rowIs g 2 n (fun i => .int .i64 (l.getD i 0))
section
variable {w w' : World} {g n : Nat} {l : List Int}
theorem RowZ.made (w : World) (n : Nat) : RowZ (w.alloc (.cells (madeCells (Value.cells (.int .i64 0)) n) 2)) w.heap.size n (List.replicate n 0) :=
  ⟨by simp, (rowIs_made _ _ _).congr fun i hi => by
    simp only [Value.cells, List.getD_eq_getElem?_getD]
    rw [List.getElem?_replicate, if_pos hi]
    show (#[Value.int .i64 0] : Array Value)[i % 1]! = _
    rw [Nat.mod_one]; rfl⟩
theorem RowZ.len (h : RowZ w g n l) : l.length = n := h.1
theorem RowZ.lt (h : RowZ w g n l) : g < w.heap.size := h.2.lt
theorem RowZ.cell (h : RowZ w g n l) {i : Nat} (hi : i < n) : w.cell? ⟨g, i, none⟩ = some (.int .i64 (l.getD i 0)) := h.2.cell hi
theorem RowZ.frozen (h : RowZ w g n l) (i : Nat) : w.frozen? ⟨g, i, none⟩ = false := h.2.frozen i
theorem RowZ.set (h : RowZ w g n l) (i : Nat) (v : Int) : RowZ (w.setCell ⟨g, i, none⟩ (.int .i64 v)) g n (l.set i v) := by
  refine ⟨by rw [List.length_set]; exact h.1, (h.2.set i _).congr fun j hj => ?_⟩
  have h1 := h.1
  by_cases e : j = i
  · subst e
    rw [if_pos rfl, List.getD_eq_getElem?_getD, List.getElem?_set_self (by omega)]; rfl
  · rw [if_neg e, List.getD_eq_getElem?_getD, List.getD_eq_getElem?_getD, List.getElem?_set_ne (fun h => e h.symm)]
theorem RowZ.block (h : RowZ w g n l) (e : w'.heap[g]? = w.heap[g]?) : RowZ w' g n l := ⟨h.1, h.2.of_block e⟩
theorem RowZ.below {B : Nat} (h : RowZ w g n l) (hb : Below B w w') (hg : g < B) : RowZ w' g n l := h.block (hb.block g hg)
theorem RowZ.later (h : RowZ w g n l) (hb : Below w.heap.size w w') : RowZ w' g n l := h.below hb h.lt
theorem RowZ.alloc (h : RowZ w g n l) (o : Obj) : RowZ (w.alloc o) g n l := ⟨h.1, h.2.alloc o⟩
theorem RowZ.far (h : RowZ w g n l) {a : Addr} (ha : g ≠ a.block) (v : Value) : RowZ (w.setCell a v) g n l := ⟨h.1, h.2.setOther ha v⟩
theorem RowZ.grown {row : Option Nat} (h : RowZ w g n l) (hg : w.grownBy w' row) (hne : row ≠ some g) : RowZ w' g n l := h.block (hg.block g h.lt fun e => hne e.symm)
theorem RowZ.own {base : Nat} (h : RowZ w g n l) (hb : base ≤ g) (hn : n ≤ maxLen) : w.ownsRow base 2 1 (.slice (some ⟨g, 0, none⟩) n n) n (l.map (Value.int .i64)) := by
  obtain ⟨hl, cs, h1, h2, h3⟩ := h
  refine ⟨by rw [List.length_map, hl, Nat.mul_one], .inr ⟨g, n, cs, rfl, hb, h1, Nat.le_refl _, hn, by omega, ?_⟩⟩
  apply List.ext_getElem?
  intro i
  rw [List.getElem?_take, Nat.mul_one]
  by_cases hi : i < n
  · have h4 := h3 i hi
    rw [if_pos hi, Array.getElem?_toList, h4, List.getElem?_map]
    have : i < l.length := by omega
    simp [List.getD_eq_getElem?_getD, List.getElem?_eq_getElem this]
  · rw [if_neg hi, List.getElem?_eq_none (by simp; omega)]
end
/-- The make of such a row. -/
theorem run_makeZ (n : Nat) (hn : n ≤ 1048576) (w : World) : (Instr.makeSlice 30 (.int .i64 (n : Int)) (.int .i64 (n : Int))).run Try.prog w = .ok (.slice (some ⟨w.heap.size, 0, none⟩) n n) (w.alloc (.cells (madeCells (Value.cells (.int .i64 0)) n) 2)) := by
  have := run_make_any (P := Try.prog) 30 2 _ 1 8 Try.underlying30 info_int64 .i64 .i64 n (by omega) (by omega) w
  rwa [Nat.mul_one] at this
end Go.Proofs.Ytajcdaclbammaaa
