/- Rows of the call's own, of one-cell elements of any kind, written place by place. -/
import Derived.Test.YtajcdaclbammaaaRw
namespace Go.Proofs.Ytajcdaclbammaaa
open Go.RowKit Go.BigFrame

/-- Block g is a row of n elements of type e, the list l. -/
def RowL {α : Type} (enc : α → Value) (d : α) (e : TypeId) (w : World) (g n : Nat) (l : List α) : Prop := l.length = n ∧ w.rowIs g e n (fun i => enc (l.getD i d))
section
variable {α : Type} {enc : α → Value} {d : α} {e : TypeId} {w w' : World} {g n : Nat} {l : List α}
theorem RowL.len (h : RowL enc d e w g n l) : l.length = n := h.1
theorem RowL.lt (h : RowL enc d e w g n l) : g < w.heap.size := h.2.lt
theorem RowL.cell (h : RowL enc d e w g n l) {i : Nat} (hi : i < n) : w.cell? ⟨g, i, none⟩ = some (enc (l.getD i d)) := h.2.cell hi
theorem RowL.frozen (h : RowL enc d e w g n l) (i : Nat) : w.frozen? ⟨g, i, none⟩ = false := h.2.frozen i
theorem RowL.set (h : RowL enc d e w g n l) (i : Nat) (v : α) : RowL enc d e (w.setCell ⟨g, i, none⟩ (enc v)) g n (l.set i v) := by
  refine ⟨by rw [List.length_set]; exact h.1, (h.2.set i _).congr fun j hj => ?_⟩
  have h1 := h.1
  by_cases e : j = i
  · subst e
    rw [if_pos rfl, List.getD_eq_getElem?_getD, List.getElem?_set_self (by omega)]; rfl
  · rw [if_neg e, List.getD_eq_getElem?_getD, List.getD_eq_getElem?_getD, List.getElem?_set_ne (fun h => e h.symm)]
theorem RowL.block (h : RowL enc d e w g n l) (hk : w'.heap[g]? = w.heap[g]?) : RowL enc d e w' g n l := ⟨h.1, h.2.of_block hk⟩
theorem RowL.below {B : Nat} (h : RowL enc d e w g n l) (hb : Below B w w') (hg : g < B) : RowL enc d e w' g n l := h.block (hb.block g hg)
theorem RowL.later (h : RowL enc d e w g n l) (hb : Below w.heap.size w w') : RowL enc d e w' g n l := h.below hb h.lt
theorem RowL.alloc (h : RowL enc d e w g n l) (o : Obj) : RowL enc d e (w.alloc o) g n l := ⟨h.1, h.2.alloc o⟩
theorem RowL.far (h : RowL enc d e w g n l) {a : Addr} (ha : g ≠ a.block) (v : Value) : RowL enc d e (w.setCell a v) g n l := ⟨h.1, h.2.setOther ha v⟩
theorem RowL.grown {row : Option Nat} (h : RowL enc d e w g n l) (hg : w.grownBy w' row) (hne : row ≠ some g) : RowL enc d e w' g n l := h.block (hg.block g h.lt fun e => hne e.symm)
end
theorem RowL.of_z {w : World} {g n : Nat} {l : List Int} (h : RowZ w g n l) : RowL (Value.int .i64) 0 2 w g n l := h
/-- A row of bools. -/
abbrev RowB (w : World) (g n : Nat) (l : List Bool) : Prop := RowL Value.bool false 4 w g n l
theorem info_bool : (Try.prog.info? 4).map (fun i => (i.zero, i.size, i.bytes)) = some (some (.bool false), 1, 1) := by kernel_rfl
theorem RowB.made (w : World) (n : Nat) : RowB (w.alloc (.cells (madeCells (Value.cells (.bool false)) n) 4)) w.heap.size n (List.replicate n false) :=
  ⟨by simp, (rowIs_made _ _ _).congr fun i hi => by
    simp only [Value.cells, List.getD_eq_getElem?_getD]
    rw [List.getElem?_replicate, if_pos hi]
    show (#[Value.bool false] : Array Value)[i % 1]! = _
    rw [Nat.mod_one]; rfl⟩
theorem run_makeB (n : Nat) (hn : n ≤ 1048576) (w : World) : (Instr.makeSlice 66 (.int .i64 (n : Int)) (.int .i64 (n : Int))).run Try.prog w = .ok (.slice (some ⟨w.heap.size, 0, none⟩) n n) (w.alloc (.cells (madeCells (Value.cells (.bool false)) n) 4)) := by
  have := run_make_any (P := Try.prog) 66 4 _ 1 1 Try.underlying66 info_bool .i64 .i64 n (by omega) (by omega) w
  rwa [Nat.mul_one] at this
end Go.Proofs.Ytajcdaclbammaaa
