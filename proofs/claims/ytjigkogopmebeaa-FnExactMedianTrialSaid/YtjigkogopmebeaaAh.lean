/- A region that draws its order and calls functions that only lay new blocks: the class of worlds that are the first one, further drawn and grown. For closures that a sort calls. -/
import Derived.Test.YtjigkogopmebeaaSmI
import Derived.Test.YtjigkogopmebeaaTail
namespace Go.Proofs.Ytjigkogopmebeaa
open Go.RowKit Go.Shelf Go.Lib Go.Sort

/-- A world further drawn and grown. -/
structure Ahd (w : World) where
  v : World
  h : ∃ q os, v = grow (w.drewN q) os
instance ahd_some (w : World) : Nonempty (Ahd w) := ⟨⟨w, 0, #[], by rw [grow_empty]; rfl⟩⟩
theorem grow_drewN (w : World) (os : Array Obj) (q : Nat) : (grow w os).drewN q = grow (w.drewN q) os := rfl
theorem Ahd.more {w v' : World} (x : Ahd w) (h : ∃ q os, v' = grow (x.v.drewN q) os) : ∃ y : Ahd w, v' = y.v := by
  obtain ⟨v, q, os, rfl⟩ := x
  obtain ⟨q', os', rfl⟩ := h
  exact ⟨⟨grow ((grow (w.drewN q) os).drewN q') os', q + q', os ++ os', by rw [grow_drewN, grow_grow, World.drewN_drewN]⟩, rfl⟩
theorem wp_region_ahead {P : Program} {id : Nat} {Q : Exit → Act → World → Prop} {a : Act} {w : World} {l : List Oper} (hm : P.follows .mixedOrders = true) (hB : Region.lexB .any l.toArray = true)
    (h : wpQuiet P l.toArray (fun w' => ∃ x : Ahd w, w' = x.v) (fun a' => ∀ w', (∃ x : Ahd w, w' = x.v) → Q .normal a' w') l a) : (Code.region id l.toArray true).wp P Q a w :=
  wp_region_quiet (C := fun w' => ∃ x : Ahd w, w' = x.v) hm hB ⟨⟨w.drewN 1, 1, #[], by rw [grow_empty]⟩, rfl⟩ (by simpa using h)
theorem Ahd.size {w : World} (x : Ahd w) : w.heap.size ≤ x.v.heap.size := by
  obtain ⟨v, q, os, rfl⟩ := x
  rw [size_grow]; show w.heap.size ≤ w.heap.size + _; omega
theorem ah_cell {w : World} (x : Ahd w) {b o : Nat} (h : b < w.heap.size) : x.v.cell? ⟨b, o, none⟩ = w.cell? ⟨b, o, none⟩ := by
  obtain ⟨v, q, os, rfl⟩ := x
  exact cell?_grow _ _ _ h
theorem qAh {P : Program} {f : FuncId} {args : Array Value} {w : World} {x : Ahd w} {v : Value}
    (h : Calls P f args x.v fun e w' => e = .returned v ∧ ∃ q os, w' = grow (x.v.drewN q) os) : Calls P f args x.v fun e w'' => e = .returned v ∧ ∃ y : Ahd w, w'' = y.v :=
  h.mono fun _ _ h => ⟨h.1, x.more h.2⟩
theorem ahead_of_two {w : World} {o o' : Obj} : ∃ q os, (w.alloc o).alloc o' = grow (w.drewN q) os := ⟨0, #[o] ++ #[o'], by rw [alloc_eq_grow, alloc_eq_grow, grow_grow]; rfl⟩
end Go.Proofs.Ytjigkogopmebeaa
