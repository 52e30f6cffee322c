/- Contracts: texts split at a byte; words. -/
import Derived.Test.YtajcdaclbammaaaDoorSplt
import Derived.Test.YtajcdaclbammaaaDoorMem
namespace Go.Proofs.YtajcdaclbammaaaDoor
open Go.RowKit Go.BigFrame
attribute [local go_sem] sub_cell sub_frozen drewN_setCell

theorem info_text : (Tryd.prog.info? 9).map (fun i => (i.zero, i.size, i.bytes)) = some (some (.string ⟨#[]⟩), 1, 16) := by kernel_rfl
def tv (a : List UInt8) : Value := .string (sb a)
/-- A row of texts of the call's own. -/
def TRow (w : World) (base : Nat) (v : Value) (L : List (List UInt8)) : Prop := w.ownsRow base 9 1 v L.length (L.map tv)
section
variable {w w' : World} {base : Nat} {v : Value} {L : List (List UInt8)}
theorem TRow.later (h : TRow w base v L) (hb : Below w.heap.size w w') : TRow w' base v L :=
  World.ownsRow.kept h (⟨hb.os, hb.tape, hb.output, hb.size, fun k hk _ => hb.block k hk⟩ : World.grownBy _ _ none) (by cases (Value.ownBlock _) <;> simp)
theorem TRow.made (w : World) : TRow (w.alloc (.cells #[] 9)) w.heap.size (.slice (some ⟨w.heap.size, 0, none⟩) 0 0) [] := World.ownsRow_made w #[] 0 (Nat.le_refl _) (by decide) rfl
theorem TRow.snoc {v' : Value} {s : ByteArray} {a : List UInt8} (ha : s = sb a) (h : w'.ownsRow base 9 1 v' (L.length + 1) (L.map tv ++ [.string s])) : TRow w' base v' (L ++ [a]) := by
  unfold TRow
  rw [List.length_append, List.map_append]
  subst ha
  exact h
theorem TRow.form (h : TRow w base v L) : ∃ A cap, v = .slice A L.length cap ∧ ∀ j (hj : j < L.length), ∃ g, A = some ⟨g, 0, none⟩ ∧ g < w.heap.size ∧ w.cell? ⟨g, j, none⟩ = some (.string (sb L[j])) := by
  rcases h.2 with ⟨h1, h2⟩ | ⟨g, cap, cur, h1, h2, h3, h4, h5, h6, h7⟩
  · exact ⟨none, 0, by rw [h1, h2], fun j hj => absurd hj (by omega)⟩
  · refine ⟨_, cap, h1, fun j hj => ⟨g, rfl, (Array.getElem?_eq_some_iff.1 h3).1, ?_⟩⟩
    have : (cur.toList.take (L.length * 1))[j]? = (L.map tv)[j]? := by rw [h7]
    rw [List.getElem?_take, if_pos (by omega), List.getElem?_map, List.getElem?_eq_getElem hj] at this
    simp only [World.cell?, h3]
    simpa [tv] using this
end
/-- Fresh texts. -/
def StrsPost (L : List (List UInt8)) (w : World) (r : Ending) (w' : World) : Prop := ∃ v, r = .returned v ∧ TRow w' w.heap.size v L ∧ Below w.heap.size w w'
end Go.Proofs.YtajcdaclbammaaaDoor
