/- Rows of bytes of the call's own, and the text that is made of them. -/
import Derived.Test.YtkpnkilpaokkcaaSb
import Derived.Laws.IdiomStrings
import Derived.Laws.BytesArg
namespace Go.Proofs.Ytkpnkilpaokkcaa
open Go.RowKit Go.BigFrame

theorem info_uint8 : (Try.prog.info? 5).map (fun i => (i.zero, i.size, i.bytes)) = some (some (.int .u8 0), 1, 1) := by kernel_rfl
def bv (c : UInt8) : Value := .int .u8 (c.toNat : Int)
/-- A slice of bytes that the call has made. -/
def BRow (w : World) (base : Nat) (v : Value) (l : List UInt8) : Prop := w.ownsRow base 5 1 v l.length (l.map bv)
section
variable {w w' : World} {base : Nat} {v : Value} {l : List UInt8}
theorem BRow.later (h : BRow w base v l) (hb : Below w.heap.size w w') : BRow w' base v l :=
  World.ownsRow.kept h (⟨hb.os, hb.tape, hb.output, hb.size, fun k hk _ => hb.block k hk⟩ : World.grownBy _ _ none) (by cases (Value.ownBlock _) <;> simp)
theorem BRow.snoc {v' : Value} {c : UInt8} (h : w'.ownsRow base 5 1 v' (l.length + 1) (l.map bv ++ [.int .u8 (c.toNat : Int)])) : BRow w' base v' (l ++ [c]) := by
  unfold BRow
  rw [List.length_append, List.map_append]
  exact h
theorem BRow.made (w : World) : BRow (w.alloc (.cells #[] 5)) w.heap.size (.slice (some ⟨w.heap.size, 0, none⟩) 0 0) [] := World.ownsRow_made w #[] 0 (Nat.le_refl _) (by decide) rfl
theorem BRow.form (h : BRow w base v l) : (v = .slice none 0 0 ∧ l = []) ∨ ∃ g cap, v = .slice (some ⟨g, 0, none⟩) l.length cap ∧ base ≤ g ∧ g < w.heap.size ∧ ∀ j (hj : j < l.length), w.cell? ⟨g, j, none⟩ = some (.int .u8 (l[j].toNat : Int)) := by
  rcases h.2 with ⟨h1, h2⟩ | ⟨g, cap, cur, h1, h2, h3, h4, h5, h6, h7⟩
  · exact .inl ⟨h1, List.eq_nil_of_length_eq_zero h2⟩
  · refine .inr ⟨g, cap, h1, h2, (Array.getElem?_eq_some_iff.1 h3).1, fun j hj => ?_⟩
    have : (cur.toList.take (l.length * 1))[j]? = (l.map bv)[j]? := by rw [h7]
    rw [List.getElem?_take, if_pos (by omega), List.getElem?_map, List.getElem?_eq_getElem hj] at this
    simp only [World.cell?, h3]
    simpa [bv] using this
/-- The text of a row of bytes. -/
theorem BRow.text (h : BRow w base v l) : (convert 54 9 v).run Try.prog w = .ok (.string (sb l)) w := by
  rcases h.form with ⟨rfl, rfl⟩ | ⟨g, cap, rfl, _, _, hc⟩
  · have := run_convert_bytes_nil (P := Try.prog) (w := w) 54 5 Try.underlying54 Try.underlying5 0 0 9 Try.underlying9
    exact this
  · refine run_convert_bytes_back (P := Try.prog) w 54 9 5 ⟨g, 0, none⟩ cap l Try.underlying54 Try.underlying5 Try.underlying9 fun j hj => ?_
    rw [← hc j hj]
    congr 1
    unfold Addr.add
    split
    · rename_i h0; subst h0; rfl
    · simp
end
end Go.Proofs.Ytkpnkilpaokkcaa
