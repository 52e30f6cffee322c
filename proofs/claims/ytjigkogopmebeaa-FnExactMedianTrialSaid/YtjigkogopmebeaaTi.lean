/- Slices of int64 that came in: their mirrors; a mirror as a row of one's own. -/
import Derived.Test.YtjigkogopmebeaaI64
import Derived.Test.YtjigkogopmebeaaTw
import Derived.Test.YtjigkogopmebeaaOpen
namespace Go.Proofs.Ytjigkogopmebeaa
open Go.RowKit Go.BigFrame
attribute [local go_sem] sub_cell sub_frozen drewN_setCell

theorem own_ne_row {w : World} {base n m sz g : Nat} {e e' : TypeId} {v : Value} {xs : List Value} {f : Nat → Value} (h : w.ownsRow base e sz v n xs) (hr : w.rowIs g e' m f) (hne : e ≠ e') : v.ownBlock ≠ some g := by
  intro hk
  rcases h.2 with ⟨rfl, _⟩ | ⟨g', cap, cur, rfl, _, hg, _⟩
  · simp [Value.ownBlock] at hk
  · simp only [Value.ownBlock, Option.some.injEq] at hk
    subst hk
    obtain ⟨cs, h1, _⟩ := hr
    rw [hg] at h1
    simp only [Option.some.injEq, Obj.cells.injEq] at h1
    exact hne h1.2.1
theorem own_ne_cells {w : World} {base n sz g : Nat} {e e' : TypeId} {v : Value} {xs : List Value} {C : Array Value} {fz : Nat × Nat} (h : w.ownsRow base e sz v n xs) (hr : w.heap[g]? = some (.cells C e' fz)) (hne : e ≠ e') : v.ownBlock ≠ some g := by
  intro hk
  rcases h.2 with ⟨rfl, _⟩ | ⟨g', cap, cur, rfl, _, hg, _⟩
  · simp [Value.ownBlock] at hk
  · simp only [Value.ownBlock, Option.some.injEq] at hk
    subst hk
    rw [hg] at hr
    simp only [Option.some.injEq, Obj.cells.injEq] at hr
    exact hne hr.2.1
theorem cells_grown {w w' : World} {row : Option Nat} {g : Nat} {o : Obj} (h : w.heap[g]? = some o) (hg : w.grownBy w' row) (hne : row ≠ some g) : w'.heap[g]? = some o :=
  (hg.block g (Array.getElem?_eq_some_iff.1 h).1 (fun e => hne e.symm)).trans h
theorem row_grown {w w' : World} {row : Option Nat} {g n : Nat} {e : TypeId} {f : Nat → Value} (h : w.rowIs g e n f) (hg : w.grownBy w' row) (hne : row ≠ some g) : w'.rowIs g e n f :=
  h.of_block (hg.block g h.lt (fun e => hne e.symm))
open Go.ChangeShapes Go.WideShapes Go.Deep
/-- A mirror of int64s, as a row of the call's own. -/
theorem OwnSl.own {w : World} {g n base : Nat} {e : TypeId} {l : List Int} (h : OwnSl ic w g e 1 l) (hl : l.length = n) (hb : base ≤ g) (hn : n ≤ maxLen) : w.ownsRow base e 1 (.slice (some ⟨g, 0, none⟩) n n) n (l.map (Value.int .i64)) := by
  subst hl
  obtain ⟨_, cs, h1, h2, h3⟩ := h
  rw [Nat.mul_one] at h2 h3
  refine ⟨by simp, .inr ⟨g, l.length, cs, rfl, hb, h1, Nat.le_refl _, hn, by omega, ?_⟩⟩
  apply List.ext_getElem?
  intro i
  simp only [List.getElem?_take, List.getElem?_map, Nat.mul_one]
  by_cases hi : i < l.length
  · have h4 := h3 i hi
    rw [flat_ic] at h4
    simp [hi] at h4 ⊢
    exact h4
  · simp [hi]
def InZ (w : World) (A : Option Addr) (n : Nat) (l : List Int) : Prop := Zs w A n l ∧ (∀ x ∈ l, wf64 x) ∧ n ≤ maxLen
theorem intsIn_of {H : Type} {enc : TypeId × Value → H} {w : World} {spare : Nat → Bool} {held : Bool} {A : Option Addr} {n c : Nat} {d : DataW H} {p : List MemPlace}
    (h : DataW.Trod enc Try.prog w 0 spare held 31 (.slice A n c) d p) : ∃ l, InZ w A n l := by
  obtain ⟨fuel, hf⟩ := h
  simp only [Value.cells] at hf
  exact sl_of_trod ic 1 (by omega) wf64 Try.underlying31 (by kernel_rfl) ic_len (fun fuel cs y hy => by
    obtain ⟨z, hz, _, wz⟩ := DataW.trod_int Try.underlying2 hy
    exact ⟨z, hz.symm, wf64_of wz⟩) hf
end Go.Proofs.Ytjigkogopmebeaa
