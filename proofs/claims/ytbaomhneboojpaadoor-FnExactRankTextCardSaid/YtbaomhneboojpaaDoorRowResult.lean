/- Slices of Result: a row of the call's own, as a slice to be read (for seats without marks of results). -/
import Derived.Test.YtbaomhneboojpaaDoorSlResult
namespace Go.Proofs.YtbaomhneboojpaaDoor
open Go.RowKit Go.BigFrame

/-- A row of the call's own, as a slice to be read. -/
theorem result_own {w : World} {base n c : Nat} {A : Option Addr} {e : TypeId} {l : List TResult} (hl : l.length = n) (h : w.ownsRow base e 3 (.slice A n c) n (flat resultC l)) : Sl resultC w w.heap.size 3 A n l := ⟨hl, resultC_len, Rd.of_own h⟩
theorem result_slOwn {w : World} {g n base : Nat} {e : TypeId} {l : List TResult} (h : OwnSl resultC w g e 3 l) (hl : l.length = n) (hb : base ≤ g) (hn : n ≤ maxLen) : w.ownsRow base e 3 (.slice (some ⟨g, 0, none⟩) n n) n (flat resultC l) := by
  subst hl
  obtain ⟨_, cs, h1, h2, h3⟩ := h
  have hfl := flat_length resultC_len l
  refine ⟨hfl, .inr ⟨g, l.length, cs, rfl, hb, h1, Nat.le_refl _, hn, by omega, ?_⟩⟩
  apply List.ext_getElem?
  intro i
  rw [List.getElem?_take]
  by_cases hi : i < l.length * 3
  · have h4 := h3 i hi
    rw [if_pos hi, Array.getElem?_toList, h4]
    have hlt : i < (flat resultC l).length := by omega
    simp [List.getElem?_eq_getElem hlt]
  · rw [if_neg hi, List.getElem?_eq_none (by omega)]
end Go.Proofs.YtbaomhneboojpaaDoor
