/- From a reading of an argument to what the walks ask of it. Own lemmas. -/
import Derived.Test.YtkpnkilpaokkcaaMem
import Derived.Deep.Slices
import Derived.Deep.Fields
import Derived.ChangeArms
namespace Go.Proofs.Ytkpnkilpaokkcaa
open Go.RowKit Go.ChangeShapes Go.WideShapes Go.Deep

section
variable {H : Type} {enc : TypeId × Value → H} {P : Program} {w : World} {spare : Nat → Bool} {held : Bool}

/-- A slice argument: its elements, decoded one by one. -/
theorem sl_of_trod {α : Type} [Inhabited α] {t e : TypeId} {fuel n c : Nat} {A : Option Addr} {x : DataW H × List MemPlace} (f : α → List Value) (sz : Nat) (hsz : 0 < sz) (ok : α → Prop)
    (ht : P.underlying t = some (.slice e)) (hC : P.cellsOf e = sz) (hf : ∀ x, (f x).length = sz)
    (hdec : ∀ fuel cs y, DataW.trod enc P w 0 spare held fuel e cs = some y → ∃ x, f x = cs ∧ ok x)
    (h : DataW.trod enc P w 0 spare held fuel t [.slice A n c] = some x) : ∃ l : List α, Sl f w w.heap.size sz A n l ∧ (∀ x ∈ l, ok x) ∧ n ≤ maxLen := by
  rcases open_slice ht h with ⟨h0, _⟩ | ⟨a, len, cap, m, k, D, Pl, h0, hb, hl, hm, hmm, hx, hi⟩
  · simp only [List.cons.injEq, Value.slice.injEq, and_true] at h0
    obtain ⟨rfl, rfl, rfl⟩ := h0
    exact ⟨[], ⟨rfl, hf, by simp [Rd, flat]⟩, by simp, by simp [maxLen]⟩
  · simp only [List.cons.injEq, Value.slice.injEq, and_true] at h0
    obtain ⟨rfl, rfl, rfl⟩ := h0
    have hnm : n ≤ m := by rw [hmm]; split <;> omega
    have hall : ∀ i, i < n → ∃ x : α, ok x ∧ ∀ j v, (f x)[j]? = some v → w.cell? ((a.add (i * sz)).add j) = some v := fun i hin => by
      obtain ⟨cs, hc, htr⟩ := hi i (by omega)
      obtain ⟨x, rfl, hok⟩ := hdec _ _ _ htr
      rw [hC] at hc
      obtain ⟨_, hcl, hat⟩ := World.cells?_some hc
      refine ⟨x, hok, fun j v hv => ?_⟩
      have hj : j < sz := by rw [← hcl]; exact (List.getElem?_eq_some_iff.1 hv).1
      rw [hat j hj, hv]
    obtain ⟨F, hF⟩ := choose_lt hall
    refine ⟨(List.range n).map F, ⟨by simp, hf, ?_⟩, ?_, by omega⟩
    · refine ⟨by rw [flat_length hf]; simp, ?_⟩
      rcases Nat.eq_zero_or_pos n with h0 | h0
      · exact .inl h0
      · right
        have hl0 : 0 < (f (F 0)).length := by rw [hf]; exact hsz
        have c0 := (hF 0 h0).2 0 _ (List.getElem?_eq_getElem hl0)
        have ea : (a.add (0 * sz)).add 0 = a := by simp [Addr.add]
        rw [ea] at c0
        obtain ⟨b, o, sp⟩ := a
        obtain rfl : sp = none := by simpa using World.cell?_spot c0
        refine ⟨b, o, rfl, World.block_lt_of_cell? _ _ c0, fun i v hv => ?_⟩
        obtain ⟨q, j, y, rfl, hj, hy, hv'⟩ := flat_getInv hf _ _ hv
        have hq : q < n := by
          have := (List.getElem?_eq_some_iff.1 hy).1
          simpa using this
        have hy' : F q = y := by simpa [hq] using hy
        subst hy'
        have := (hF q hq).2 j v hv'
        rw [← this, add_add]
        unfold Addr.add
        split
        · rename_i e0
          rw [e0]; rfl
        · rfl
    · intro x hx
      simp only [List.mem_map, List.mem_range] at hx
      obtain ⟨i, hi, rfl⟩ := hx
      exact (hF i hi).1

/-- A struct's cells: each one-cell field read by itself. -/
theorem fields_of_trod {e : TypeId} {fs : Array Field} {fuel : Nat} {cs : List Value} {y : DataW H × List MemPlace} (he : P.underlying e = some (.struct fs)) (hone : oneCellFields P fs = true) (hC : P.cellsOf e = fs.size)
    (h : DataW.trod enc P w 0 spare held fuel e cs = some y) : cs.length = fs.size ∧ ∀ (j : Nat) (f : Field), fs[j]? = some f → ∃ v z n, cs[j]? = some v ∧ DataW.trod enc P w 0 spare held n f.type [v] = some z := by
  obtain ⟨ys, n, _, _, hlen, hyl, hf⟩ := DataW.trod_struct he h
  rw [hC] at hlen
  refine ⟨hlen, fun j f hj => ?_⟩
  obtain ⟨ho, hk⟩ := hone_of hone j f hj
  have hjl : j < fs.size := (Array.getElem?_eq_some_iff.1 hj).1
  have h1 := hf j f hj
  rw [ho, hk, List.drop_eq_getElem_cons (by omega)] at h1
  exact ⟨cs[j]'(by omega), ys[j]'(by omega), n, List.getElem?_eq_getElem _, h1.trans (List.getElem?_eq_getElem _)⟩
end
end Go.Proofs.Ytkpnkilpaokkcaa
