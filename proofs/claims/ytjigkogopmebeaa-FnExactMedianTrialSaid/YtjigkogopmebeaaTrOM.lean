/- A slice of tests that came in, read as data. -/
import Derived.Test.YtjigkogopmebeaaOpen
import Derived.Test.YtjigkogopmebeaaTw
import Derived.Test.YtjigkogopmebeaaTr
namespace Go.Proofs.Ytjigkogopmebeaa
open Go.RowKit Go.ChangeShapes Go.WideShapes Go.Deep

def InT (w : World) (A : Option Addr) (n : Nat) (l : List (Int × Int × Int)) : Prop :=
  Sl trc w w.heap.size 3 A n l ∧ (∀ x ∈ l, wf64 x.1 ∧ wf64 x.2.1 ∧ wf64 x.2.2) ∧ n ≤ maxLen

theorem trials_of {H : Type} {enc : TypeId × Value → H} {w : World} {spare : Nat → Bool} {held : Bool} {A : Option Addr} {n c : Nat} {d : DataW H} {p : List MemPlace}
    (h : DataW.Trod enc Try.prog w 0 spare held 22 (.slice A n c) d p) : ∃ l, InT w A n l := by
  obtain ⟨fuel, hf⟩ := h
  simp only [Value.cells] at hf
  exact sl_of_trod trc 3 (by omega) (fun x => wf64 x.1 ∧ wf64 x.2.1 ∧ wf64 x.2.2) Try.underlying22 (by kernel_rfl) trc_len (fun fuel cs y hy => by
    obtain ⟨hl, hj⟩ := fields_of_trod Try.underlying38 (by kernel_rfl) (by kernel_rfl) hy
    obtain ⟨v0, z0, n0, e0, t0⟩ := hj 0 _ rfl
    obtain ⟨v1, z1, n1, e1, t1⟩ := hj 1 _ rfl
    obtain ⟨v2, z2, n2, e2, t2⟩ := hj 2 _ rfl
    obtain ⟨s, hs, _, ws⟩ := DataW.trod_int Try.underlying2 t0
    obtain ⟨e, he, _, we⟩ := DataW.trod_int Try.underlying2 t1
    obtain ⟨t, ht, _, wt⟩ := DataW.trod_int Try.underlying2 t2
    simp only [List.cons.injEq, and_true] at hs he ht
    subst hs he ht
    refine ⟨(s, e, t), ?_, wf64_of ws, wf64_of we, wf64_of wt⟩
    match cs, hl with
    | [c0, c1, c2], _ => simp at e0 e1 e2; simp [trc, e0, e1, e2]) hf
end Go.Proofs.Ytjigkogopmebeaa
