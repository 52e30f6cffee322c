/- What functions leave that return fresh int64s. -/
import Derived.Test.YtgigdipbfcffiaaI64
namespace Go.Proofs.Ytgigdipbfcffiaa
open Go.RowKit
/-- What a function leaves that returns fresh int64s alone. -/
def ZsPost (zs : List Int) (w : World) (r : Ending) (w' : World) : Prop :=
  ∃ A c, r = .returned (.slice A zs.length c) ∧ w'.ownsRow w.heap.size 2 1 (.slice A zs.length c) zs.length (zs.map (Value.int .i64)) ∧ Below w.heap.size w w'
theorem ZsPost.mk_ {zs : List Int} {w w' : World} {v : Value} {n : Nat} (hn : zs.length = n) (hown : w'.ownsRow w.heap.size 2 1 v n (zs.map (Value.int .i64))) (hb : Below w.heap.size w w') : ZsPost zs w (.returned v) w' := by
  subst hn
  obtain ⟨A, c, rfl⟩ := own_slice hown
  exact ⟨A, c, rfl, hown, hb⟩
theorem ZsPost.elim {zs : List Int} {n : Nat} {w w' : World} {r : Ending} (h : ZsPost zs w r w') (hn : zs.length = n) :
    ∃ A c, r = .returned (.slice A n c) ∧ w'.ownsRow w.heap.size 2 1 (.slice A n c) n (zs.map (Value.int .i64)) ∧ Below w.heap.size w w' := by subst hn; exact h
theorem own_base {w : World} {base base' n sz : Nat} {e : TypeId} {v : Value} {xs : List Value} (h : w.ownsRow base e sz v n xs) (hb : base' ≤ base) : w.ownsRow base' e sz v n xs := by
  refine ⟨h.1, ?_⟩
  rcases h.2 with h1 | ⟨g, cap, cur, hv, hg, r⟩
  · exact .inl h1
  · exact .inr ⟨g, cap, cur, hv, by omega, r⟩
end Go.Proofs.Ytgigdipbfcffiaa
