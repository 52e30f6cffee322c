/- Arrays of 256 bools of the call's own: marks of bytes. -/
import Derived.Test.YtajcdaclbammaaaSb
import Derived.Deep.WholeRow
namespace Go.Proofs.Ytajcdaclbammaaa
open Go.RowKit Go.BigFrame

/-- The marks of some bytes. -/
def mk (S : List UInt8) (i : Nat) : Value := .bool (S.any fun c => c.toNat == i)
theorem mk_byte (S : List UInt8) (c : UInt8) : mk S c.toNat = .bool (decide (c ∈ S)) := by
  unfold mk
  congr 1
  rw [Bool.eq_iff_iff, List.any_eq_true, decide_eq_true_eq]
  constructor
  · rintro ⟨x, hx, he⟩
    simp only [beq_iff_eq] at he
    rw [← UInt8.toNat_inj.1 he]; exact hx
  · exact fun h => ⟨c, h, by simp⟩
theorem mk_snoc (S : List UInt8) (c : UInt8) (i : Nat) : mk (S ++ [c]) i = if i = c.toNat then .bool true else mk S i := by
  unfold mk
  by_cases h : i = c.toNat
  · subst h; simp
  · rw [if_neg h]
    rw [List.any_append]
    have : ([c] : List UInt8).any (fun c => c.toNat == i) = false := by simp; exact fun e => h e.symm
    rw [this, Bool.or_false]
theorem mk_set {w : World} {g : Nat} {e : TypeId} {S : List UInt8} {c : UInt8} (h : w.rowIs g e 256 (mk S)) : (w.setCell ⟨g, c.toNat, none⟩ (.bool true)).rowIs g e 256 (mk (S ++ [c])) :=
  (h.set _ _).congr fun i _ => (mk_snoc S c i).symm
theorem mk_congr {w : World} {g : Nat} {e : TypeId} {S S' : List UInt8} (h : w.rowIs g e 256 (mk S)) (hS : ∀ c, c ∈ S ↔ c ∈ S') : w.rowIs g e 256 (mk S') := by
  refine h.congr fun i _ => ?_
  unfold mk
  congr 1
  rw [Bool.eq_iff_iff, List.any_eq_true, List.any_eq_true]
  exact ⟨fun ⟨x, hx, he⟩ => ⟨x, (hS x).1 hx, he⟩, fun ⟨x, hx, he⟩ => ⟨x, (hS x).2 hx, he⟩⟩
theorem mk_old {w : World} {g : Nat} {e : TypeId} {S : List UInt8} {c : UInt8} (h : w.rowIs g e 256 (mk S)) (hc : c ∈ S) : w.rowIs g e 256 (mk (S ++ [c])) :=
  mk_congr h fun x => by
    rw [List.mem_append, List.mem_singleton]
    exact ⟨.inl, fun h => h.elim id (fun e => e ▸ hc)⟩
theorem u8_lt (c : UInt8) : c.toNat < 256 := UInt8.toNat_lt c
end Go.Proofs.Ytajcdaclbammaaa
