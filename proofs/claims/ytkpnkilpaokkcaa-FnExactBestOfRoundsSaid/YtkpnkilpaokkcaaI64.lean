/- Slices of int64: the laws' helpers (equal, marked, held). -/
import Derived.Test.YtkpnkilpaokkcaaMem
namespace Go.Proofs.Ytkpnkilpaokkcaa
open Go.RowKit Go.BigFrame
attribute [local go_sem] sub_cell sub_frozen drewN_setCell

def ic (z : Int) : List Value := [.int .i64 z]
theorem ic_len (z : Int) : (ic z).length = 1 := rfl
/-- A slice of int64 that is read. -/
abbrev Zs (w : World) (A : Option Addr) (n : Nat) (l : List Int) : Prop := Sl ic w w.heap.size 1 A n l
theorem flat_ic (l : List Int) : flat ic l = l.map (Value.int .i64) := by
  induction l with
  | nil => rfl
  | cons a l ih =>
    simp only [flat, List.flatMap_cons, List.map_cons] at *
    rw [ih]
    rfl
/-- In a later world: element k. -/
theorem z_at {w wr : World} {A : Option Addr} {n k : Nat} {l : List Int} (h : Zs w A n l) (hb : Below w.heap.size w wr) (hk : k < n) :
    ∃ b o z, A = some ⟨b, o, none⟩ ∧ b < wr.heap.size ∧ b < w.heap.size ∧ l[k]? = some z ∧ wr.cell? ⟨b, o + k, none⟩ = some (.int .i64 z) := by
  obtain ⟨b, o, z, hA, hlt, hx, hc⟩ := h.at_ hk
  have := hb.size
  have c0 := hc 0 _ rfl
  rw [Nat.mul_one, Nat.add_zero] at c0
  exact ⟨b, o, z, hA, by omega, hlt, hx, (hb.cell (p := ⟨b, o + k, none⟩) hlt).trans c0⟩
theorem z_of_own {w : World} {base c n : Nat} {A : Option Addr} {e : TypeId} {l : List Int} (h : w.ownsRow base e 1 (.slice A n c) l.length (l.map (Value.int .i64))) : n = l.length ∧ Zs w A l.length l := by
  have hn : n = l.length := by
    rcases h.2 with ⟨h1, h2⟩ | ⟨g, cap, cur, h1, _⟩
    · simp only [Value.slice.injEq] at h1
      omega
    · simp only [Value.slice.injEq] at h1
      exact h1.2.1
  subst hn
  exact ⟨rfl, rfl, ic_len, by rw [flat_ic]; exact Rd.of_own h⟩
theorem own_slice {w : World} {base n sz : Nat} {e : TypeId} {v : Value} {xs : List Value} (h : w.ownsRow base e sz v n xs) : ∃ A c, v = .slice A n c := by
  rcases h.2 with ⟨h1, h2⟩ | ⟨g, cap, cur, h1, _⟩
  · exact ⟨none, 0, by rw [h1, h2]⟩
  · exact ⟨_, _, h1⟩

theorem info_int64 : (Try.prog.info? 2).map (fun i => (i.zero, i.size, i.bytes)) = some (some (.int .i64 0), 1, 8) := by kernel_rfl


/-- k, k + 1, .. : n numbers. -/
def upN (k : Int) (n : Nat) : List Int := (List.range n).map fun (i : Nat) => k + (i : Int)
theorem upN_len (k : Int) (n : Nat) : (upN k n).length = n := by simp [upN]
theorem upN_get {k : Int} {n i : Nat} {z : Int} (h : (upN k n)[i]? = some z) : z = k + i := by
  simp only [upN, List.getElem?_map, Option.map_eq_some_iff] at h
  obtain ⟨j, hj, rfl⟩ := h
  rw [List.getElem?_range] at hj
  · simp only [Option.some.injEq] at hj
    rw [hj]
  · rcases Nat.lt_or_ge i n with h | h
    · exact h
    · rw [List.getElem?_eq_none (by simpa using h)] at hj
      cases hj


theorem grown_refl (w : World) (row : Option Nat) : w.grownBy w row := ⟨rfl, rfl, rfl, Nat.le_refl _, fun _ _ _ => rfl⟩
theorem only_setCell {a w : World} {g : Nat} (h : a.grownBy w (some g)) (o : Nat) (u : Value) : a.grownBy (w.setCell ⟨g, o, none⟩ u) (some g) :=
  ⟨h.os, h.tape, h.output, by simpa [World.setCell] using h.size, fun i hi hne => (Below.heap_setCell w ⟨g, o, none⟩ u i (by rintro rfl; exact hne rfl)).trans (h.block i hi hne)⟩


/-- What a function leaves that returns fresh int64s and a code. -/
def IntsPost (zs : List Int) (code : Int) (w : World) (r : Ending) (w' : World) : Prop :=
  ∃ A c, r = .returned (.tuple #[.slice A zs.length c, .int .i64 code]) ∧ w'.ownsRow w.heap.size 2 1 (.slice A zs.length c) zs.length (zs.map (Value.int .i64)) ∧ Below w.heap.size w w'
theorem IntsPost.mk_ {zs : List Int} {code : Int} {w w' : World} {v : Value} {n : Nat} (hn : zs.length = n) (hown : w'.ownsRow w.heap.size 2 1 v n (zs.map (Value.int .i64))) (hb : Below w.heap.size w w') : IntsPost zs code w (.returned (.tuple #[v, .int .i64 code])) w' := by
  subst hn
  obtain ⟨A, c, rfl⟩ := own_slice hown
  exact ⟨A, c, rfl, hown, hb⟩
theorem own_below {w w' : World} {base n sz : Nat} {e : TypeId} {v : Value} {xs : List Value} (h : w.ownsRow base e sz v n xs) (hb : Below w.heap.size w w') : w'.ownsRow base e sz v n xs :=
  World.ownsRow.kept h (⟨hb.os, hb.tape, hb.output, hb.size, fun k hk _ => hb.block k hk⟩ : World.grownBy _ _ none) (by cases (Value.ownBlock _) <;> simp)
theorem own_mark {w w' : World} {base n sz : Nat} {row : Option Nat} {e : TypeId} {v : Value} {xs : List Value} (h : w.ownsRow base e sz v n xs) (hg : w.grownBy w' row) (hne : v.ownBlock ≠ row) : w'.ownsRow base e sz v n xs :=
  World.ownsRow.kept h hg (.inr hne)
/-- A block that is younger than the row, or older than all of the row's own. -/
theorem own_ne_young {w : World} {base n sz g : Nat} {e : TypeId} {v : Value} {xs : List Value} (h : w.ownsRow base e sz v n xs) (hg : w.heap.size ≤ g) : v.ownBlock ≠ some g := by
  intro e
  have := (h.lt g e).2
  omega
theorem own_ne_old {w : World} {base n sz g : Nat} {e : TypeId} {v : Value} {xs : List Value} (h : w.ownsRow base e sz v n xs) (hg : g < base) : v.ownBlock ≠ some g := by
  intro e
  have := (h.lt g e).1
  omega
theorem own_ne_own {w : World} {base base' n n' sz sz' B : Nat} {e e' : TypeId} {v v' : Value} {xs xs' : List Value} (_h : w.ownsRow base e sz v n xs) (h' : w.ownsRow base' e' sz' v' n' xs') (hold : ∀ k, v.ownBlock = some k → k < B) (hB : B ≤ base') (hv : v.ownBlock ≠ none ∨ v'.ownBlock ≠ none) : v.ownBlock ≠ v'.ownBlock := by
  intro e
  cases hk : v.ownBlock with
  | none => rw [← e, hk] at hv; simp at hv
  | some k =>
    have h1 := hold k hk
    have h2 := (h'.lt k (by rw [← e, hk])).1
    omega
theorem grown_none_below {w w' : World} {row : Option Nat} (hg : w.grownBy w' row) (hr : row = none) : Below w.heap.size w w' := by
  subst hr
  exact ⟨hg.os, hg.tape, hg.output, hg.size, fun k hk => hg.block k hk (by simp)⟩
/-- A row of the call's own, while another, younger row is marked. -/
theorem own_mark_young {w w' : World} {base base' n n' sz sz' B : Nat} {e e' : TypeId} {v v' : Value} {xs xs' : List Value} (h : w.ownsRow base e sz v n xs) (hg : w.grownBy w' v'.ownBlock) (h' : w.ownsRow base' e' sz' v' n' xs') (hold : ∀ k, v.ownBlock = some k → k < B) (hB : B ≤ base') : w'.ownsRow base e sz v n xs := by
  cases hk : v'.ownBlock with
  | none => exact own_below h (grown_none_below hg hk)
  | some g => exact own_mark h hg (own_ne_own h h' hold hB (.inr (by rw [hk]; simp)))
theorem own_lt {w : World} {base n sz : Nat} {e : TypeId} {v : Value} {xs : List Value} (h : w.ownsRow base e sz v n xs) : ∀ k, v.ownBlock = some k → k < w.heap.size := fun k hk => (h.lt k hk).2
theorem below_mark {w a w' : World} {B base n sz : Nat} {e : TypeId} {v : Value} {xs : List Value} (hb : Below B a w) (hg : w.grownBy w' v.ownBlock) (h : w.ownsRow base e sz v n xs) (hB : B ≤ base) (hBw : B ≤ w.heap.size) : Below B a w' :=
  hb.grown hg hBw fun k hk => Nat.le_trans hB (h.lt k hk).1
/-- n int64s of a row of the call's own, as a slice to be read. -/
theorem z_own {w : World} {base c : Nat} {A : Option Addr} {e : TypeId} {l : List Int} (h : w.ownsRow base e 1 (.slice A l.length c) l.length (l.map (Value.int .i64))) : Zs w A l.length l := (z_of_own h).2
theorem z_held {w : World} {base n c : Nat} {k : Int} {A : Option Addr} {e : TypeId} (h : w.ownsRow base e 1 (.slice A n c) n ((upN k n).map (Value.int .i64))) : Zs w A n (upN k n) := by
  have h1 := upN_len k n
  generalize hl : upN k n = l at h h1 ⊢
  subst h1
  exact z_own h
end Go.Proofs.Ytkpnkilpaokkcaa
