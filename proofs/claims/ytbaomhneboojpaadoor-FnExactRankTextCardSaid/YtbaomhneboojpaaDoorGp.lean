/- Slices of slices of int64s that the call itself makes: the inner rows, each in a block of its own; cells of rows changed one by one. -/
import Derived.Test.YtbaomhneboojpaaDoorAp
import Derived.OneCell
namespace Go.Proofs.YtbaomhneboojpaaDoor
open Go.RowKit Go.BigFrame

/-- Inner rows of the call's own, no two of them in one block. -/
structure Groups (w : World) (base : Nat) (vs : List Value) (ls : List (List Int)) : Prop where
  len : vs.length = ls.length
  own : ∀ (k : Nat) (v : Value) (l : List Int), vs[k]? = some v → ls[k]? = some l → w.ownsRow base 2 1 v l.length (l.map (Value.int .i64))
  apart : ∀ (j k : Nat) (v u : Value), j ≠ k → vs[j]? = some v → vs[k]? = some u → v.ownBlock = none ∨ v.ownBlock ≠ u.ownBlock
section
variable {w w' : World} {base : Nat} {vs : List Value} {ls : List (List Int)}
theorem Groups.nil (w : World) (base : Nat) : Groups w base [] [] := ⟨rfl, by simp, by simp⟩
theorem Groups.get (h : Groups w base vs ls) {k : Nat} {l : List Int} (hl : ls[k]? = some l) : ∃ v, vs[k]? = some v ∧ w.ownsRow base 2 1 v l.length (l.map (Value.int .i64)) := by
  have hk : k < vs.length := by rw [h.len]; exact (List.getElem?_eq_some_iff.1 hl).1
  exact ⟨vs[k], List.getElem?_eq_getElem hk, h.own k _ l (List.getElem?_eq_getElem hk) hl⟩
theorem Groups.lt (h : Groups w base vs ls) {k g : Nat} {v : Value} (hv : vs[k]? = some v) (hg : v.ownBlock = some g) : base ≤ g ∧ g < w.heap.size := by
  have hk : k < ls.length := by rw [← h.len]; exact (List.getElem?_eq_some_iff.1 hv).1
  exact (h.own k v _ hv (List.getElem?_eq_getElem hk)).lt g hg
theorem Groups.kept {row : Option Nat} (h : Groups w base vs ls) (hg : w.grownBy w' row) (hne : ∀ (k : Nat) (v : Value), vs[k]? = some v → v.ownBlock = none ∨ v.ownBlock ≠ row) : Groups w' base vs ls :=
  ⟨h.len, fun k v l h1 h2 => World.ownsRow.kept (h.own k v l h1 h2) hg (hne k v h1), h.apart⟩
theorem Groups.below (h : Groups w base vs ls) (hb : Below w.heap.size w w') : Groups w' base vs ls := ⟨h.len, fun k v l h1 h2 => own_below (h.own k v l h1 h2) hb, h.apart⟩
theorem Groups.alloc (h : Groups w base vs ls) (o : Obj) : Groups (w.alloc o) base vs ls := ⟨h.len, fun k v l h1 h2 => (h.own k v l h1 h2).alloc o, h.apart⟩
theorem Groups.far (h : Groups w base vs ls) {a : Addr} (ha : ∀ (k : Nat) (v : Value), vs[k]? = some v → v.ownBlock ≠ some a.block) (u : Value) : Groups (w.setCell a u) base vs ls :=
  ⟨h.len, fun k v l h1 h2 => ownsRow_setCell_other (h.own k v l h1 h2) (ha k v h1) u, h.apart⟩
theorem Groups.more {base' : Nat} (h : Groups w base vs ls) (hb : base' ≤ base) : Groups w base' vs ls := ⟨h.len, fun k v l h1 h2 => by
  have := h.own k v l h1 h2
  refine ⟨this.1, ?_⟩
  rcases this.2 with h1 | ⟨g, cap, cur, hv, hg, r⟩
  · exact .inl h1
  · exact .inr ⟨g, cap, cur, hv, by omega, r⟩, h.apart⟩
theorem own_ne_kind {w : World} {base n sz g : Nat} {e e' : TypeId} {v : Value} {xs : List Value} {C : Array Value} {fz : Nat × Nat} (h : w.ownsRow base e sz v n xs) (hr : w.heap[g]? = some (.cells C e' fz)) (hne : e ≠ e') : v.ownBlock ≠ some g := by
  intro hk
  rcases h.2 with ⟨rfl, _⟩ | ⟨g', cap, cur, rfl, _, hg, _⟩
  · simp [Value.ownBlock] at hk
  · simp only [Value.ownBlock, Option.some.injEq] at hk
    subst hk
    rw [hg] at hr
    simp only [Option.some.injEq, Obj.cells.injEq] at hr
    exact hne hr.2.1
/-- A row of another kind shares no block with them. -/
theorem Groups.ne_kind {b n sz g : Nat} {e : TypeId} {c : Nat} {xs : List Value} (h : Groups w base vs ls) (ho : w.ownsRow b e sz (.slice (some ⟨g, 0, none⟩) n c) n xs) (hne : (2 : TypeId) ≠ e) : ∀ (k : Nat) (v : Value), vs[k]? = some v → v.ownBlock ≠ some g := by
  intro k v hv
  have hk : k < ls.length := by rw [← h.len]; exact (List.getElem?_eq_some_iff.1 hv).1
  rcases ho.2 with ⟨h0, _⟩ | ⟨g', cap, cur, h0, _, hh, _⟩
  · simp at h0
  · simp only [Value.slice.injEq, Option.some.injEq, Addr.mk.injEq, and_true] at h0
    obtain ⟨rfl, _⟩ := h0
    exact own_ne_kind (h.own k v _ hv (List.getElem?_eq_getElem hk)) hh hne
theorem Groups.push {v : Value} {l : List Int} (h : Groups w base vs ls) (hv : w.ownsRow base 2 1 v l.length (l.map (Value.int .i64))) (hsep : ∀ (k : Nat) (u : Value), vs[k]? = some u → (u.ownBlock = none ∨ u.ownBlock ≠ v.ownBlock) ∧ (v.ownBlock = none ∨ v.ownBlock ≠ u.ownBlock)) : Groups w base (vs ++ [v]) (ls ++ [l]) := by
  have hl := h.len
  refine ⟨by simp [hl], fun k x m h1 h2 => ?_, fun j k x y hjk h1 h2 => ?_⟩
  · rcases Nat.lt_trichotomy k vs.length with c | c | c
    · rw [List.getElem?_append_left c] at h1
      rw [List.getElem?_append_left (by omega)] at h2
      exact h.own k x m h1 h2
    · subst c
      rw [List.getElem?_concat_length] at h1
      rw [hl, List.getElem?_concat_length] at h2
      obtain rfl := Option.some.inj h1
      obtain rfl := Option.some.inj h2
      exact hv
    · rw [List.getElem?_eq_none (by simp; omega)] at h1; cases h1
  · have cs : ∀ (q : Nat) (z : Value), (vs ++ [v])[q]? = some z → vs[q]? = some z ∨ (q = vs.length ∧ v = z) := fun q z hz => by
      rcases Nat.lt_trichotomy q vs.length with c | c | c
      · rw [List.getElem?_append_left c] at hz; exact .inl hz
      · subst c; rw [List.getElem?_concat_length] at hz; exact .inr ⟨rfl, Option.some.inj hz⟩
      · rw [List.getElem?_eq_none (by simp; omega)] at hz; cases hz
    rcases cs j x h1 with a | ⟨a, rfl⟩ <;> rcases cs k y h2 with b | ⟨b, rfl⟩
    · exact h.apart j k x y hjk a b
    · exact (hsep j x a).1
    · exact (hsep k y b).2
    · omega
/-- The k-th row is written to, or moved. -/
theorem Groups.put {k : Nat} {v v' : Value} {l' : List Int} (h : Groups w base vs ls) (hk : vs[k]? = some v) (hg : w.grownBy w' v.ownBlock) (ho : w'.ownsRow base 2 1 v' l'.length (l'.map (Value.int .i64))) (hat : v'.ownBlock = v.ownBlock ∨ ∃ N, v'.ownBlock = some N ∧ w.heap.size ≤ N) : Groups w' base (vs.set k v') (ls.set k l') := by
  have hl := h.len
  have hkl : k < vs.length := (List.getElem?_eq_some_iff.1 hk).1
  have sep : ∀ (q : Nat) (u : Value), q ≠ k → vs[q]? = some u → (v'.ownBlock = none ∨ v'.ownBlock ≠ u.ownBlock) ∧ (u.ownBlock = none ∨ u.ownBlock ≠ v'.ownBlock) := fun q u hq hu => by
    have a1 := h.apart k q v u (fun e => hq e.symm) hk hu
    have a2 := h.apart q k u v hq hu hk
    rcases hat with e | ⟨N, e, hN⟩
    · rw [e]; exact ⟨a1, a2⟩
    · cases hub : u.ownBlock with
      | none => exact ⟨.inr (by rw [e]; simp), .inl rfl⟩
      | some g =>
        have := (h.lt hu hub).2
        exact ⟨.inr (by rw [e]; simp; omega), .inr (by rw [e]; simp; omega)⟩
  refine ⟨by simp [hl], fun q x m h1 h2 => ?_, fun j q x y hjq h1 h2 => ?_⟩
  · by_cases c : q = k
    · subst c
      rw [List.getElem?_set_self hkl] at h1
      rw [List.getElem?_set_self (by omega)] at h2
      obtain rfl := Option.some.inj h1
      obtain rfl := Option.some.inj h2
      exact ho
    · rw [List.getElem?_set_ne (fun e => c e.symm)] at h1 h2
      exact World.ownsRow.kept (h.own q x m h1 h2) hg (h.apart q k x v c h1 hk)
  · by_cases c1 : j = k
    · subst c1
      rw [List.getElem?_set_self hkl] at h1
      obtain rfl := Option.some.inj h1
      rw [List.getElem?_set_ne hjq] at h2
      exact (sep q y (fun e => hjq e.symm) h2).1
    · rw [List.getElem?_set_ne (fun e => c1 e.symm)] at h1
      by_cases c2 : q = k
      · subst c2
        rw [List.getElem?_set_self hkl] at h2
        obtain rfl := Option.some.inj h2
        exact (sep j x c1 h1).2
      · rw [List.getElem?_set_ne (fun e => c2 e.symm)] at h2
        exact h.apart j q x y hjq h1 h2
end
/-- A row that a literal of one number makes. -/
theorem own_lit {w : World} {base : Nat} (hb : base ≤ w.heap.size) (z : Int) : (w.alloc (.cells #[.int .i64 z] 2)).ownsRow base 2 1 (.slice (some ⟨w.heap.size, 0, none⟩) 1 1) 1 [.int .i64 z] :=
  ⟨rfl, .inr ⟨w.heap.size, 1, _, rfl, hb, heap_alloc_new w _, Nat.le_refl _, by simp [maxLen], rfl, rfl⟩⟩
/-- One cell of a row of the call's own is written. -/
theorem own_setAt {w : World} {base n c g sz j : Nat} {e : TypeId} {xs : List Value} (h : w.ownsRow base e sz (.slice (some ⟨g, 0, none⟩) n c) n xs) (_hj : j < n * sz) (u : Value) : (w.setCell ⟨g, j, none⟩ u).ownsRow base e sz (.slice (some ⟨g, 0, none⟩) n c) n (xs.set j u) := by
  refine ⟨by rw [List.length_set]; exact h.1, ?_⟩
  rcases h.2 with ⟨h0, _⟩ | ⟨g', cap, cur, h0, hg, hh, h1, h2, h3, h4⟩
  · simp at h0
  · simp only [Value.slice.injEq, Option.some.injEq, Addr.mk.injEq, and_true, true_and] at h0
    obtain ⟨rfl, rfl⟩ := h0
    refine .inr ⟨g, c, cur.setIfInBounds j u, rfl, hg, ?_, h1, h2, by simpa using h3, ?_⟩
    · simp [World.setCell, Array.getElem?_modify, hh]
    · rw [← h4, Array.toList_setIfInBounds, List.take_set]
theorem flat_setC {α : Type} {f : α → List Value} {sz : Nat} (hf : ∀ x, (f x).length = sz) {l : List α} {k j : Nat} {x x' : α} {u : Value} (hk : l[k]? = some x) (hj : j < sz) (hx : f x' = (f x).set j u) : flat f (l.set k x') = (flat f l).set (k * sz + j) u := by
  induction l generalizing k with
  | nil => simp at hk
  | cons a l ih =>
    cases k with
    | zero =>
      simp only [List.getElem?_cons_zero, Option.some.injEq] at hk
      subst hk
      simp only [flat, List.set_cons_zero, List.flatMap_cons]
      rw [hx, List.set_append_left _ _ (by rw [hf]; omega), Nat.zero_mul, Nat.zero_add]
    | succ k =>
      simp only [List.getElem?_cons_succ] at hk
      have := ih hk
      simp only [flat, List.set_cons_succ, List.flatMap_cons] at this ⊢
      rw [this, List.set_append_right _ _ (by rw [hf, Nat.succ_mul]; omega)]
      congr 2
      rw [hf, Nat.succ_mul]; omega
theorem flat_snoc {α : Type} (f : α → List Value) (l : List α) (x : α) : flat f (l ++ [x]) = flat f l ++ f x := by simp [flat]
end Go.Proofs.YtbaomhneboojpaaDoor
