/- Contract: spec.l22Groups. -/
import Derived.Test.YtgdmiddiaogpaaaPl2
namespace Go.Proofs.Ytgdmiddiaogpaaa
open Go.RowKit Go.BigFrame
attribute [local go_sem] sub_cell sub_frozen drewN_setCell

theorem own_drew {w : World} {b n s : Nat} {e : TypeId} {v : Value} {xs : List Value} (h : w.ownsRow b e s v n xs) : w.drew.ownsRow b e s v n xs := h
/-- An older row stays while a younger one is added to. -/
theorem own_elder0 {w9 w' : World} {b n s N : Nat} {e : TypeId} {v v0 : Value} {xs : List Value} {o : Obj} (ho : w9.ownsRow b e s v n xs) (hlt : ∀ g, v.ownBlock = some g → g < N) (hge : ∀ g, v0.ownBlock = some g → N ≤ g) (hg : (w9.alloc o).grownBy w' v0.ownBlock) : w'.ownsRow b e s v n xs := by
  refine World.ownsRow.kept (ho.alloc o) hg ?_
  cases h : v.ownBlock with
  | none => exact .inl rfl
  | some g =>
    right
    intro e
    have h1 := hlt g h
    have h2 := hge g e.symm
    omega
theorem info_intsS : (Try.prog.info? 40).map (fun i => (i.zero, i.size, i.bytes)) = some (some (.slice none 0 0), 1, 24) := by kernel_rfl
theorem ints_ne : (2 : TypeId) ≠ 40 := by decide
/-- Groups in memory, to be read. -/
structure GrpIn (N : Nat) (wr : World) (G m c : Nat) (gs : List (List Nat)) (vs : List Value) : Prop where
  out : wr.ownsRow N 40 1 (.slice (some ⟨G, 0, none⟩) m c) m vs
  grp : Groups wr N vs (gs.map zl)
  len : gs.length = m
section
variable {N G m c : Nat} {wr w' : World} {gs : List (List Nat)} {vs : List Value}
theorem GrpIn.later (h : GrpIn N wr G m c gs vs) (hb : Below wr.heap.size wr w') : GrpIn N w' G m c gs vs := ⟨own_below h.out hb, h.grp.below hb, h.len⟩
theorem GrpIn.alloc (h : GrpIn N wr G m c gs vs) (o : Obj) : GrpIn N (wr.alloc o) G m c gs vs := ⟨h.out.alloc o, h.grp.alloc o, h.len⟩
theorem GrpIn.vlen (h : GrpIn N wr G m c gs vs) : vs.length = m := by rw [h.grp.len, List.length_map]; exact h.len
theorem GrpIn.far (h : GrpIn N wr G m c gs vs) {a : Addr} (ha : a.block < N) (u : Value) : GrpIn N (wr.setCell a u) G m c gs vs :=
  ⟨ownsRow_setCell_other h.out (own_ne_old h.out ha) u, h.grp.far (fun k v hv e => by have := (h.grp.lt hv e).1; omega) u, h.len⟩
theorem GrpIn.at_ {j : Nat} {g : List Nat} (h : GrpIn N wr G m c gs vs) (hj : gs[j]? = some g) (hg : g ≠ []) :
    ∃ gb cap, wr.cell? ⟨G, j, none⟩ = some (.slice (some ⟨gb, 0, none⟩) g.length cap) ∧ N ≤ gb ∧ gb < wr.heap.size ∧ vs[j]? = some (.slice (some ⟨gb, 0, none⟩) g.length cap) := by
  obtain ⟨v, hv, ho⟩ := h.grp.get (k := j) (l := zl g) (by simp [hj])
  rw [zl_len] at ho
  obtain ⟨gb, cap, rfl, h1, h2⟩ := ho.form (List.length_pos_iff.2 hg)
  exact ⟨gb, cap, own_cell h.out hv, h1, h2, hv⟩
theorem GrpIn.elem {j gb cap q i : Nat} {g : List Nat} (h : GrpIn N wr G m c gs vs) (hj : gs[j]? = some g) (hv : vs[j]? = some (.slice (some ⟨gb, 0, none⟩) g.length cap)) (hq : g[q]? = some i) : wr.cell? ⟨gb, q, none⟩ = some (.int .i64 (i : Int)) := by
  have ho := h.grp.own j _ (zl g) hv (by simp [hj])
  rw [zl_len] at ho
  exact own_cell ho (by rw [List.getElem?_map, zl_get hq]; rfl)
theorem GrpIn.push {i : Nat} {v' : Value} {w9 : World} (h : GrpIn N w9 G m c gs vs) (hN : N ≤ w9.heap.size)
    (hown : w'.ownsRow N 40 1 v' (m + 1) (vs ++ [.slice (some ⟨w9.heap.size, 0, none⟩) 1 1]))
    (hg : (w9.alloc (.cells #[.int .i64 (i : Int)] 2)).grownBy w' (some G)) :
    ∃ G' c', v' = .slice (some ⟨G', 0, none⟩) (m + 1) c' ∧ GrpIn N w' G' (m + 1) c' (gs ++ [[i]]) (vs ++ [.slice (some ⟨w9.heap.size, 0, none⟩) 1 1]) := by
  obtain ⟨G', c', hv, _, _⟩ := hown.form (by omega)
  subst hv
  refine ⟨G', c', rfl, ⟨hown, ?_, by simp [h.len]⟩⟩
  rw [List.map_append, List.map_singleton]
  have g1 := (h.grp.alloc (.cells #[.int .i64 (i : Int)] 2)).push (v := .slice (some ⟨w9.heap.size, 0, none⟩) 1 1) (l := zl [i]) (own_lit hN i) (fun q u hu => by
    cases hub : u.ownBlock with
    | none => exact ⟨.inl rfl, .inr (by simp [Value.ownBlock])⟩
    | some g =>
      have := (h.grp.lt hu hub).2
      exact ⟨.inr (by simp [Value.ownBlock]; omega), .inr (by simp [Value.ownBlock]; omega)⟩)
  exact g1.kept hg fun q u hu => .inr (g1.ne_kind (h.out.alloc _) ints_ne q u hu)
theorem GrpIn.join {i : Nat} {g0 : List Nat} {v0 v' : Value} {w9 : World} (h : GrpIn N w9 G (m + 1) c (gs ++ [g0]) vs) (hv : vs[m]? = some v0)
    (hown : w'.ownsRow N 2 1 v' (g0.length + 1) ((zl g0).map (Value.int .i64) ++ [.int .i64 (i : Int)]))
    (hg : (w9.alloc (.cells #[.int .i64 (i : Int)] 2)).grownBy w' v0.ownBlock)
    (hat : v'.ownBlock = v0.ownBlock ∨ v'.ownBlock = some (w9.alloc (.cells #[.int .i64 (i : Int)] 2)).heap.size) :
    GrpIn N (w'.setCell ⟨G, m, none⟩ v') G (m + 1) c (gs ++ [g0 ++ [i]]) (vs.set m v') := by
  have hl : gs.length = m := by have := h.len; simpa using this
  have hne : v0.ownBlock ≠ some G := h.grp.ne_kind h.out ints_ne m v0 hv
  have h1 := World.ownsRow.kept (h.out.alloc (.cells #[.int .i64 (i : Int)] 2)) hg (.inr (fun e => hne e.symm))
  have g1 := (h.grp.alloc (.cells #[.int .i64 (i : Int)] 2)).put (w' := w') (v' := v') (l' := zl (g0 ++ [i])) hv hg (by
    rw [zl_snoc, List.map_append, List.length_append, zl_len]; exact hown) (by
    rcases hat with e | e
    · exact .inl e
    · exact .inr ⟨_, e, Nat.le_refl _⟩)
  refine ⟨own_setAt h1 (j := m) (by omega) v', ?_, by simp [hl]⟩
  have g2 := g1.far (a := ⟨G, m, none⟩) (fun q u hu => g1.ne_kind h1 ints_ne q u hu) v'
  have e : (gs ++ [g0]).map zl = gs.map zl ++ [zl g0] := by simp
  rw [e] at g2
  have e2 : (gs.map zl ++ [zl g0]).set m (zl (g0 ++ [i])) = (gs ++ [g0 ++ [i]]).map zl := by
    rw [List.set_append_right _ _ (by simp [hl])]
    simp [hl]
  rwa [e2] at g2
end
end Go.Proofs.Ytgdmiddiaogpaaa
