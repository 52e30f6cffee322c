/- The groups of a ranking, kept in memory: what a step of the loop does. -/
import Derived.Test.YtgdmiddiaogpaaaGp
import Derived.Test.YtgdmiddiaogpaaaRk6
import Derived.Test.YtgdmiddiaogpaaaAq
namespace Go.Proofs.Ytgdmiddiaogpaaa
open Go.RowKit Go.BigFrame

/-- The cells of a group with its place. -/
def tieC (x : Int × Value) : List Value := [.int .i64 x.1, x.2]
theorem tieC_len (x : Int × Value) : (tieC x).length = 2 := rfl
def tieL (gs : List (List Nat)) (vs : List Value) : List (Int × Value) := (List.range vs.length).map fun j => ((plc gs j : Int) + 1, vs.getD j undef)
theorem tieL_len (gs : List (List Nat)) (vs : List Value) : (tieL gs vs).length = vs.length := by simp [tieL]
theorem tieL_get {gs : List (List Nat)} {vs : List Value} {j : Nat} {v : Value} (h : vs[j]? = some v) : (tieL gs vs)[j]? = some ((plc gs j : Int) + 1, v) := by
  obtain ⟨hj, hv⟩ := List.getElem?_eq_some_iff.1 h
  simp [tieL, hj, hv]
theorem plc_app {gs : List (List Nat)} {g : List Nat} {j : Nat} (h : j ≤ gs.length) : plc (gs ++ [g]) j = plc gs j := by
  rw [plc, plc, List.take_append_of_le_length h]
theorem tieL_push {gs : List (List Nat)} {vs : List Value} (h : gs.length = vs.length) (g : List Nat) (v : Value) : tieL (gs ++ [g]) (vs ++ [v]) = tieL gs vs ++ [((gs.flatten.length : Int) + 1, v)] := by
  rw [tieL, List.length_append, List.length_singleton, List.range_succ, List.map_append, List.map_singleton]
  congr 1
  · rw [tieL]
    apply List.map_congr_left
    intro j hj
    have hj' : j < vs.length := by simpa using hj
    rw [plc_app (by omega)]
    simp [List.getD_eq_getElem?_getD, List.getElem?_append_left hj']
  · rw [plc_app (by omega), ← h, plc_all]
    simp [List.getD_eq_getElem?_getD, h]
theorem tieL_put {gs : List (List Nat)} {vs : List Value} {m : Nat} (h : gs.length = m) (hv : vs.length = m + 1) (g g' : List Nat) (v' : Value) : tieL (gs ++ [g']) (vs.set m v') = (tieL (gs ++ [g]) vs).set m ((plc (gs ++ [g]) m : Int) + 1, v') := by
  apply List.ext_getElem?
  intro j
  by_cases hj : j < m + 1
  · by_cases e : j = m
    · subst e
      rw [List.getElem?_set_self (by rw [tieL_len]; omega), tieL_get (v := v') (by rw [List.getElem?_set_self (by omega)]), plc_app (by omega), plc_app (by omega)]
    · rw [List.getElem?_set_ne (fun q => e q.symm)]
      have hx : vs[j]? = some vs[j] := List.getElem?_eq_getElem (by omega)
      rw [tieL_get hx, tieL_get (by rw [List.getElem?_set_ne (fun q => e q.symm)]; exact hx), plc_app (by omega), plc_app (by omega)]
  · rw [List.getElem?_eq_none (by rw [tieL_len, List.length_set]; omega), List.getElem?_eq_none (by rw [List.length_set, tieL_len]; omega)]

theorem own_frozen {w : World} {base n c g sz : Nat} {e : TypeId} {xs : List Value} (h : w.ownsRow base e sz (.slice (some ⟨g, 0, none⟩) n c) n xs) (j : Nat) : w.frozen? ⟨g, j, none⟩ = false := by
  rcases h.2 with ⟨h0, _⟩ | ⟨g', cap, cur, h0, _, hh, _⟩
  · simp at h0
  · simp only [Value.slice.injEq, Option.some.injEq, Addr.mk.injEq, and_true, true_and] at h0
    obtain ⟨rfl, _⟩ := h0
    simp [World.frozen?, hh]
theorem own_cell {w : World} {base n c g sz j : Nat} {e : TypeId} {xs : List Value} {u : Value} (h : w.ownsRow base e sz (.slice (some ⟨g, 0, none⟩) n c) n xs) (hj : xs[j]? = some u) : w.cell? ⟨g, j, none⟩ = some u := by
  have := h.cells (g := g) rfl j u hj
  rwa [Addr.add_lit, Nat.zero_add] at this
theorem own_block_lt {w : World} {base n c g sz : Nat} {e : TypeId} {xs : List Value} (h : w.ownsRow base e sz (.slice (some ⟨g, 0, none⟩) n c) n xs) : base ≤ g ∧ g < w.heap.size := h.lt g rfl

theorem ne_len {gs : List (List Nat)} (h : ∀ g ∈ gs, g ≠ []) : gs.length ≤ gs.flatten.length := by
  induction gs with
  | nil => simp
  | cons g gs ih =>
    have h1 := ih fun x hx => h x (by simp [hx])
    have h2 : 0 < g.length := List.length_pos_iff.2 (h g (by simp))
    simp only [List.length_cons, List.flatten_cons, List.length_append]
    omega
/-- Their blocks are none below N. -/
def GE (N : Nat) (vs : List Value) : Prop := ∀ u ∈ vs, ∀ g, Value.ownBlock u = some g → N ≤ g
theorem GE.nil (N : Nat) : GE N [] := by simp [GE]
theorem GE.push {N : Nat} {vs : List Value} {x : Value} (h : GE N vs) (hx : ∀ g, x.ownBlock = some g → N ≤ g) : GE N (vs ++ [x]) := by
  intro u hu g hg
  rcases List.mem_append.1 hu with hu | hu
  · exact h u hu g hg
  · rw [List.mem_singleton.1 hu] at hg; exact hx g hg
theorem GE.put {N k : Nat} {vs : List Value} {x : Value} (h : GE N vs) (hx : ∀ g, x.ownBlock = some g → N ≤ g) : GE N (vs.set k x) := by
  intro u hu g hg
  rcases List.mem_or_eq_of_mem_set hu with hu | hu
  · exact h u hu g hg
  · rw [hu] at hg; exact hx g hg
theorem GE.at_ {N k : Nat} {vs : List Value} {u : Value} (h : GE N vs) (hu : vs[k]? = some u) : ∀ g, u.ownBlock = some g → N ≤ g := h u (List.mem_of_getElem? hu)
/-- Rows of two kinds share no block. -/
theorem own_kinds {w : World} {b b' n n' s s' G m c : Nat} {e e' : TypeId} {v : Value} {xs xs' : List Value} (h : w.ownsRow b e s v n xs) (h' : w.ownsRow b' e' s' (.slice (some ⟨G, 0, none⟩) m c) n' xs') (hne : e ≠ e') : v.ownBlock ≠ some G := by
  rcases h'.2 with ⟨h0, _⟩ | ⟨g', cap, cur, h0, _, hh, _⟩
  · simp at h0
  · simp only [Value.slice.injEq, Option.some.injEq, Addr.mk.injEq, and_true] at h0
    obtain ⟨rfl, _⟩ := h0
    exact own_ne_kind h hh hne
/-- An older row stays while a younger one is added to and a cell elsewhere is written. -/
theorem own_elder {w9 w' : World} {b n s N G j : Nat} {e : TypeId} {v v0 u : Value} {xs : List Value} {o : Obj} (ho : w9.ownsRow b e s v n xs) (hlt : ∀ g, v.ownBlock = some g → g < N) (hge : ∀ g, v0.ownBlock = some g → N ≤ g) (hg : (w9.alloc o).grownBy w' v0.ownBlock) (hG : v.ownBlock ≠ some G) : (w'.setCell ⟨G, j, none⟩ u).ownsRow b e s v n xs := by
  refine ownsRow_setCell_other (World.ownsRow.kept (ho.alloc o) hg ?_) hG u
  cases h : v.ownBlock with
  | none => exact .inl rfl
  | some g =>
    right
    intro e
    have h1 := hlt g h
    have h2 := hge g e.symm
    omega
theorem rd_lit (w : World) (z : Int) : Rd (w.alloc (.cells #[.int .i64 z] 2)) (w.alloc (.cells #[.int .i64 z] 2)).heap.size 1 (some ⟨w.heap.size, 0, none⟩) 1 [.int .i64 z] :=
  rd_own (own_lit (Nat.le_refl _) z)
/-- The places with their groups, so far. -/
structure TieSt (w0 wr : World) (G m c : Nat) (gs : List (List Nat)) (vs : List Value) : Prop where
  below : Below w0.heap.size w0 wr
  out : wr.ownsRow w0.heap.size 84 2 (.slice (some ⟨G, 0, none⟩) m c) m (flat tieC (tieL gs vs))
  grp : Groups wr w0.heap.size vs (gs.map zl)
  len : gs.length = m
theorem TieSt.vlen {w0 wr : World} {G m c : Nat} {gs : List (List Nat)} {vs : List Value} (h : TieSt w0 wr G m c gs vs) : vs.length = m := by
  rw [h.grp.len, List.length_map]; exact h.len
theorem TieSt.later {w0 wr w' : World} {G m c : Nat} {gs : List (List Nat)} {vs : List Value} (h : TieSt w0 wr G m c gs vs) (hb : Below wr.heap.size wr w') : TieSt w0 w' G m c gs vs :=
  ⟨h.below.trans (hb.mono h.below.size), own_below h.out hb, h.grp.below hb, h.len⟩
theorem tie_ne : (2 : TypeId) ≠ 84 := by decide
theorem TieSt.push {w0 w9 w' : World} {G m c i k : Nat} {gs : List (List Nat)} {vs : List Value} {v' : Value} (h : TieSt w0 w9 G m c gs vs) (hk : gs.flatten.length = k)
    (hown : w'.ownsRow w0.heap.size 84 2 v' (m + 1) (flat tieC (tieL gs vs) ++ [.int .i64 ((k : Int) + 1), .slice (some ⟨w9.heap.size, 0, none⟩) 1 1]))
    (hg : (w9.alloc (.cells #[.int .i64 (i : Int)] 2)).grownBy w' (some G)) (hb : Below w0.heap.size (w9.alloc (.cells #[.int .i64 (i : Int)] 2)) w') :
    ∃ G' c', v' = .slice (some ⟨G', 0, none⟩) (m + 1) c' ∧ TieSt w0 w' G' (m + 1) c' (gs ++ [[i]]) (vs ++ [.slice (some ⟨w9.heap.size, 0, none⟩) 1 1]) := by
  obtain ⟨G', c', hv, _, _⟩ := hown.form (by omega)
  subst hv
  have hGl := own_block_lt h.out
  have hz := h.below.size
  refine ⟨G', c', rfl, ⟨(h.below.alloc hz _).trans hb, ?_, ?_, by simp [h.len]⟩⟩
  · rw [tieL_push (by rw [h.len, h.vlen]), flat_snoc, hk]
    exact hown
  · rw [List.map_append, List.map_singleton]
    have g1 := (h.grp.alloc (.cells #[.int .i64 (i : Int)] 2)).push (v := .slice (some ⟨w9.heap.size, 0, none⟩) 1 1) (l := zl [i]) (own_lit hz i) (fun q u hu => by
      cases hub : u.ownBlock with
      | none => exact ⟨.inl rfl, .inr (by simp [Value.ownBlock])⟩
      | some g =>
        have := (h.grp.lt hu hub).2
        exact ⟨.inr (by simp [Value.ownBlock]; omega), .inr (by simp [Value.ownBlock]; omega)⟩)
    exact g1.kept hg fun q u hu => .inr (g1.ne_kind (h.out.alloc _) tie_ne q u hu)
theorem TieSt.join {w0 w9 w' : World} {G m c i : Nat} {gs : List (List Nat)} {g0 : List Nat} {vs : List Value} {v0 v' : Value} (h : TieSt w0 w9 G (m + 1) c (gs ++ [g0]) vs) (hv : vs[m]? = some v0)
    (hown : w'.ownsRow w0.heap.size 2 1 v' (g0.length + 1) ((zl g0).map (Value.int .i64) ++ [.int .i64 (i : Int)]))
    (hg : (w9.alloc (.cells #[.int .i64 (i : Int)] 2)).grownBy w' v0.ownBlock) (hb : Below w0.heap.size (w9.alloc (.cells #[.int .i64 (i : Int)] 2)) w')
    (hat : v'.ownBlock = v0.ownBlock ∨ v'.ownBlock = some (w9.alloc (.cells #[.int .i64 (i : Int)] 2)).heap.size) :
    TieSt w0 (w'.setCell ⟨G, m * 2 + 1, none⟩ v') G (m + 1) c (gs ++ [g0 ++ [i]]) (vs.set m v') := by
  have hz := h.below.size
  have hGl := own_block_lt h.out
  have hl : gs.length = m := by have := h.len; simpa using this
  have hne : v0.ownBlock ≠ some G := h.grp.ne_kind h.out tie_ne m v0 hv
  have h1 := World.ownsRow.kept (h.out.alloc (.cells #[.int .i64 (i : Int)] 2)) hg (.inr (fun e => hne e.symm))
  have g1 := (h.grp.alloc (.cells #[.int .i64 (i : Int)] 2)).put (w' := w') (v' := v') (l' := zl (g0 ++ [i])) hv hg (by
    rw [zl_snoc, List.map_append, List.length_append, zl_len]; exact hown) (by
    rcases hat with e | e
    · exact .inl e
    · exact .inr ⟨_, e, Nat.le_refl _⟩)
  refine ⟨((h.below.alloc hz _).trans hb).setCell (by dsimp only; omega) _, ?_, ?_, by simp [hl]⟩
  · have h2 := own_setAt h1 (j := m * 2 + 1) (by omega) v'
    rw [tieL_put hl h.vlen g0 (g0 ++ [i]) v', flat_setC tieC_len (tieL_get hv) (j := 1) (u := v') (by omega) rfl]
    exact h2
  · have g2 := g1.far (a := ⟨G, m * 2 + 1, none⟩) (fun q u hu => g1.ne_kind h1 tie_ne q u hu) v'
    have e : (gs ++ [g0]).map zl = gs.map zl ++ [zl g0] := by simp
    rw [e] at g2
    have e2 : (gs.map zl ++ [zl g0]).set m (zl (g0 ++ [i])) = (gs ++ [g0 ++ [i]]).map zl := by
      rw [List.set_append_right _ _ (by simp [hl])]
      simp [hl]
    rwa [e2] at g2
end Go.Proofs.Ytgdmiddiaogpaaa
