/- The groups of a ranking, kept in memory: what a step of the loop does. -/
import Derived.Test.YtbaomhneboojpaaDoorGp
import Derived.Test.YtbaomhneboojpaaDoorRk6
import Derived.Test.YtbaomhneboojpaaDoorAq
namespace Go.Proofs.YtbaomhneboojpaaDoor
open Go.RowKit Go.BigFrame

/-- The cells of a group with its place. -/
def tieC (x : Int × Value) : List Value := [.int .i64 x.1, x.2]
theorem tieC_len (x : Int × Value) : (tieC x).length = 2 := rfl
def tieL (gs : List (List Nat)) (vs : List Value) : List (Int × Value) := (List.range vs.length).map fun j => ((plc gs j : Int) + 1, vs.getD j undef)
theorem tieL_len (gs : List (List Nat)) (vs : List Value) : (tieL gs vs).length = vs.length := by simp [tieL]
theorem tieL_get {gs : List (List Nat)} {vs : List Value} {j : Nat} {v : Value} (h : vs[j]? = some v) : (tieL gs vs)[j]? = some ((plc gs j : Int) + 1, v) := by
  obtain ⟨hj, hv⟩ := List.getElem?_eq_some_iff.1 h
  simp [tieL, hj, hv]
theorem plc_app {gs : List (List Nat)} {g : List Nat} {j : Nat} (h : j ≤ gs.length) : plc (gs ++ [g]) j = plc gs j := by
  rw [plc, plc, List.take_append_of_le_length h]
theorem tieL_push {gs : List (List Nat)} {vs : List Value} (h : gs.length = vs.length) (g : List Nat) (v : Value) : tieL (gs ++ [g]) (vs ++ [v]) = tieL gs vs ++ [((gs.flatten.length : Int) + 1, v)] := by
  rw [tieL, List.length_append, List.length_singleton, List.range_succ, List.map_append, List.map_singleton]
  congr 1
  · rw [tieL]
    apply List.map_congr_left
    intro j hj
    have hj' : j < vs.length := by simpa using hj
    rw [plc_app (by omega)]
    simp [List.getD_eq_getElem?_getD, List.getElem?_append_left hj']
  · rw [plc_app (by omega), ← h, plc_all]
    simp [List.getD_eq_getElem?_getD, h]
theorem tieL_put {gs : List (List Nat)} {vs : List Value} {m : Nat} (h : gs.length = m) (hv : vs.length = m + 1) (g g' : List Nat) (v' : Value) : tieL (gs ++ [g']) (vs.set m v') = (tieL (gs ++ [g]) vs).set m ((plc (gs ++ [g]) m : Int) + 1, v') := by
  apply List.ext_getElem?
  intro j
  by_cases hj : j < m + 1
  · by_cases e : j = m
    · subst e
      rw [List.getElem?_set_self (by rw [tieL_len]; omega), tieL_get (v := v') (by rw [List.getElem?_set_self (by omega)]), plc_app (by omega), plc_app (by omega)]
    · rw [List.getElem?_set_ne (fun q => e q.symm)]
      have hx : vs[j]? = some vs[j] := List.getElem?_eq_getElem (by omega)
      rw [tieL_get hx, tieL_get (by rw [List.getElem?_set_ne (fun q => e q.symm)]; exact hx), plc_app (by omega), plc_app (by omega)]
  · rw [List.getElem?_eq_none (by rw [tieL_len, List.length_set]; omega), List.getElem?_eq_none (by rw [List.length_set, tieL_len]; omega)]

theorem own_frozen {w : World} {base n c g sz : Nat} {e : TypeId} {xs : List Value} (h : w.ownsRow base e sz (.slice (some ⟨g, 0, none⟩) n c) n xs) (j : Nat) : w.frozen? ⟨g, j, none⟩ = false := by
  rcases h.2 with ⟨h0, _⟩ | ⟨g', cap, cur, h0, _, hh, _⟩
  · simp at h0
  · simp only [Value.slice.injEq, Option.some.injEq, Addr.mk.injEq, and_true, true_and] at h0
    obtain ⟨rfl, _⟩ := h0
    simp [World.frozen?, hh]
theorem own_cell {w : World} {base n c g sz j : Nat} {e : TypeId} {xs : List Value} {u : Value} (h : w.ownsRow base e sz (.slice (some ⟨g, 0, none⟩) n c) n xs) (hj : xs[j]? = some u) : w.cell? ⟨g, j, none⟩ = some u := by
  have := h.cells (g := g) rfl j u hj
  rwa [Addr.add_lit, Nat.zero_add] at this
theorem own_block_lt {w : World} {base n c g sz : Nat} {e : TypeId} {xs : List Value} (h : w.ownsRow base e sz (.slice (some ⟨g, 0, none⟩) n c) n xs) : base ≤ g ∧ g < w.heap.size := h.lt g rfl

theorem ne_len {gs : List (List Nat)} (h : ∀ g ∈ gs, g ≠ []) : gs.length ≤ gs.flatten.length := by
  induction gs with
  | nil => simp
  | cons g gs ih =>
    have h1 := ih fun x hx => h x (by simp [hx])
    have h2 : 0 < g.length := List.length_pos_iff.2 (h g (by simp))
    simp only [List.length_cons, List.flatten_cons, List.length_append]
    omega
/-- Their blocks are none below N. -/
def GE (N : Nat) (vs : List Value) : Prop := ∀ u ∈ vs, ∀ g, Value.ownBlock u = some g → N ≤ g
theorem GE.nil (N : Nat) : GE N [] := by simp [GE]
theorem GE.push {N : Nat} {vs : List Value} {x : Value} (h : GE N vs) (hx : ∀ g, x.ownBlock = some g → N ≤ g) : GE N (vs ++ [x]) := by
  intro u hu g hg
  rcases List.mem_append.1 hu with hu | hu
  · exact h u hu g hg
  · rw [List.mem_singleton.1 hu] at hg; exact hx g hg
theorem GE.put {N k : Nat} {vs : List Value} {x : Value} (h : GE N vs) (hx : ∀ g, x.ownBlock = some g → N ≤ g) : GE N (vs.set k x) := by
  intro u hu g hg
  rcases List.mem_or_eq_of_mem_set hu with hu | hu
  · exact h u hu g hg
  · rw [hu] at hg; exact hx g hg
theorem GE.at_ {N k : Nat} {vs : List Value} {u : Value} (h : GE N vs) (hu : vs[k]? = some u) : ∀ g, u.ownBlock = some g → N ≤ g := h u (List.mem_of_getElem? hu)
/-- Rows of two kinds share no block. -/
theorem own_kinds {w : World} {b b' n n' s s' G m c : Nat} {e e' : TypeId} {v : Value} {xs xs' : List Value} (h : w.ownsRow b e s v n xs) (h' : w.ownsRow b' e' s' (.slice (some ⟨G, 0, none⟩) m c) n' xs') (hne : e ≠ e') : v.ownBlock ≠ some G := by
  rcases h'.2 with ⟨h0, _⟩ | ⟨g', cap, cur, h0, _, hh, _⟩
  · simp at h0
  · simp only [Value.slice.injEq, Option.some.injEq, Addr.mk.injEq, and_true] at h0
    obtain ⟨rfl, _⟩ := h0
    exact own_ne_kind h hh hne
/-- An older row stays while a younger one is added to and a cell elsewhere is written. -/
theorem own_elder {w9 w' : World} {b n s N G j : Nat} {e : TypeId} {v v0 u : Value} {xs : List Value} {o : Obj} (ho : w9.ownsRow b e s v n xs) (hlt : ∀ g, v.ownBlock = some g → g < N) (hge : ∀ g, v0.ownBlock = some g → N ≤ g) (hg : (w9.alloc o).grownBy w' v0.ownBlock) (hG : v.ownBlock ≠ some G) : (w'.setCell ⟨G, j, none⟩ u).ownsRow b e s v n xs := by
  refine ownsRow_setCell_other (World.ownsRow.kept (ho.alloc o) hg ?_) hG u
  cases h : v.ownBlock with
  | none => exact .inl rfl
  | some g =>
    right
    intro e
    have h1 := hlt g h
    have h2 := hge g e.symm
    omega
theorem rd_lit (w : World) (z : Int) : Rd (w.alloc (.cells #[.int .i64 z] 2)) (w.alloc (.cells #[.int .i64 z] 2)).heap.size 1 (some ⟨w.heap.size, 0, none⟩) 1 [.int .i64 z] :=
  rd_own (own_lit (Nat.le_refl _) z)
/-- The places with their groups, so far. -/
structure TieSt (w0 wr : World) (G m c : Nat) (gs : List (List Nat)) (vs : List Value) : Prop where
  below : Below w0.heap.size w0 wr
  out : wr.ownsRow w0.heap.size 43 2 (.slice (some ⟨G, 0, none⟩) m c) m (flat tieC (tieL gs vs))
  grp : Groups wr w0.heap.size vs (gs.map zl)
  len : gs.length = m
theorem TieSt.vlen {w0 wr : World} {G m c : Nat} {gs : List (List Nat)} {vs : List Value} (h : TieSt w0 wr G m c gs vs) : vs.length = m := by
  rw [h.grp.len, List.length_map]; exact h.len
theorem TieSt.later {w0 wr w' : World} {G m c : Nat} {gs : List (List Nat)} {vs : List Value} (h : TieSt w0 wr G m c gs vs) (hb : Below wr.heap.size wr w') : TieSt w0 w' G m c gs vs :=
  ⟨h.below.trans (hb.mono h.below.size), own_below h.out hb, h.grp.below hb, h.len⟩
theorem tie_ne : (2 : TypeId) ≠ 43 := by decide
theorem TieSt.push {w0 w9 w' : World} {G m c i k : Nat} {gs : List (List Nat)} {vs : List Value} {v' : Value} (h : TieSt w0 w9 G m c gs vs) (hk : gs.flatten.length = k)
    (hown : w'.ownsRow w0.heap.size 43 2 v' (m + 1) (flat tieC (tieL gs vs) ++ [.int .i64 ((k : Int) + 1), .slice (some ⟨w9.heap.size, 0, none⟩) 1 1]))
    (hg : (w9.alloc (.cells #[.int .i64 (i : Int)] 2)).grownBy w' (some G)) (hb : Below w0.heap.size (w9.alloc (.cells #[.int .i64 (i : Int)] 2)) w') :
    ∃ G' c', v' = .slice (some ⟨G', 0, none⟩) (m + 1) c' ∧ TieSt w0 w' G' (m + 1) c' (gs ++ [[i]]) (vs ++ [.slice (some ⟨w9.heap.size, 0, none⟩) 1 1]) := by
  obtain ⟨G', c', hv, _, _⟩ := hown.form (by omega)
  subst hv
  have hGl := own_block_lt h.out
  have hz := h.below.size
  refine ⟨G', c', rfl, ⟨(h.below.alloc hz _).trans hb, ?_, ?_, by simp [h.len]⟩⟩
  · rw [tieL_push (by rw [h.len, h.vlen]), flat_snoc, hk]
    exact hown
  · rw [List.map_append, List.map_singleton]
    have g1 := (h.grp.alloc (.cells #[.int .i64 (i : Int)] 2)).push (v := .slice (some ⟨w9.heap.size, 0, none⟩) 1 1) (l := zl [i]) (own_lit hz i) (fun q u hu => by
      cases hub : u.ownBlock with
      | none => exact ⟨.inl rfl, .inr (by simp [Value.ownBlock])⟩
      | some g =>
        have := (h.grp.lt hu hub).2
        exact ⟨.inr (by simp [Value.ownBlock]; omega), .inr (by simp [Value.ownBlock]; omega)⟩)
    exact g1.kept hg fun q u hu => .inr (g1.ne_kind (h.out.alloc _) tie_ne q u hu)
theorem TieSt.join {w0 w9 w' : World} {G m c i : Nat} {gs : List (List Nat)} {g0 : List Nat} {vs : List Value} {v0 v' : Value} (h : TieSt w0 w9 G (m + 1) c (gs ++ [g0]) vs) (hv : vs[m]? = some v0)
    (hown : w'.ownsRow w0.heap.size 2 1 v' (g0.length + 1) ((zl g0).map (Value.int .i64) ++ [.int .i64 (i : Int)]))
    (hg : (w9.alloc (.cells #[.int .i64 (i : Int)] 2)).grownBy w' v0.ownBlock) (hb : Below w0.heap.size (w9.alloc (.cells #[.int .i64 (i : Int)] 2)) w')
    (hat : v'.ownBlock = v0.ownBlock ∨ v'.ownBlock = some (w9.alloc (.cells #[.int .i64 (i : Int)] 2)).heap.size) :
    TieSt w0 (w'.setCell ⟨G, m * 2 + 1, none⟩ v') G (m + 1) c (gs ++ [g0 ++ [i]]) (vs.set m v') := by
  have hz := h.below.size
  have hGl := own_block_lt h.out
  have hl : gs.length = m := by have := h.len; simpa using this
  have hne : v0.ownBlock ≠ some G := h.grp.ne_kind h.out tie_ne m v0 hv
  have h1 := World.ownsRow.kept (h.out.alloc (.cells #[.int .i64 (i : Int)] 2)) hg (.inr (fun e => hne e.symm))
  have g1 := (h.grp.alloc (.cells #[.int .i64 (i : Int)] 2)).put (w' := w') (v' := v') (l' := zl (g0 ++ [i])) hv hg (by
    rw [zl_snoc, List.map_append, List.length_append, zl_len]; exact hown) (by
    rcases hat with e | e
    · exact .inl e
    · exact .inr ⟨_, e, Nat.le_refl _⟩)
  refine ⟨((h.below.alloc hz _).trans hb).setCell (by dsimp only; omega) _, ?_, ?_, by simp [hl]⟩
  · have h2 := own_setAt h1 (j := m * 2 + 1) (by omega) v'
    rw [tieL_put hl h.vlen g0 (g0 ++ [i]) v', flat_setC tieC_len (tieL_get hv) (j := 1) (u := v') (by omega) rfl]
    exact h2
  · have g2 := g1.far (a := ⟨G, m * 2 + 1, none⟩) (fun q u hu => g1.ne_kind h1 tie_ne q u hu) v'
    have e : (gs ++ [g0]).map zl = gs.map zl ++ [zl g0] := by simp
    rw [e] at g2
    have e2 : (gs.map zl ++ [zl g0]).set m (zl (g0 ++ [i])) = (gs ++ [g0 ++ [i]]).map zl := by
      rw [List.set_append_right _ _ (by simp [hl])]
      simp [hl]
    rwa [e2] at g2
end Go.Proofs.YtbaomhneboojpaaDoor
/- Contract: impl.ties. -/
namespace Go.Proofs.YtbaomhneboojpaaDoor
open Go.RowKit Go.BigFrame
attribute [local go_sem] sub_cell sub_frozen drewN_setCell

theorem info_tied : (Tryd.prog.info? 43).map (fun i => (i.zero, i.size, i.bytes)) = some (some (.agg #[.int .i64 0, .slice none 0 0]), 2, 32) := by kernel_rfl
/-- What ties leaves. -/
def TiesPost (gs : List (List Nat)) (w : World) (r : Ending) (w' : World) : Prop :=
  ∃ G c vs, r = .returned (.slice (some ⟨G, 0, none⟩) gs.length c) ∧ TieSt w w' G gs.length c gs vs
theorem bool_lt {l : List TResult} {i k : Nat} {x y : TResult} {r : Bool} (hx : l[i]? = some x) (hy : l[k]? = some y) (h : betB x y = r) : btr l i k = r := (btr_of hx hy).trans h

set_option maxHeartbeats 8000000 in
theorem c_ties (A : Option Addr) (n c : Nat) (l : List TResult) (w : World) (ha : Sl resultC w w.heap.size 3 A n l) (hn : n ≤ 40) :
    Calls Tryd.prog 16 #[.slice A n c] w (TiesPost (grpL (btr l) (rkL (btr l) n)) w) := by
  have HA := Lib.hid ha
  clear ha
  have HA1 := Lib.hid (fun o => HA.out.later (Below.alloc (Below.refl _ w) (Nat.le_refl _) o))
  have hrk := Lib.hid (rkL_ok (btr_wk l) n)
  go_enter Tryd.func16, Tryd.ntmps16
  go_wp2_with (go_at_call 25; refine (c_ranking _ _ _ l _ (HA1.out _) hn).mono ?_; intro r_ w2 hp2; obtain ⟨B, d, rfl, ow, hb2⟩ := hp2.elim (n := n) (by rw [zl_len, hrk.out.len]); have OW := Lib.hid ow; have HB2 := Lib.hid hb2; clear ow hb2 hp2)
  have hz2 := HB2.out.size
  simp only [World.size_alloc] at hz2
  go_loopw [3, 11] (fun v i wr => ∃ (k G m cc : Nat) (vs : List Value), k ≤ n ∧ i = .int .i64 k ∧ v = .slice (some ⟨G, 0, none⟩) m cc ∧ wr.ownsRow (w.heap.size + 1) 2 1 (.slice B n d) n ((zl (rkL (btr l) n)).map (Value.int .i64)) ∧ TieSt w wr G m cc (grpL (btr l) ((rkL (btr l) n).take k)) vs ∧ Hid (GE w2.heap.size vs) ∧ w2.heap.size ≤ wr.heap.size) (fun _ i _ => n - (intOf i).toNat)
  case atStart =>
    refine ⟨0, w.heap.size, 0, 0, [], Nat.zero_le _, rfl, rfl, by have := OW.out; rwa [World.size_alloc] at this, ⟨((Below.refl _ _).alloc (Nat.le_refl _) _).trans (HB2.out.mono (by simp)), ?_, Groups.nil _ _, rfl⟩, GE.nil _, Nat.le_refl _⟩
    exact own_below (World.ownsRow_made w #[] 0 (Nat.le_refl _) (by simp [maxLen]) rfl) HB2.out
  case round =>
    obtain ⟨k, G, m, cc, vs, hk, rfl, rfl, hown, hst, hge, hzN⟩ := hrel
    have hB := hst.below
    have hz := hB.size
    by_cases hlt : k < n
    · obtain ⟨g, p, rfl, hg1, hg2, hp, hpn, hc⟩ := rk_at (btr_wk l) hown hlt
      obtain ⟨gok, gfl⟩ := grpL_take (btr_wk l) hrk.out k (by omega)
      have hsucc := grpL_succ (lt := btr l) hp
      have hfl : (grpL (btr l) ((rkL (btr l) n).take k)).flatten.length = k := by
        rw [gfl, List.length_take, hrk.out.len]; omega
      generalize grpL (btr l) ((rkL (btr l) n).take k) = gs at hst gok gfl hsucc hfl
      obtain ⟨b, o, s, x, e, rfl, hb1, hb3, hx, c0, c1, c2⟩ := result_at HA.out hB hpn
      have i1 : (k : Int) < n := by omega
      have i2 : (p : Int) < n := by omega
      have HO := Lib.hid hown
      have HST := Lib.hid hst
      have HFL := Lib.hid hfl
      clear hown hp hfl
      have GFL := Lib.hid gfl
      clear gfl
      rcases List.eq_nil_or_concat gs with rfl | ⟨gs0, g0, rfl⟩
      · obtain rfl : 0 = m := HST.out.len
        have HSU := Lib.hid (hsucc.trans (grpA_nil p))
        clear hst hsucc gok hx
        go_wp2_with fail
        refine wp_region_below (by kernel_rfl) (by kernel_rfl) ?_
        repeat (go_big_quiet_step (fail))
        refine wpQuiet_nil ?_
        intro _ hw'
        obtain ⟨⟨w9, hb9⟩, hw''⟩ := hw'
        subst hw''
        rename World => w9
        have hz9 := hb9.size
        have HST9 := Lib.hid (HST.out.later hb9)
        obtain ⟨hc9, hf9⟩ := bcell hb9
        go_wp2_with (at_builtin; refine appS (by rfl) (.tmp 51) (.tmp 57) _ (by rfl) w.heap.size 43 _ 2 32 Tryd.underlying40 info_tied (by decide) (by decide) _ _ (by rfl) (by simp [Value.oneCell']) _ _ _ (by rfl) (HST9.out.out.alloc _) (by rw [World.size_alloc]; rfl) (by omega) (by omega) (by simp; omega) ?_; intro v3 w3 hown3 hb3 hg3; obtain ⟨G3, c3, rfl, hst3⟩ := HST9.out.push HFL.out hown3 hg3 hb3; have HST3 := Lib.hid hst3; have HG3 := Lib.hid hg3; have hz3 := hg3.size; clear hown3 hb3 hg3 hst3)
        simp only [World.size_alloc] at hz3
        go_roundw
        case rel => exact ⟨k + 1, G3, _, c3, _, by omega, by go_num, rfl, World.ownsRow.kept ((own_below HO.out hb9).alloc _) HG3.out (.inr (own_kinds (own_below HO.out hb9) HST9.out.out tie_ne)), by rw [HSU.out]; exact HST3.out, hge.out.push (by simp [Value.ownBlock]; omega), by omega⟩
        case measure => simp [intOf]; omega
      · rw [List.concat_eq_append] at *
        obtain ⟨m, rfl⟩ : ∃ q, m = q + 1 := ⟨gs0.length, by have := HST.out.len; simpa using this.symm⟩
        have hl0 : gs0.length = m := by have := HST.out.len; simpa using this
        obtain ⟨v0, hv0, how0⟩ := HST.out.grp.get (k := m) (l := zl g0) (by simp [← hl0])
        rw [zl_len] at how0
        have hg0 := gok.ne g0 (by simp)
        have hhd : g0[0]? = some (g0.headD 0) := by cases g0 with | nil => exact absurd rfl hg0 | cons a g0 => rfl
        have hpos : 0 < g0.length := by cases g0 with | nil => exact absurd rfl hg0 | cons a g0 => simp
        have hq0 : g0.length ≤ k := by have := HFL.out; simp at this; omega
        obtain ⟨g1, cap1, rfl, hgg1, hgg2⟩ := how0.form hpos
        have hcell0 := own_cell how0 (j := 0) (u := .int .i64 (g0.headD 0 : Nat)) (by rw [List.getElem?_map, zl_get hhd]; rfl)
        have hcell1 := own_cell HST.out.out (j := m * 2 + 1) (flat_get tieC_len (tieL_get hv0) rfl)
        have hin : g0.headD 0 < n := hrk.out.lt_ (List.mem_of_mem_take (i := k) (by
          rw [← GFL.out, List.flatten_append, List.mem_append]
          right
          simpa using headD_mem hg0))
        obtain ⟨s', x', e', _, _, hx', d0, d1, d2⟩ := result_atB HA.out hB hin
        have i3 : ((g0.headD 0 : Nat) : Int) < n := by omega
        have i4 : (m : Int) < ((m + 1 : Nat) : Int) := by omega
        have i5 : (0 : Int) < ((g0.length : Nat) : Int) := by omega
        have hm40 : m + 1 ≤ k := by
          have h1 := ne_len gok.ne
          rw [HFL.out] at h1
          simpa [hl0] using h1
        have hd1 : decide ((0 : Int) ≤ (m : Int)) = true := by simp
        have HV0 := Lib.hid hv0
        have HOW0 := Lib.hid how0
        have HGE0 := Lib.hid (hge.out.at_ hv0)
        have hG1 := own_block_lt HST.out.out
        cases hr : betB (s', x', e') (s, x, e)
        · have HR := Lib.hid hr
          have hlt2 := bool_lt hx' hx hr
          have HSU := Lib.hid (hsucc.trans (grpA_old hlt2))
          clear hst hsucc gok hx hx' hlt2 hr hv0 how0 hg0 hhd
          generalize g0.headD 0 = h0 at *
          go_wp2_with fail
          refine wp_region_below (by kernel_rfl) (by kernel_rfl) ?_
          repeat (go_big_quiet_step ((go_at_call 26; refine qBg (c_better _ _ _ _ _ _ _ HR.out _) (by simp) ?_; intro w_ h_; first | exact h_ | exact h_.below | (subst h_; exact Below.refl _ _) | (subst h_; (repeat' (first | (with_reducible exact Below.refl _ _) | (with_reducible assumption) | (with_reducible refine below_drewN ?_ _) | (with_reducible refine Below.drew ?_) | (with_reducible refine Below.alloc ?_ ?_ _) | (with_reducible refine Below.setCell ?_ ?_ _) | go_size))) | (obtain ⟨n_, rfl⟩ := h_; (repeat' (first | (with_reducible exact Below.refl _ _) | (with_reducible assumption) | (with_reducible refine below_drewN ?_ _) | (with_reducible refine Below.drew ?_) | (with_reducible refine Below.alloc ?_ ?_ _) | (with_reducible refine Below.setCell ?_ ?_ _) | go_size))))))
          refine wpQuiet_nil ?_
          intro _ hw'
          obtain ⟨⟨w9, hb9⟩, hw''⟩ := hw'
          subst hw''
          rename World => w9
          have hz9 := hb9.size
          have HST9 := Lib.hid (HST.out.later hb9)
          obtain ⟨hc9, hf9⟩ := bcell hb9
          have OW9 := Lib.hid (own_below HOW0.out hb9)
          have HO9 := Lib.hid (own_below HO.out hb9)
          go_wp2_with (at_builtin; refine apList (by rfl) (.tmp 45) (.tmp 47) _ (by rfl) w.heap.size 2 _ 8 Tryd.underlying33 info_int64 (by rfl) _ _ g0.length _ (by rfl) (OW9.out.alloc _) _ _ 1 1 [.int .i64 (p : Int)] (by rfl) (rd_lit _ _) (by simp [Value.oneCell']) (by omega) (by omega) (by simp; omega) ?_; intro v3 w3 hown3 hb3 hg3 hat3; obtain ⟨A3, c3, rfl⟩ := own_slice hown3; have HW3 := Lib.hid hown3; have HB3 := Lib.hid hb3; have HG3 := Lib.hid hg3; have HAT3 := Lib.hid hat3; have ho3 := Lib.hid (World.ownsRow.kept (HST9.out.out.alloc _) hg3 (.inr (fun e => (own_kinds OW9.out HST9.out.out tie_ne) e.symm))); have r3 := own_cell ho3.out (j := m * 2 + 1) (flat_get tieC_len (tieL_get HV0.out) rfl); have f3 := own_frozen ho3.out (m * 2 + 1); have hz3 := hg3.size; clear hown3 hb3 hg3 hat3)
          simp only [World.size_alloc] at hz3
          go_roundw
          case rel =>
            refine ⟨k + 1, G, m + 1, cc, vs.set m (.slice A3 (g0.length + 1) c3), by omega, by go_num, rfl, own_elder HO9.out (own_lt OW.out) HGE0.out HG3.out (own_kinds HO9.out HST9.out.out tie_ne), by rw [HSU.out]; exact HST9.out.join HV0.out HW3.out HG3.out HB3.out HAT3.out, hge.out.put (fun q hq => ?_), by simp; omega⟩
            rcases HAT3.out with e | e
            · rw [e] at hq; exact HGE0.out q hq
            · rw [e] at hq; simp at hq; omega
          case measure => simp [intOf]; omega
        · have HR := Lib.hid hr
          have hlt2 := bool_lt hx' hx hr
          have HSU := Lib.hid (hsucc.trans (grpA_new hlt2))
          clear hst hsucc gok hx hx' hlt2 hr hv0 how0 hg0 hhd
          generalize g0.headD 0 = h0 at *
          go_wp2_with fail
          refine wp_region_below (by kernel_rfl) (by kernel_rfl) ?_
          repeat (go_big_quiet_step ((go_at_call 26; refine qBg (c_better _ _ _ _ _ _ _ HR.out _) (by simp) ?_; intro w_ h_; first | exact h_ | exact h_.below | (subst h_; exact Below.refl _ _) | (subst h_; (repeat' (first | (with_reducible exact Below.refl _ _) | (with_reducible assumption) | (with_reducible refine below_drewN ?_ _) | (with_reducible refine Below.drew ?_) | (with_reducible refine Below.alloc ?_ ?_ _) | (with_reducible refine Below.setCell ?_ ?_ _) | go_size))) | (obtain ⟨n_, rfl⟩ := h_; (repeat' (first | (with_reducible exact Below.refl _ _) | (with_reducible assumption) | (with_reducible refine below_drewN ?_ _) | (with_reducible refine Below.drew ?_) | (with_reducible refine Below.alloc ?_ ?_ _) | (with_reducible refine Below.setCell ?_ ?_ _) | go_size))))))
          refine wpQuiet_nil ?_
          intro _ hw'
          obtain ⟨⟨w9, hb9⟩, hw''⟩ := hw'
          subst hw''
          rename World => w9
          have hz9 := hb9.size
          have HST9 := Lib.hid (HST.out.later hb9)
          obtain ⟨hc9, hf9⟩ := bcell hb9
          go_wp2_with (at_builtin; refine appS (by rfl) (.tmp 51) (.tmp 57) _ (by rfl) w.heap.size 43 _ 2 32 Tryd.underlying40 info_tied (by decide) (by decide) _ _ (by rfl) (by simp [Value.oneCell']) _ _ _ (by rfl) (HST9.out.out.alloc _) (by rw [World.size_alloc]; rfl) (by omega) (by omega) (by simp; omega) ?_; intro v3 w3 hown3 hb3 hg3; obtain ⟨G3, c3, rfl, hst3⟩ := HST9.out.push HFL.out hown3 hg3 hb3; have HST3 := Lib.hid hst3; have HG3 := Lib.hid hg3; have hz3 := hg3.size; clear hown3 hb3 hg3 hst3)
          simp only [World.size_alloc] at hz3
          go_roundw
          case rel => exact ⟨k + 1, G3, _, c3, _, by omega, by go_num, rfl, World.ownsRow.kept ((own_below HO.out hb9).alloc _) HG3.out (.inr (own_kinds (own_below HO.out hb9) HST9.out.out tie_ne)), by rw [HSU.out]; exact HST3.out, hge.out.push (by simp [Value.ownBlock]; omega), by omega⟩
          case measure => simp [intOf]; omega
    · obtain rfl : k = n := by omega
      have hm := hst.len
      rw [List.take_of_length_le (by rw [hrk.out.len]; exact Nat.le_refl _)] at hst hm
      have HST := Lib.hid hst
      have HM := Lib.hid hm
      clear hst hown hm
      go_wp2_with fail
      go_ret
      have h1 := HM.out
      subst h1
      exact ⟨G, cc, vs, rfl, HST.out⟩
end Go.Proofs.YtbaomhneboojpaaDoor
