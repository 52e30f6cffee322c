/- Contract: spec.l22Groups. -/
import Derived.Test.YtgdmiddiaogpaaaPl
import Derived.IntWalk
import Derived.Deep.RegionLaw
namespace Go.Proofs.Ytgdmiddiaogpaaa
open Go.RowKit Go.BigFrame
attribute [local go_sem] sub_cell sub_frozen drewN_setCell

theorem own_drew {w : World} {b n s : Nat} {e : TypeId} {v : Value} {xs : List Value} (h : w.ownsRow b e s v n xs) : w.drew.ownsRow b e s v n xs := h
/-- An older row stays while a younger one is added to. -/
theorem own_elder0 {w9 w' : World} {b n s N : Nat} {e : TypeId} {v v0 : Value} {xs : List Value} {o : Obj} (ho : w9.ownsRow b e s v n xs) (hlt : ∀ g, v.ownBlock = some g → g < N) (hge : ∀ g, v0.ownBlock = some g → N ≤ g) (hg : (w9.alloc o).grownBy w' v0.ownBlock) : w'.ownsRow b e s v n xs := by
  refine World.ownsRow.kept (ho.alloc o) hg ?_
  cases h : v.ownBlock with
  | none => exact .inl rfl
  | some g =>
    right
    intro e
    have h1 := hlt g h
    have h2 := hge g e.symm
    omega
theorem info_intsS : (Try.prog.info? 40).map (fun i => (i.zero, i.size, i.bytes)) = some (some (.slice none 0 0), 1, 24) := by kernel_rfl
theorem ints_ne : (2 : TypeId) ≠ 40 := by decide
/-- Groups in memory, to be read. -/
structure GrpIn (N : Nat) (wr : World) (G m c : Nat) (gs : List (List Nat)) (vs : List Value) : Prop where
  out : wr.ownsRow N 40 1 (.slice (some ⟨G, 0, none⟩) m c) m vs
  grp : Groups wr N vs (gs.map zl)
  len : gs.length = m
section
variable {N G m c : Nat} {wr w' : World} {gs : List (List Nat)} {vs : List Value}
theorem GrpIn.later (h : GrpIn N wr G m c gs vs) (hb : Below wr.heap.size wr w') : GrpIn N w' G m c gs vs := ⟨own_below h.out hb, h.grp.below hb, h.len⟩
theorem GrpIn.alloc (h : GrpIn N wr G m c gs vs) (o : Obj) : GrpIn N (wr.alloc o) G m c gs vs := ⟨h.out.alloc o, h.grp.alloc o, h.len⟩
theorem GrpIn.vlen (h : GrpIn N wr G m c gs vs) : vs.length = m := by rw [h.grp.len, List.length_map]; exact h.len
theorem GrpIn.far (h : GrpIn N wr G m c gs vs) {a : Addr} (ha : a.block < N) (u : Value) : GrpIn N (wr.setCell a u) G m c gs vs :=
  ⟨ownsRow_setCell_other h.out (own_ne_old h.out ha) u, h.grp.far (fun k v hv e => by have := (h.grp.lt hv e).1; omega) u, h.len⟩
theorem GrpIn.at_ {j : Nat} {g : List Nat} (h : GrpIn N wr G m c gs vs) (hj : gs[j]? = some g) (hg : g ≠ []) :
    ∃ gb cap, wr.cell? ⟨G, j, none⟩ = some (.slice (some ⟨gb, 0, none⟩) g.length cap) ∧ N ≤ gb ∧ gb < wr.heap.size ∧ vs[j]? = some (.slice (some ⟨gb, 0, none⟩) g.length cap) := by
  obtain ⟨v, hv, ho⟩ := h.grp.get (k := j) (l := zl g) (by simp [hj])
  rw [zl_len] at ho
  obtain ⟨gb, cap, rfl, h1, h2⟩ := ho.form (List.length_pos_iff.2 hg)
  exact ⟨gb, cap, own_cell h.out hv, h1, h2, hv⟩
theorem GrpIn.elem {j gb cap q i : Nat} {g : List Nat} (h : GrpIn N wr G m c gs vs) (hj : gs[j]? = some g) (hv : vs[j]? = some (.slice (some ⟨gb, 0, none⟩) g.length cap)) (hq : g[q]? = some i) : wr.cell? ⟨gb, q, none⟩ = some (.int .i64 (i : Int)) := by
  have ho := h.grp.own j _ (zl g) hv (by simp [hj])
  rw [zl_len] at ho
  exact own_cell ho (by rw [List.getElem?_map, zl_get hq]; rfl)
theorem GrpIn.push {i : Nat} {v' : Value} {w9 : World} (h : GrpIn N w9 G m c gs vs) (hN : N ≤ w9.heap.size)
    (hown : w'.ownsRow N 40 1 v' (m + 1) (vs ++ [.slice (some ⟨w9.heap.size, 0, none⟩) 1 1]))
    (hg : (w9.alloc (.cells #[.int .i64 (i : Int)] 2)).grownBy w' (some G)) :
    ∃ G' c', v' = .slice (some ⟨G', 0, none⟩) (m + 1) c' ∧ GrpIn N w' G' (m + 1) c' (gs ++ [[i]]) (vs ++ [.slice (some ⟨w9.heap.size, 0, none⟩) 1 1]) := by
  obtain ⟨G', c', hv, _, _⟩ := hown.form (by omega)
  subst hv
  refine ⟨G', c', rfl, ⟨hown, ?_, by simp [h.len]⟩⟩
  rw [List.map_append, List.map_singleton]
  have g1 := (h.grp.alloc (.cells #[.int .i64 (i : Int)] 2)).push (v := .slice (some ⟨w9.heap.size, 0, none⟩) 1 1) (l := zl [i]) (own_lit hN i) (fun q u hu => by
    cases hub : u.ownBlock with
    | none => exact ⟨.inl rfl, .inr (by simp [Value.ownBlock])⟩
    | some g =>
      have := (h.grp.lt hu hub).2
      exact ⟨.inr (by simp [Value.ownBlock]; omega), .inr (by simp [Value.ownBlock]; omega)⟩)
  exact g1.kept hg fun q u hu => .inr (g1.ne_kind (h.out.alloc _) ints_ne q u hu)
theorem GrpIn.join {i : Nat} {g0 : List Nat} {v0 v' : Value} {w9 : World} (h : GrpIn N w9 G (m + 1) c (gs ++ [g0]) vs) (hv : vs[m]? = some v0)
    (hown : w'.ownsRow N 2 1 v' (g0.length + 1) ((zl g0).map (Value.int .i64) ++ [.int .i64 (i : Int)]))
    (hg : (w9.alloc (.cells #[.int .i64 (i : Int)] 2)).grownBy w' v0.ownBlock)
    (hat : v'.ownBlock = v0.ownBlock ∨ v'.ownBlock = some (w9.alloc (.cells #[.int .i64 (i : Int)] 2)).heap.size) :
    GrpIn N (w'.setCell ⟨G, m, none⟩ v') G (m + 1) c (gs ++ [g0 ++ [i]]) (vs.set m v') := by
  have hl : gs.length = m := by have := h.len; simpa using this
  have hne : v0.ownBlock ≠ some G := h.grp.ne_kind h.out ints_ne m v0 hv
  have h1 := World.ownsRow.kept (h.out.alloc (.cells #[.int .i64 (i : Int)] 2)) hg (.inr (fun e => hne e.symm))
  have g1 := (h.grp.alloc (.cells #[.int .i64 (i : Int)] 2)).put (w' := w') (v' := v') (l' := zl (g0 ++ [i])) hv hg (by
    rw [zl_snoc, List.map_append, List.length_append, zl_len]; exact hown) (by
    rcases hat with e | e
    · exact .inl e
    · exact .inr ⟨_, e, Nat.le_refl _⟩)
  refine ⟨own_setAt h1 (j := m) (by omega) v', ?_, by simp [hl]⟩
  have g2 := g1.far (a := ⟨G, m, none⟩) (fun q u hu => g1.ne_kind h1 ints_ne q u hu) v'
  have e : (gs ++ [g0]).map zl = gs.map zl ++ [zl g0] := by simp
  rw [e] at g2
  have e2 : (gs.map zl ++ [zl g0]).set m (zl (g0 ++ [i])) = (gs ++ [g0 ++ [i]]).map zl := by
    rw [List.set_append_right _ _ (by simp [hl])]
    simp [hl]
  rwa [e2] at g2
end
end Go.Proofs.Ytgdmiddiaogpaaa
/- Contract: spec.l22Groups. -/
namespace Go.Proofs.Ytgdmiddiaogpaaa
open Go.RowKit Go.BigFrame
attribute [local go_sem] sub_cell sub_frozen drewN_setCell

/-- What the groups' function leaves. -/
def GrpsPost (gs : List (List Nat)) (w : World) (r : Ending) (w' : World) : Prop :=
  ∃ G c vs, r = .returned (.slice (some ⟨G, 0, none⟩) gs.length c) ∧ GrpIn w.heap.size w' G gs.length c gs vs ∧ Below w.heap.size w w'

set_option maxHeartbeats 8000000 in
theorem c_l22Groups (A : Option Addr) (n c : Nat) (l : List TResult) (w : World) (ha : Sl resultC w w.heap.size 3 A n l) (hn : n ≤ 40) :
    Calls Try.prog 69 #[.slice A n c] w (GrpsPost (grpL (btr l) (rkL (btr l) n)) w) := by
  have HA := Lib.hid ha
  clear ha
  have HA1 := Lib.hid (fun o => HA.out.later (Below.alloc (Below.refl _ w) (Nat.le_refl _) o))
  have hrk := Lib.hid (rkL_ok (btr_wk l) n)
  go_enter Try.func69, Try.ntmps69
  go_wp2_with (go_at_call 64; refine (c_l22Rank _ _ _ l _ (HA1.out _) hn).mono ?_; intro r_ w2 hp2; obtain ⟨B, d, rfl, ow, hb2⟩ := hp2.elim (n := n) (by rw [zl_len, hrk.out.len]); have OW := Lib.hid ow; have HB2 := Lib.hid hb2; clear ow hb2 hp2)
  have hz2 := HB2.out.size
  simp only [World.size_alloc] at hz2
  go_loopw [3, 5] (fun v i wr => ∃ (k G m cc : Nat) (vs : List Value), k ≤ n ∧ i = .int .i64 k ∧ v = .slice (some ⟨G, 0, none⟩) m cc ∧ wr.ownsRow (w.heap.size + 1) 2 1 (.slice B n d) n ((zl (rkL (btr l) n)).map (Value.int .i64)) ∧ GrpIn w.heap.size wr G m cc (grpL (btr l) ((rkL (btr l) n).take k)) vs ∧ Below w.heap.size w wr ∧ Hid (GE w2.heap.size vs) ∧ w2.heap.size ≤ wr.heap.size) (fun _ i _ => n - (intOf i).toNat)
  case atStart =>
    refine ⟨0, w.heap.size, 0, 0, [], Nat.zero_le _, rfl, rfl, by have := OW.out; rwa [World.size_alloc] at this, ⟨?_, Groups.nil _ _, rfl⟩, ((Below.refl _ _).alloc (Nat.le_refl _) _).trans (HB2.out.mono (by simp)), GE.nil _, Nat.le_refl _⟩
    exact own_below (World.ownsRow_made w #[] 0 (Nat.le_refl _) (by simp [maxLen]) rfl) HB2.out
  case round =>
    obtain ⟨k, G, m, cc, vs, hk, rfl, rfl, hown, hst, hB, hge, hzN⟩ := hrel
    have hz := hB.size
    by_cases hlt : k < n
    · obtain ⟨g, p, rfl, hg1, hg2, hp, hpn, hc⟩ := rk_at (btr_wk l) hown hlt
      obtain ⟨gok, gfl⟩ := grpL_take (btr_wk l) hrk.out k (by omega)
      have hsucc := grpL_succ (lt := btr l) hp
      have hfl : (grpL (btr l) ((rkL (btr l) n).take k)).flatten.length = k := by
        rw [gfl, List.length_take, hrk.out.len]; omega
      obtain ⟨b, o, s, x, e, rfl, hb1, hb3, hx, c0, c1, c2⟩ := result_at HA.out hB hpn
      have i1 : (k : Int) < n := by omega
      have i2 : (p : Int) < n := by omega
      have HO := Lib.hid hown
      have HST := Lib.hid hst
      have HFL := Lib.hid hfl
      have HP := Lib.hid hp
      clear hown hp hfl hst gfl
      by_cases hk0 : k = 0
      · subst hk0
        have hsu : grpL (btr l) ((rkL (btr l) n).take (0 + 1)) = [] ++ [[p]] := by rw [hsucc]; rfl
        have HSU := Lib.hid hsu
        obtain rfl : 0 = m := HST.out.len
        obtain rfl : [] = vs := (List.eq_nil_of_length_eq_zero HST.out.vlen).symm
        have hd : decide (0 < 0) = false := by simp
        clear hsucc gok hx hsu
        go_wp2_with fail
        go_quiet (fail)
        obtain ⟨w9, hw9⟩ : ∃ W, W = World.drewN wr nq := ⟨_, rfl⟩
        have hb9 : Below wr.heap.size wr w9 := by rw [hw9]; exact below_drewN (Below.refl _ _) nq
        rw [← hw9]
        clear hw9
        have HST9 := Lib.hid (HST.out.later hb9)
        have HO9 := Lib.hid (own_below HO.out hb9)
        have HB9 := Lib.hid (hB.trans (hb9.mono hz))
        have hz9 := hb9.size
        obtain ⟨hc9, hf9⟩ := bcell hb9
        clear hb9
        go_wp2_with (at_builtin; refine app1 (by rfl) (.tmp 51) (.tmp 57) _ (by rfl) w.heap.size 40 _ 24 Try.underlying47 info_intsS (by rfl) _ _ (by rfl) _ _ _ (by rfl) (HST9.out.out.alloc _) (by rw [World.size_alloc]; rfl) (by omega) (by omega) (by simp; omega) ?_; intro v3 w3 hown3 hb3 hg3; obtain ⟨G3, c3, rfl, hst3⟩ := HST9.out.push (by omega) hown3 hg3; have HST3 := Lib.hid hst3; have HG3 := Lib.hid hg3; have HB3 := Lib.hid hb3; have hz3 := hg3.size; clear hown3 hb3 hg3 hst3)
        simp only [World.size_alloc] at hz3
        go_roundw
        case rel => exact ⟨0 + 1, G3, _, c3, _, by omega, by go_num, rfl, World.ownsRow.kept (HO9.out.alloc _) HG3.out (.inr (own_kinds HO9.out HST9.out.out ints_ne)), by rw [HSU.out]; exact HST3.out, (HB9.out.alloc (by omega) _).trans HB3.out, hge.out.push (by simp [Value.ownBlock]; omega), by omega⟩
        case measure => simp [intOf]; omega
      · obtain ⟨k, rfl⟩ : ∃ q, k = q + 1 := ⟨k - 1, by omega⟩
        obtain ⟨g', p0, hgg, _, _, hp0, hpn0, hc0⟩ := rk_at (btr_wk l) HO.out (show k < n by omega)
        simp only [Option.some.injEq, Addr.mk.injEq, and_true] at hgg
        subst hgg
        obtain ⟨s0, x0, e0, _, _, hx0, _, y1, y2⟩ := result_atB HA.out hB hpn0
        have hd : decide (0 < k + 1) = true := by simp
        have hwk : IntKind.i64.wrap (k : Int) = k := IntWalk.i64_in _ (by omega)
        have i3 : (k : Int) < n := by omega
        have i4 : (p0 : Int) < n := by omega
        have i5 : (k : Int) + 1 < n := by omega
        rcases List.eq_nil_or_concat (grpL (btr l) ((rkL (btr l) n).take (k + 1))) with hgs | ⟨gs0, g0, hgs⟩
        · have := HFL.out
          rw [hgs] at this
          simp at this
        rw [List.concat_eq_append] at hgs
        have hpv := grp_prev (btr_wk l) hrk.out (by omega) hgs hp0 HP.out
        rw [hgs] at hsucc gok
        have HST0 := Lib.hid (hgs ▸ HST.out)
        have HFL0 := Lib.hid (hgs ▸ HFL.out)
        have HST := HST0
        clear hgs HST0
        obtain ⟨m, rfl⟩ : ∃ q, m = q + 1 := ⟨gs0.length, by have := HST.out.len; simpa using this.symm⟩
        have hl0 : gs0.length = m := by have := HST.out.len; simpa using this
        obtain ⟨v0, hv0, how0⟩ := HST.out.grp.get (k := m) (l := zl g0) (by simp [← hl0])
        rw [zl_len] at how0
        have hpos : 0 < g0.length := List.length_pos_iff.2 (gok.ne g0 (by simp))
        have hq0 : g0.length ≤ k + 1 := by have := HFL0.out; simp at this; omega
        have hm40 : m + 1 ≤ k + 1 := by
          have h1 := ne_len gok.ne
          rw [HFL0.out] at h1
          simpa [hl0] using h1
        obtain ⟨g1, cap1, rfl, hgg1, hgg2⟩ := how0.form hpos
        have hcell1 := own_cell HST.out.out hv0
        have HV0 := Lib.hid hv0
        have HOW0 := Lib.hid how0
        have HGE0 := Lib.hid (hge.out.at_ hv0)
        have hG1 := own_block_lt HST.out.out
        have i6 : (m : Int) < ((m + 1 : Nat) : Int) := by omega
        cases hr : betB (s0, x0, e0) (s, x, e)
        · have HR := Lib.hid hr
          have HSU := Lib.hid (hsucc.trans (grpA_old (hpv.trans (bool_lt hx0 hx hr))))
          clear hsucc gok hx hx0 hr hv0 how0 hp0 hpv
          go_wp2_with fail
          have hk1 : (0 : Int) ≤ (k : Int) + 1 := by omega
          have hk2 : ((k : Int) + 1).toNat = k + 1 := by omega
          go_quiet ((go_at_call 61; exact d0 (c_l22Better s0 s x0 e0 x e _ _ _ _ _ HR.out _ y1 y2 c1 c2)))
          obtain ⟨w9, hw9⟩ : ∃ W, W = World.drewN wr nq := ⟨_, rfl⟩
          have hb9 : Below wr.heap.size wr w9 := by rw [hw9]; exact below_drewN (Below.refl _ _) nq
          rw [← hw9]
          clear hw9 hwk hk1 hk2
          have HST9 := Lib.hid (HST.out.later hb9)
          have OW9 := Lib.hid (own_below HOW0.out hb9)
          have HSZ9 : Hid (w.heap.size ≤ (w9.alloc (.cells #[.int .i64 (p : Int)] 2)).drew.heap.size) := by have h1 := hb9.size; show w.heap.size ≤ (w9.alloc _).heap.size; simp; omega
          have HO9 := Lib.hid (own_below HO.out hb9)
          have HB9 := Lib.hid (hB.trans (hb9.mono hz))
          have hz9 := hb9.size
          obtain ⟨hc9, hf9⟩ := bcell hb9
          clear hb9
          go_wp2_with fail
          have i7 : (m : Int) < (m : Int) + 1 := by omega
          have hk1 : (0 : Int) ≤ (k : Int) + 1 := by omega
          have hk2 : ((k : Int) + 1).toNat = k + 1 := by omega
          have k9a := own_cell HST9.out.out HV0.out
          have hG9 := (own_block_lt HST9.out.out).2
          have k9b := own_cell (j := k + 1) (u := .int .i64 (p : Int)) HO9.out (by rw [List.getElem?_map, zl_get HP.out]; rfl)
          go_region_law ((refine apStep (by rfl) (.tmp 43) (.tmp 48) _ (by rfl) w.heap.size 2 _ 8 Try.underlying40 info_int64 (by rfl) _ _ g0.length _ (by rfl) (own_drew (OW9.out.alloc _)) _ _ 1 1 [.int .i64 (p : Int)] (by rfl) (rd_lit _ _) (by simp [Value.oneCell']) (by omega) (by omega) HSZ9.out ?_; intro v3 w3 hown3 hb3 hg3 hat3; obtain ⟨A3, c3, rfl⟩ := own_slice hown3; have HW3 := Lib.hid hown3; have HB3 : Hid (Below w.heap.size (w9.alloc (.cells #[.int .i64 (p : Int)] 2)) w3) := ⟨hb3.os, hb3.tape, hb3.output, hb3.size, hb3.block⟩; have HG3 : Hid ((w9.alloc (.cells #[.int .i64 (p : Int)] 2)).grownBy w3 (Value.ownBlock (.slice (some ⟨g1, 0, none⟩) g0.length cap1))) := ⟨hg3.os, hg3.tape, hg3.output, hg3.size, hg3.block⟩; have HAT3 := Lib.hid hat3; have ho3 := Lib.hid (World.ownsRow.kept (HST9.out.out.alloc _) HG3.out (.inr (fun e => (own_kinds OW9.out HST9.out.out ints_ne) e.symm))); have ho4 := Lib.hid (own_elder0 HO9.out (own_lt OW.out) HGE0.out HG3.out); have ks1 := own_cell ho3.out HV0.out; have f3 := own_frozen ho3.out m; have hz3 := HG3.out.size; have hG3 := (own_block_lt ho3.out).2; clear hown3 hb3 hg3 hat3))
          all_goals
            simp only [World.size_alloc] at hz3
            clear hk1 hk2
            go_wp2_with fail
            go_roundw
            case rel =>
              refine ⟨k + 1 + 1, G, m + 1, cc, vs.set m (.slice A3 (g0.length + 1) c3), by omega, by go_num, rfl, own_elder HO9.out (own_lt OW.out) HGE0.out HG3.out (own_kinds HO9.out HST9.out.out ints_ne), by rw [HSU.out]; exact HST9.out.join HV0.out HW3.out HG3.out HAT3.out, ((HB9.out.alloc (by omega) _).trans HB3.out).setCell (by dsimp only; omega) _, hge.out.put (fun q hq => ?_), by simp; omega⟩
              rcases HAT3.out with e | e
              · rw [e] at hq; exact HGE0.out q hq
              · rw [e] at hq
                have e2 : (w9.alloc (.cells #[.int .i64 (p : Int)] 2)).heap.size = q := by simpa using hq
                simp at e2; omega
            case measure => simp [intOf]; omega
        · have HR := Lib.hid hr
          have HSU := Lib.hid (hsucc.trans (grpA_new (hpv.trans (bool_lt hx0 hx hr))))
          clear hsucc gok hx hx0 hr hv0 how0 hp0 hpv
          go_wp2_with fail
          have hk1 : (0 : Int) ≤ (k : Int) + 1 := by omega
          have hk2 : ((k : Int) + 1).toNat = k + 1 := by omega
          go_quiet ((go_at_call 61; exact d0 (c_l22Better s0 s x0 e0 x e _ _ _ _ _ HR.out _ y1 y2 c1 c2)))
          obtain ⟨w9, hw9⟩ : ∃ W, W = World.drewN wr nq := ⟨_, rfl⟩
          have hb9 : Below wr.heap.size wr w9 := by rw [hw9]; exact below_drewN (Below.refl _ _) nq
          rw [← hw9]
          clear hw9 hwk hk1 hk2
          have HST9 := Lib.hid (HST.out.later hb9)
          have HO9 := Lib.hid (own_below HO.out hb9)
          have HB9 := Lib.hid (hB.trans (hb9.mono hz))
          have hz9 := hb9.size
          obtain ⟨hc9, hf9⟩ := bcell hb9
          clear hb9
          go_wp2_with (at_builtin; refine app1 (by rfl) (.tmp 51) (.tmp 57) _ (by rfl) w.heap.size 40 _ 24 Try.underlying47 info_intsS (by rfl) _ _ (by rfl) _ _ _ (by rfl) (HST9.out.out.alloc _) (by rw [World.size_alloc]; rfl) (by omega) (by omega) (by simp; omega) ?_; intro v3 w3 hown3 hb3 hg3; obtain ⟨G3, c3, rfl, hst3⟩ := HST9.out.push (by omega) hown3 hg3; have HST3 := Lib.hid hst3; have HG3 := Lib.hid hg3; have HB3 := Lib.hid hb3; have hz3 := hg3.size; clear hown3 hb3 hg3 hst3)
          simp only [World.size_alloc] at hz3
          go_roundw
          case rel => exact ⟨k + 1 + 1, G3, _, c3, _, by omega, by go_num, rfl, World.ownsRow.kept (HO9.out.alloc _) HG3.out (.inr (own_kinds HO9.out HST9.out.out ints_ne)), by rw [HSU.out]; exact HST3.out, (HB9.out.alloc (by omega) _).trans HB3.out, hge.out.push (by simp [Value.ownBlock]; omega), by omega⟩
          case measure => simp [intOf]; omega
    · obtain rfl : k = n := by omega
      have hm := hst.len
      rw [List.take_of_length_le (by rw [hrk.out.len]; exact Nat.le_refl _)] at hst hm
      have HST := Lib.hid hst
      have HM := Lib.hid hm
      clear hst hown hm
      go_wp2_with fail
      go_ret
      have h1 := HM.out
      subst h1
      exact ⟨G, cc, vs, rfl, HST.out, hB⟩
end Go.Proofs.Ytgdmiddiaogpaaa
