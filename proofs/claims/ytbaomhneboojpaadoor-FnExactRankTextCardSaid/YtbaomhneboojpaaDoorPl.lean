/- Contracts: PlacesOfResults. -/
import Derived.Test.YtbaomhneboojpaaDoorTy
import Derived.Test.YtbaomhneboojpaaDoorRw
namespace Go.Proofs.YtbaomhneboojpaaDoor
open Go.RowKit Go.BigFrame
attribute [local go_sem] sub_cell sub_frozen drewN_setCell

def placeI (lt : Nat → Nat → Bool) (n i : Nat) : Int := (btrN lt n i : Int) + 1
def placesZ (l : List TResult) : List Int := if ressB l = true then (List.range l.length).map (placeI (btr l) l.length) else []
theorem placesZ_len (l : List TResult) : (placesZ l).length ≤ 40 := by
  unfold placesZ
  split
  · rename_i h; rw [List.length_map, List.length_range]; exact ress_len h
  · simp

set_option maxHeartbeats 2000000 in
theorem c_l22Place (A : Option Addr) (n c k : Nat) (l : List TResult) (w : World) (ha : Sl resultC w w.heap.size 3 A n l) (hn : n ≤ 40) (hk : k < n) :
    Calls Tryd.prog 13 #[.slice A n c, .int .i64 (k : Int)] w fun e w' => e = .returned (.int .i64 (placeI (btr l) n k)) ∧ Below w.heap.size w w' := by
  have HA := Lib.hid ha
  clear ha
  go_enter Tryd.func13, Tryd.ntmps13
  go_wp2_with fail
  go_loopw [5, 6] (fun v i wr => ∃ q z : Nat, q ≤ n ∧ z ≤ q ∧ i = .int .i64 q ∧ v = .int .i64 ((z : Int) + 1) ∧ Below w.heap.size w wr ∧ Hid (btrN (btr l) q k = z)) (fun _ i _ => n - (intOf i).toNat)
  case atStart => exact ⟨0, 0, Nat.zero_le _, by omega, rfl, rfl, Below.refl _ _, rfl⟩
  case round =>
    obtain ⟨q, z, hq, hzq, rfl, rfl, hB, hz⟩ := hrel
    have hsz := hB.size
    by_cases hlt : q < n
    · obtain ⟨b, o, s, x, e, rfl, hb1, hb2, hx, c0, c1, c2⟩ := result_at HA.out hB hlt
      obtain ⟨s', x', e', _, _, hx', f0, f1, f2⟩ := result_atB HA.out hB hk
      have i1 : (q : Int) < n := by omega
      have i2 : (k : Int) < n := by omega
      cases hr : betB (s, x, e) (s', x', e')
      · have HR := Lib.hid hr
        have HZ : Hid (btrN (btr l) (q + 1) k = z) := by show _ = _; rw [btrN_succ, hz.out, bool_lt hx hx' hr]; rfl
        clear hr hx hx' hz
        go_wp2_with fail
        go_quiet ((go_at_call 21; exact d0 (c_l22Better s s' x e x' e' _ _ _ _ _ HR.out _ c1 c2 f1 f2)))
        go_wp2_with fail
        go_roundw
        case rel => exact ⟨q + 1, z, by omega, by omega, by go_num, rfl, below_drewN hB _, HZ⟩
        case measure => simp [intOf]; omega
      · have HR := Lib.hid hr
        have HZ : Hid (btrN (btr l) (q + 1) k = z + 1) := by show _ = _; rw [btrN_succ, hz.out, bool_lt hx hx' hr]; rfl
        clear hr hx hx' hz
        go_wp2_with fail
        go_quiet ((go_at_call 21; exact d0 (c_l22Better s s' x e x' e' _ _ _ _ _ HR.out _ c1 c2 f1 f2)))
        go_wp2_with fail
        go_roundw
        case rel => exact ⟨q + 1, z + 1, by omega, by omega, by go_num, by go_num, below_drewN hB _, HZ⟩
        case measure => simp [intOf]; omega
    · obtain rfl : q = n := by omega
      go_wp2_with fail
      go_ret
      exact ⟨ret_int (by rw [placeI, hz.out]), hB⟩


/-- The places with their groups, to be read. -/
structure TieIn (N : Nat) (wr : World) (G m c : Nat) (gs : List (List Nat)) (vs : List Value) : Prop where
  out : wr.ownsRow N 43 2 (.slice (some ⟨G, 0, none⟩) m c) m (flat tieC (tieL gs vs))
  grp : Groups wr N vs (gs.map zl)
  len : gs.length = m
theorem TieSt.rd {w0 wr : World} {G m c : Nat} {gs : List (List Nat)} {vs : List Value} (h : TieSt w0 wr G m c gs vs) : TieIn w0.heap.size wr G m c gs vs := ⟨h.out, h.grp, h.len⟩
theorem TieIn.later {N G m c : Nat} {wr w' : World} {gs : List (List Nat)} {vs : List Value} (h : TieIn N wr G m c gs vs) (hb : Below wr.heap.size wr w') : TieIn N w' G m c gs vs := ⟨own_below h.out hb, h.grp.below hb, h.len⟩
theorem TieIn.alloc {N G m c : Nat} {wr : World} {gs : List (List Nat)} {vs : List Value} (h : TieIn N wr G m c gs vs) (o : Obj) : TieIn N (wr.alloc o) G m c gs vs := ⟨h.out.alloc o, h.grp.alloc o, h.len⟩
theorem TieIn.far {N G m c : Nat} {wr : World} {gs : List (List Nat)} {vs : List Value} (h : TieIn N wr G m c gs vs) {a : Addr} (ha : a.block < N) (u : Value) : TieIn N (wr.setCell a u) G m c gs vs :=
  ⟨ownsRow_setCell_other h.out (own_ne_old h.out ha) u, h.grp.far (fun k v hv e => by have := (h.grp.lt hv e).1; omega) u, h.len⟩
/-- The j-th of them. -/
theorem TieIn.at_ {N G m c j : Nat} {wr : World} {gs : List (List Nat)} {g : List Nat} {vs : List Value} (h : TieIn N wr G m c gs vs) (hj : gs[j]? = some g) (hg : g ≠ []) :
    ∃ gb cap, wr.cell? ⟨G, j * 2, none⟩ = some (.int .i64 ((plc gs j : Int) + 1)) ∧ wr.cell? ⟨G, j * 2 + 1, none⟩ = some (.slice (some ⟨gb, 0, none⟩) g.length cap) ∧ N ≤ gb ∧ gb < wr.heap.size ∧ vs[j]? = some (.slice (some ⟨gb, 0, none⟩) g.length cap) := by
  obtain ⟨v, hv, ho⟩ := h.grp.get (k := j) (l := zl g) (by simp [hj])
  rw [zl_len] at ho
  obtain ⟨gb, cap, rfl, h1, h2⟩ := ho.form (List.length_pos_iff.2 hg)
  exact ⟨gb, cap, own_cell h.out (flat_get tieC_len (tieL_get hv) (j := 0) rfl), own_cell h.out (flat_get tieC_len (tieL_get hv) (j := 1) rfl), h1, h2, hv⟩
theorem TieIn.elem {N G m c j gb cap q i : Nat} {wr : World} {gs : List (List Nat)} {g : List Nat} {vs : List Value} (h : TieIn N wr G m c gs vs) (hj : gs[j]? = some g) (hv : vs[j]? = some (.slice (some ⟨gb, 0, none⟩) g.length cap)) (hq : g[q]? = some i) :
    wr.cell? ⟨gb, q, none⟩ = some (.int .i64 (i : Int)) := by
  have ho := h.grp.own j _ (zl g) hv (by simp [hj])
  rw [zl_len] at ho
  exact own_cell ho (by rw [List.getElem?_map, zl_get hq]; rfl)
theorem flat_at {gs : List (List Nat)} {g : List Nat} {j q i : Nat} (hj : gs[j]? = some g) (hq : g[q]? = some i) : gs.flatten[plc gs j + q]? = some i := by
  have hjl := (List.getElem?_eq_some_iff.1 hj).1
  have hql := (List.getElem?_eq_some_iff.1 hq).1
  have e : gs = gs.take j ++ g :: gs.drop (j + 1) := by
    conv => lhs; rw [← List.take_append_drop j gs]
    rw [List.drop_eq_getElem_cons hjl, (List.getElem?_eq_some_iff.1 hj).2]
  have key : gs.flatten = (gs.take j).flatten ++ (g ++ (gs.drop (j + 1)).flatten) := by
    conv => lhs; rw [e]
    rw [List.flatten_append, List.flatten_cons]
  rw [key, plc, List.getElem?_append_right (by omega), List.getElem?_append_left (by omega)]
  simpa using hq
end Go.Proofs.YtbaomhneboojpaaDoor
/- Contract: impl.PlacesOfResults. -/
namespace Go.Proofs.YtbaomhneboojpaaDoor
open Go.RowKit Go.BigFrame
attribute [local go_sem] sub_cell sub_frozen drewN_setCell

/-- What is known of the groups of a ranking. -/
structure GInf (l : List TResult) (n : Nat) (gs : List (List Nat)) : Prop where
  ok : GOK (btr l) gs
  fl : gs.flatten = rkL (btr l) n
  rk : IsRk (btr l) n (rkL (btr l) n)
theorem ginf (l : List TResult) (n : Nat) : GInf l n (grpL (btr l) (rkL (btr l) n)) := by
  have := grpL_ok (btr_wk l) (rkL_ok (btr_wk l) n)
  exact ⟨this.1, this.2, rkL_ok (btr_wk l) n⟩
section
variable {l : List TResult} {n j q i : Nat} {gs : List (List Nat)} {g : List Nat}
theorem GInf.at_ (h : GInf l n gs) (hj : gs[j]? = some g) (hq : g[q]? = some i) : (rkL (btr l) n)[plc gs j + q]? = some i := by rw [← h.fl]; exact flat_at hj hq
theorem GInf.lt (h : GInf l n gs) (hj : gs[j]? = some g) (hq : g[q]? = some i) : i < n := h.rk.lt_ (List.mem_of_getElem? (h.at_ hj hq))
theorem GInf.place (h : GInf l n gs) (hj : gs[j]? = some g) (hq : g[q]? = some i) : placeI (btr l) n i = (plc gs j : Int) + 1 := by
  rw [placeI, btrN_plc (btr_wk l) h.rk h.ok h.fl hj (List.mem_of_getElem? hq)]
theorem GInf.ne (h : GInf l n gs) (hj : gs[j]? = some g) : g ≠ [] := h.ok.ne g (List.mem_of_getElem? hj)
theorem GInf.plc_le (h : GInf l n gs) (j : Nat) : plc gs j ≤ n := by
  have := Go.Proofs.YtbaomhneboojpaaDoor.plc_le gs j
  rwa [h.fl, h.rk.len] at this
theorem GInf.end_ (h : GInf l n gs) : plc gs gs.length = n := by rw [plc_all, h.fl, h.rk.len]
theorem GInf.glen (h : GInf l n gs) (hj : gs[j]? = some g) : g.length ≤ n := by
  have := h.plc_le (j + 1)
  rw [plc_succ hj] at this
  omega
theorem GInf.len (h : GInf l n gs) : gs.length ≤ n := by
  have := ne_len h.ok.ne
  rwa [h.fl, h.rk.len] at this
end

end Go.Proofs.YtbaomhneboojpaaDoor
