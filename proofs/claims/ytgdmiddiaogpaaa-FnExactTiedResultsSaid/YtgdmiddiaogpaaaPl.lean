/- Contracts: PlacesOfResults. -/
import Derived.Test.YtgdmiddiaogpaaaTy
import Derived.Test.YtgdmiddiaogpaaaRw
namespace Go.Proofs.Ytgdmiddiaogpaaa
open Go.RowKit Go.BigFrame
attribute [local go_sem] sub_cell sub_frozen drewN_setCell

def placeI (lt : Nat → Nat → Bool) (n i : Nat) : Int := (btrN lt n i : Int) + 1
def placesZ (l : List TResult) : List Int := if ressB l = true then (List.range l.length).map (placeI (btr l) l.length) else []
theorem placesZ_len (l : List TResult) : (placesZ l).length ≤ 40 := by
  unfold placesZ
  split
  · rename_i h; rw [List.length_map, List.length_range]; exact ress_len h
  · simp

set_option maxHeartbeats 2000000 in
theorem c_l22Place (A : Option Addr) (n c k : Nat) (l : List TResult) (w : World) (ha : Sl resultC w w.heap.size 3 A n l) (hn : n ≤ 40) (hk : k < n) :
    Calls Try.prog 66 #[.slice A n c, .int .i64 (k : Int)] w fun e w' => e = .returned (.int .i64 (placeI (btr l) n k)) ∧ Below w.heap.size w w' := by
  have HA := Lib.hid ha
  clear ha
  go_enter Try.func66, Try.ntmps66
  go_wp2_with fail
  go_loopw [5, 6] (fun v i wr => ∃ q z : Nat, q ≤ n ∧ z ≤ q ∧ i = .int .i64 q ∧ v = .int .i64 ((z : Int) + 1) ∧ Below w.heap.size w wr ∧ Hid (btrN (btr l) q k = z)) (fun _ i _ => n - (intOf i).toNat)
  case atStart => exact ⟨0, 0, Nat.zero_le _, by omega, rfl, rfl, Below.refl _ _, rfl⟩
  case round =>
    obtain ⟨q, z, hq, hzq, rfl, rfl, hB, hz⟩ := hrel
    have hsz := hB.size
    by_cases hlt : q < n
    · obtain ⟨b, o, s, x, e, rfl, hb1, hb2, hx, c0, c1, c2⟩ := result_at HA.out hB hlt
      obtain ⟨s', x', e', _, _, hx', f0, f1, f2⟩ := result_atB HA.out hB hk
      have i1 : (q : Int) < n := by omega
      have i2 : (k : Int) < n := by omega
      cases hr : betB (s, x, e) (s', x', e')
      · have HR := Lib.hid hr
        have HZ : Hid (btrN (btr l) (q + 1) k = z) := by show _ = _; rw [btrN_succ, hz.out, bool_lt hx hx' hr]; rfl
        clear hr hx hx' hz
        go_wp2_with fail
        go_quiet ((go_at_call 61; exact d0 (c_l22Better s s' x e x' e' _ _ _ _ _ HR.out _ c1 c2 f1 f2)))
        go_wp2_with fail
        go_roundw
        case rel => exact ⟨q + 1, z, by omega, by omega, by go_num, rfl, below_drewN hB _, HZ⟩
        case measure => simp [intOf]; omega
      · have HR := Lib.hid hr
        have HZ : Hid (btrN (btr l) (q + 1) k = z + 1) := by show _ = _; rw [btrN_succ, hz.out, bool_lt hx hx' hr]; rfl
        clear hr hx hx' hz
        go_wp2_with fail
        go_quiet ((go_at_call 61; exact d0 (c_l22Better s s' x e x' e' _ _ _ _ _ HR.out _ c1 c2 f1 f2)))
        go_wp2_with fail
        go_roundw
        case rel => exact ⟨q + 1, z + 1, by omega, by omega, by go_num, by go_num, below_drewN hB _, HZ⟩
        case measure => simp [intOf]; omega
    · obtain rfl : q = n := by omega
      go_wp2_with fail
      go_ret
      exact ⟨ret_int (by rw [placeI, hz.out]), hB⟩

set_option maxHeartbeats 4000000 in
theorem c_sPlacesOfResults (A : Option Addr) (n c : Nat) (l : List TResult) (w : World) (ha : Sl resultC w w.heap.size 3 A n l) (hsz : RsSz l) (hn : n ≤ 1048576) :
    Calls Try.prog 34 #[.slice A n c] w (IntsPost (placesZ l) (rankC l) w) := by
  have HL := Lib.hid ha.1
  have HA := Lib.hid ha
  have HSZ := Lib.hid hsz
  clear ha hsz
  cases h1 : ressB l
  · have e1 : Hid (placesZ l = [] ∧ rankC l = 1) := by constructor <;> simp [placesZ, rankC, h1]
    go_enter Try.func34, Try.ntmps34
    go_wp2_with (go_at_call 58; refine (c_l22Ok _ _ _ l _ h1 _ HA.out HSZ.out hn).mono ?_; rintro r_ w1 ⟨rfl, hb1⟩)
    go_ret2
    rw [e1.out.1, e1.out.2]
    exact IntsPost.err hb1
  have h40 := ress_len h1
  rw [HL.out] at h40
  have e1 : Hid (placesZ l = (List.range n).map (placeI (btr l) n) ∧ rankC l = 0) := by constructor <;> simp [placesZ, rankC, h1, HL.out]
  go_enter Try.func34, Try.ntmps34
  go_wp2_with (go_at_call 58; refine (c_l22Ok _ _ _ l _ h1 _ HA.out HSZ.out hn).mono ?_; rintro r_ w1 ⟨rfl, hb1⟩)
  have hz1 := hb1.size
  go_loopw [4, 5] (fun v i wr => ∃ k : Nat, k ≤ n ∧ i = .int .i64 k ∧ Below w.heap.size w wr ∧ wr.ownsRow w.heap.size 2 1 v k (((List.range k).map (placeI (btr l) n)).map (Value.int .i64))) (fun _ i _ => n - (intOf i).toNat)
  case atStart => exact ⟨0, Nat.zero_le _, rfl, by (repeat' (first | (with_reducible exact Below.refl _ _) | (with_reducible assumption) | (with_reducible refine below_drewN ?_ _) | (with_reducible refine Below.drew ?_) | (with_reducible refine Below.alloc ?_ ?_ _) | (with_reducible refine Below.setCell ?_ ?_ _) | go_size)), own_base (World.ownsRow_made w1 #[] 0 (Nat.le_refl _) (by simp [maxLen]) rfl) hz1⟩
  case round =>
    obtain ⟨k, hk, rfl, hB, hown⟩ := hrel
    have hz := hB.size
    by_cases hlt : k < n
    · have HO := Lib.hid hown
      have HA1 := Lib.hid (HA.out.later hB)
      clear hown
      go_wp2_with (first | (go_at_call 66; refine (c_l22Place _ _ _ k l _ HA1.out h40 hlt).mono ?_; rintro r_ w2 ⟨rfl, hb2⟩; have HO2 := Lib.hid (own_below HO.out hb2); have hz2 := hb2.size; have HB2 := Lib.hid hb2; clear hb2) | (at_builtin; refine app1 rfl (.tmp 16) (.tmp 20) _ rfl w.heap.size 2 _ 8 Try.underlying40 info_int64 rfl _ _ rfl _ k _ rfl HO2.out rfl (by omega) (by omega) (by omega) ?_; intro v3 w3 hown3 hb3 _; have OW := Lib.hid hown3; have HB3 := Lib.hid hb3; clear hown3 hb3))
      go_roundw
      case rel => exact ⟨k + 1, by omega, by go_num, (hB.trans (HB2.out.mono hz)).trans HB3.out, by rw [List.range_succ, List.map_append, List.map_append]; exact OW.out⟩
      case measure => simp [intOf]; omega
    · obtain rfl : k = n := by omega
      go_wp2_with fail
      go_ret2
      rw [e1.out.1, e1.out.2]
      exact IntsPost.mk_ (by simp) hown hB

/-- The places with their groups, to be read. -/
structure TieIn (N : Nat) (wr : World) (G m c : Nat) (gs : List (List Nat)) (vs : List Value) : Prop where
  out : wr.ownsRow N 84 2 (.slice (some ⟨G, 0, none⟩) m c) m (flat tieC (tieL gs vs))
  grp : Groups wr N vs (gs.map zl)
  len : gs.length = m
theorem TieSt.rd {w0 wr : World} {G m c : Nat} {gs : List (List Nat)} {vs : List Value} (h : TieSt w0 wr G m c gs vs) : TieIn w0.heap.size wr G m c gs vs := ⟨h.out, h.grp, h.len⟩
theorem TieIn.later {N G m c : Nat} {wr w' : World} {gs : List (List Nat)} {vs : List Value} (h : TieIn N wr G m c gs vs) (hb : Below wr.heap.size wr w') : TieIn N w' G m c gs vs := ⟨own_below h.out hb, h.grp.below hb, h.len⟩
theorem TieIn.alloc {N G m c : Nat} {wr : World} {gs : List (List Nat)} {vs : List Value} (h : TieIn N wr G m c gs vs) (o : Obj) : TieIn N (wr.alloc o) G m c gs vs := ⟨h.out.alloc o, h.grp.alloc o, h.len⟩
theorem TieIn.far {N G m c : Nat} {wr : World} {gs : List (List Nat)} {vs : List Value} (h : TieIn N wr G m c gs vs) {a : Addr} (ha : a.block < N) (u : Value) : TieIn N (wr.setCell a u) G m c gs vs :=
  ⟨ownsRow_setCell_other h.out (own_ne_old h.out ha) u, h.grp.far (fun k v hv e => by have := (h.grp.lt hv e).1; omega) u, h.len⟩
/-- The j-th of them. -/
theorem TieIn.at_ {N G m c j : Nat} {wr : World} {gs : List (List Nat)} {g : List Nat} {vs : List Value} (h : TieIn N wr G m c gs vs) (hj : gs[j]? = some g) (hg : g ≠ []) :
    ∃ gb cap, wr.cell? ⟨G, j * 2, none⟩ = some (.int .i64 ((plc gs j : Int) + 1)) ∧ wr.cell? ⟨G, j * 2 + 1, none⟩ = some (.slice (some ⟨gb, 0, none⟩) g.length cap) ∧ N ≤ gb ∧ gb < wr.heap.size ∧ vs[j]? = some (.slice (some ⟨gb, 0, none⟩) g.length cap) := by
  obtain ⟨v, hv, ho⟩ := h.grp.get (k := j) (l := zl g) (by simp [hj])
  rw [zl_len] at ho
  obtain ⟨gb, cap, rfl, h1, h2⟩ := ho.form (List.length_pos_iff.2 hg)
  exact ⟨gb, cap, own_cell h.out (flat_get tieC_len (tieL_get hv) (j := 0) rfl), own_cell h.out (flat_get tieC_len (tieL_get hv) (j := 1) rfl), h1, h2, hv⟩
theorem TieIn.elem {N G m c j gb cap q i : Nat} {wr : World} {gs : List (List Nat)} {g : List Nat} {vs : List Value} (h : TieIn N wr G m c gs vs) (hj : gs[j]? = some g) (hv : vs[j]? = some (.slice (some ⟨gb, 0, none⟩) g.length cap)) (hq : g[q]? = some i) :
    wr.cell? ⟨gb, q, none⟩ = some (.int .i64 (i : Int)) := by
  have ho := h.grp.own j _ (zl g) hv (by simp [hj])
  rw [zl_len] at ho
  exact own_cell ho (by rw [List.getElem?_map, zl_get hq]; rfl)
theorem flat_at {gs : List (List Nat)} {g : List Nat} {j q i : Nat} (hj : gs[j]? = some g) (hq : g[q]? = some i) : gs.flatten[plc gs j + q]? = some i := by
  have hjl := (List.getElem?_eq_some_iff.1 hj).1
  have hql := (List.getElem?_eq_some_iff.1 hq).1
  have e : gs = gs.take j ++ g :: gs.drop (j + 1) := by
    conv => lhs; rw [← List.take_append_drop j gs]
    rw [List.drop_eq_getElem_cons hjl, (List.getElem?_eq_some_iff.1 hj).2]
  have key : gs.flatten = (gs.take j).flatten ++ (g ++ (gs.drop (j + 1)).flatten) := by
    conv => lhs; rw [e]
    rw [List.flatten_append, List.flatten_cons]
  rw [key, plc, List.getElem?_append_right (by omega), List.getElem?_append_left (by omega)]
  simpa using hq
end Go.Proofs.Ytgdmiddiaogpaaa
/- Contract: impl.PlacesOfResults. -/
namespace Go.Proofs.Ytgdmiddiaogpaaa
open Go.RowKit Go.BigFrame
attribute [local go_sem] sub_cell sub_frozen drewN_setCell

/-- What is known of the groups of a ranking. -/
structure GInf (l : List TResult) (n : Nat) (gs : List (List Nat)) : Prop where
  ok : GOK (btr l) gs
  fl : gs.flatten = rkL (btr l) n
  rk : IsRk (btr l) n (rkL (btr l) n)
theorem ginf (l : List TResult) (n : Nat) : GInf l n (grpL (btr l) (rkL (btr l) n)) := by
  have := grpL_ok (btr_wk l) (rkL_ok (btr_wk l) n)
  exact ⟨this.1, this.2, rkL_ok (btr_wk l) n⟩
section
variable {l : List TResult} {n j q i : Nat} {gs : List (List Nat)} {g : List Nat}
theorem GInf.at_ (h : GInf l n gs) (hj : gs[j]? = some g) (hq : g[q]? = some i) : (rkL (btr l) n)[plc gs j + q]? = some i := by rw [← h.fl]; exact flat_at hj hq
theorem GInf.lt (h : GInf l n gs) (hj : gs[j]? = some g) (hq : g[q]? = some i) : i < n := h.rk.lt_ (List.mem_of_getElem? (h.at_ hj hq))
theorem GInf.place (h : GInf l n gs) (hj : gs[j]? = some g) (hq : g[q]? = some i) : placeI (btr l) n i = (plc gs j : Int) + 1 := by
  rw [placeI, btrN_plc (btr_wk l) h.rk h.ok h.fl hj (List.mem_of_getElem? hq)]
theorem GInf.ne (h : GInf l n gs) (hj : gs[j]? = some g) : g ≠ [] := h.ok.ne g (List.mem_of_getElem? hj)
theorem GInf.plc_le (h : GInf l n gs) (j : Nat) : plc gs j ≤ n := by
  have := Go.Proofs.Ytgdmiddiaogpaaa.plc_le gs j
  rwa [h.fl, h.rk.len] at this
theorem GInf.end_ (h : GInf l n gs) : plc gs gs.length = n := by rw [plc_all, h.fl, h.rk.len]
theorem GInf.glen (h : GInf l n gs) (hj : gs[j]? = some g) : g.length ≤ n := by
  have := h.plc_le (j + 1)
  rw [plc_succ hj] at this
  omega
theorem GInf.len (h : GInf l n gs) : gs.length ≤ n := by
  have := ne_len h.ok.ne
  rwa [h.fl, h.rk.len] at this
end

set_option maxHeartbeats 8000000 in
set_option maxRecDepth 20000 in
theorem c_iPlacesOfResults (A : Option Addr) (n c : Nat) (l : List TResult) (w : World) (ha : Sl resultC w w.heap.size 3 A n l) (hsz : RsSz l) (hn : n ≤ 1048576) :
    Calls Try.prog 35 #[.slice A n c] w (IntsPost (placesZ l) (rankC l) w) := by
  have HL := Lib.hid ha.1
  have HA := Lib.hid ha
  have HSZ := Lib.hid hsz
  clear ha hsz
  cases h1 : ressB l
  · have e1 : Hid (placesZ l = [] ∧ rankC l = 1) := by constructor <;> simp [placesZ, rankC, h1]
    go_enter Try.func35, Try.ntmps35
    go_wp2_with (go_at_call 20; refine (c_iValidResults _ _ _ l _ h1 _ HA.out HSZ.out hn).mono ?_; rintro r_ w1 ⟨rfl, hb1⟩)
    go_ret2
    rw [e1.out.1, e1.out.2]
    exact IntsPost.err hb1
  have h40 := ress_len h1
  rw [HL.out] at h40
  have e1 : Hid (placesZ l = (List.range n).map (placeI (btr l) n) ∧ rankC l = 0) := by constructor <;> simp [placesZ, rankC, h1, HL.out]
  have hmk := run_makeZ n hn
  have GI := Lib.hid (ginf l n)
  go_enter Try.func35, Try.ntmps35
  go_wp2_with (first | (go_at_call 20; refine (c_iValidResults _ _ _ l _ h1 _ HA.out HSZ.out hn).mono ?_; rintro r_ w1 ⟨rfl, hb1⟩; have HA1 := Lib.hid (fun o => (HA.out.later hb1).later (Below.alloc (Below.refl _ _) (Nat.le_refl _) o)); have hz1 := hb1.size) | (go_at_call 67; refine (c_ties _ _ _ l _ (HA1.out _) h40).mono ?_; rintro r_ w2 ⟨G, d, vs, rfl, hst⟩; have HST := Lib.hid hst; have hb2 := hst.below; clear hst))
  clear hmk
  generalize grpL (btr l) (rkL (btr l) n) = gs at HST GI ⊢
  have hz2 := hb2.size
  simp only [World.size_alloc] at hz2
  have hgl := GI.out.len
  go_loopw [18] (fun i wr => ∃ j : Nat, j ≤ gs.length ∧ i = .int .i64 j ∧ Below w.heap.size w wr ∧ RowZ wr w1.heap.size n (putAll (List.replicate n 0) (((rkL (btr l) n).map fun i => (i, placeI (btr l) n i)).take (plc gs j))) ∧ TieIn (w1.heap.size + 1) wr G gs.length d gs vs) (fun i _ => gs.length - (intOf i).toNat)
  case atStart =>
    refine ⟨0, Nat.zero_le _, rfl, (hb1.alloc hz1 _).trans (hb2.mono (by simp; omega)), (RowZ.made w1 n).later hb2, ?_⟩
    have := HST.out.rd
    rwa [World.size_alloc] at this
  case round =>
    obtain ⟨j, hj, rfl, hB, hrow, hti⟩ := hrel
    have hz := hB.size
    have hgr := hrow.lt
    rename World => wo
    by_cases hlt : j < gs.length
    · obtain ⟨g, hgj⟩ : ∃ g, gs[j]? = some g := ⟨_, List.getElem?_eq_getElem hlt⟩
      obtain ⟨gb, cap, k0, k1, hgb1, hgb2, hvj⟩ := hti.at_ hgj (GI.out.ne hgj)
      have HGJ := Lib.hid hgj
      have HVJ := Lib.hid hvj
      have HR := Lib.hid hrow
      have HTI := Lib.hid hti
      have hgl2 := GI.out.glen hgj
      have hpl := GI.out.plc_le j
      have hGl := own_block_lt hti.out
      have i1 : (j : Int) < gs.length := by omega
      clear hrow hti hgj hvj
      go_wp2_with fail
      go_loopw [25] (fun i wr => ∃ q : Nat, q ≤ g.length ∧ i = .int .i64 q ∧ Below w.heap.size w wr ∧ RowZ wr w1.heap.size n (putAll (List.replicate n 0) (((rkL (btr l) n).map fun i => (i, placeI (btr l) n i)).take (plc gs j + q))) ∧ TieIn (w1.heap.size + 1) wr G gs.length d gs vs ∧ Hid (wr.heap[wo.heap.size]? = some (.cells #[.int .i64 ((plc gs j : Int) + 1), .slice (some ⟨gb, 0, none⟩) g.length cap] 84 (0, 0)))) (fun i _ => g.length - (intOf i).toNat)
      case atStart => exact ⟨0, Nat.zero_le _, rfl, hB.alloc hz _, HR.out.alloc _, HTI.out.alloc _, heap_alloc_new wo _⟩
      case round =>
        obtain ⟨q, hq, rfl, hB2, hrow, hti, hL⟩ := hrel
        rename World => wi
        have hz3 := hB2.size
        have hgr3 := hrow.lt
        have hLl := lt_of_block hL.out
        by_cases hlt2 : q < g.length
        · obtain ⟨i, hi⟩ : ∃ i, g[q]? = some i := ⟨_, List.getElem?_eq_getElem hlt2⟩
          have hc := hti.elem HGJ.out HVJ.out hi
          have hin := GI.out.lt HGJ.out hi
          have r0 := hrow.cell hin
          have f0 := hrow.frozen i
          have l0 : wi.cell? ⟨wo.heap.size, 0, none⟩ = some (.int .i64 ((plc gs j : Int) + 1)) := by simp [World.cell?, hL.out]
          have HP : Hid ((((rkL (btr l) n).map fun i => (i, placeI (btr l) n i)))[plc gs j + q]? = some (i, (plc gs j : Int) + 1)) := by
            show _ = _
            rw [List.getElem?_map, GI.out.at_ HGJ.out hi, Option.map_some, GI.out.place HGJ.out hi]
          have i2 : (q : Int) < g.length := by omega
          have i3 : (i : Int) < n := by omega
          have hgb3 : gb < wi.heap.size := by omega
          have HR2 := Lib.hid hrow
          have HTI2 := Lib.hid hti
          clear hrow hti hi
          go_wp2_with fail
          go_roundw
          case rel => exact ⟨q + 1, by omega, by go_num, hB2.setCell (by dsimp only; omega) _, by rw [← Nat.add_assoc, putAll_take _ _ HP.out]; exact HR2.out.set _ _, HTI2.out.far (by dsimp only; omega) _, by show _ = _; rw [Below.heap_setCell _ _ _ _ (by dsimp only; omega)]; exact hL.out⟩
          case measure => simp [intOf]; omega
        · obtain rfl : q = g.length := by omega
          have HR2 := Lib.hid hrow
          have HTI2 := Lib.hid hti
          clear hrow hti
          go_wp2_with fail
          go_roundw
          case rel => exact ⟨j + 1, by omega, by go_num, hB2, by rw [plc_succ HGJ.out]; exact HR2.out, HTI2.out⟩
          case measure => simp [intOf]; omega
    · obtain rfl : j = gs.length := by omega
      go_wp2_with fail
      go_ret2
      rw [e1.out.1, e1.out.2]
      rw [GI.out.end_, List.take_of_length_le (by rw [List.length_map, GI.out.rk.len]; exact Nat.le_refl _), putAll_rk GI.out.rk _ _ (by simp)] at hrow
      exact IntsPost.mk_ (by simp) (hrow.own hz1 (by simp only [maxLen]; omega)) hB
end Go.Proofs.Ytgdmiddiaogpaaa
