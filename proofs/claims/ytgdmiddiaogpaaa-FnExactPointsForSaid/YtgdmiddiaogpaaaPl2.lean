/- Contract: impl.PlacesOfResults. -/
import Derived.Test.YtgdmiddiaogpaaaPl
namespace Go.Proofs.Ytgdmiddiaogpaaa
open Go.RowKit Go.BigFrame
attribute [local go_sem] sub_cell sub_frozen drewN_setCell

/-- What is known of the groups of a ranking. -/
structure GInf (l : List TResult) (n : Nat) (gs : List (List Nat)) : Prop where
  ok : GOK (btr l) gs
  fl : gs.flatten = rkL (btr l) n
  rk : IsRk (btr l) n (rkL (btr l) n)
theorem ginf (l : List TResult) (n : Nat) : GInf l n (grpL (btr l) (rkL (btr l) n)) := by
  have := grpL_ok (btr_wk l) (rkL_ok (btr_wk l) n)
  exact ⟨this.1, this.2, rkL_ok (btr_wk l) n⟩
section
variable {l : List TResult} {n j q i : Nat} {gs : List (List Nat)} {g : List Nat}
theorem GInf.at_ (h : GInf l n gs) (hj : gs[j]? = some g) (hq : g[q]? = some i) : (rkL (btr l) n)[plc gs j + q]? = some i := by rw [← h.fl]; exact flat_at hj hq
theorem GInf.lt (h : GInf l n gs) (hj : gs[j]? = some g) (hq : g[q]? = some i) : i < n := h.rk.lt_ (List.mem_of_getElem? (h.at_ hj hq))
theorem GInf.place (h : GInf l n gs) (hj : gs[j]? = some g) (hq : g[q]? = some i) : placeI (btr l) n i = (plc gs j : Int) + 1 := by
  rw [placeI, btrN_plc (btr_wk l) h.rk h.ok h.fl hj (List.mem_of_getElem? hq)]
theorem GInf.ne (h : GInf l n gs) (hj : gs[j]? = some g) : g ≠ [] := h.ok.ne g (List.mem_of_getElem? hj)
theorem GInf.plc_le (h : GInf l n gs) (j : Nat) : plc gs j ≤ n := by
  have := Go.Proofs.Ytgdmiddiaogpaaa.plc_le gs j
  rwa [h.fl, h.rk.len] at this
theorem GInf.end_ (h : GInf l n gs) : plc gs gs.length = n := by rw [plc_all, h.fl, h.rk.len]
theorem GInf.glen (h : GInf l n gs) (hj : gs[j]? = some g) : g.length ≤ n := by
  have := h.plc_le (j + 1)
  rw [plc_succ hj] at this
  omega
theorem GInf.len (h : GInf l n gs) : gs.length ≤ n := by
  have := ne_len h.ok.ne
  rwa [h.fl, h.rk.len] at this
end

set_option maxHeartbeats 8000000 in
set_option maxRecDepth 20000 in
theorem c_iPlacesOfResults (A : Option Addr) (n c : Nat) (l : List TResult) (w : World) (ha : Sl resultC w w.heap.size 3 A n l) (hsz : RsSz l) (hn : n ≤ 1048576) :
    Calls Try.prog 35 #[.slice A n c] w (IntsPost (placesZ l) (rankC l) w) := by
  have HL := Lib.hid ha.1
  have HA := Lib.hid ha
  have HSZ := Lib.hid hsz
  clear ha hsz
  cases h1 : ressB l
  · have e1 : Hid (placesZ l = [] ∧ rankC l = 1) := by constructor <;> simp [placesZ, rankC, h1]
    go_enter Try.func35, Try.ntmps35
    go_wp2_with (go_at_call 20; refine (c_iValidResults _ _ _ l _ h1 _ HA.out HSZ.out hn).mono ?_; rintro r_ w1 ⟨rfl, hb1⟩)
    go_ret2
    rw [e1.out.1, e1.out.2]
    exact IntsPost.err hb1
  have h40 := ress_len h1
  rw [HL.out] at h40
  have e1 : Hid (placesZ l = (List.range n).map (placeI (btr l) n) ∧ rankC l = 0) := by constructor <;> simp [placesZ, rankC, h1, HL.out]
  have hmk := run_makeZ n hn
  have GI := Lib.hid (ginf l n)
  go_enter Try.func35, Try.ntmps35
  go_wp2_with (first | (go_at_call 20; refine (c_iValidResults _ _ _ l _ h1 _ HA.out HSZ.out hn).mono ?_; rintro r_ w1 ⟨rfl, hb1⟩; have HA1 := Lib.hid (fun o => (HA.out.later hb1).later (Below.alloc (Below.refl _ _) (Nat.le_refl _) o)); have hz1 := hb1.size) | (go_at_call 67; refine (c_ties _ _ _ l _ (HA1.out _) h40).mono ?_; rintro r_ w2 ⟨G, d, vs, rfl, hst⟩; have HST := Lib.hid hst; have hb2 := hst.below; clear hst))
  clear hmk
  generalize grpL (btr l) (rkL (btr l) n) = gs at HST GI ⊢
  have hz2 := hb2.size
  simp only [World.size_alloc] at hz2
  have hgl := GI.out.len
  go_loopw [18] (fun i wr => ∃ j : Nat, j ≤ gs.length ∧ i = .int .i64 j ∧ Below w.heap.size w wr ∧ RowZ wr w1.heap.size n (putAll (List.replicate n 0) (((rkL (btr l) n).map fun i => (i, placeI (btr l) n i)).take (plc gs j))) ∧ TieIn (w1.heap.size + 1) wr G gs.length d gs vs) (fun i _ => gs.length - (intOf i).toNat)
  case atStart =>
    refine ⟨0, Nat.zero_le _, rfl, (hb1.alloc hz1 _).trans (hb2.mono (by simp; omega)), (RowZ.made w1 n).later hb2, ?_⟩
    have := HST.out.rd
    rwa [World.size_alloc] at this
  case round =>
    obtain ⟨j, hj, rfl, hB, hrow, hti⟩ := hrel
    have hz := hB.size
    have hgr := hrow.lt
    rename World => wo
    by_cases hlt : j < gs.length
    · obtain ⟨g, hgj⟩ : ∃ g, gs[j]? = some g := ⟨_, List.getElem?_eq_getElem hlt⟩
      obtain ⟨gb, cap, k0, k1, hgb1, hgb2, hvj⟩ := hti.at_ hgj (GI.out.ne hgj)
      have HGJ := Lib.hid hgj
      have HVJ := Lib.hid hvj
      have HR := Lib.hid hrow
      have HTI := Lib.hid hti
      have hgl2 := GI.out.glen hgj
      have hpl := GI.out.plc_le j
      have hGl := own_block_lt hti.out
      have i1 : (j : Int) < gs.length := by omega
      clear hrow hti hgj hvj
      go_wp2_with fail
      go_loopw [25] (fun i wr => ∃ q : Nat, q ≤ g.length ∧ i = .int .i64 q ∧ Below w.heap.size w wr ∧ RowZ wr w1.heap.size n (putAll (List.replicate n 0) (((rkL (btr l) n).map fun i => (i, placeI (btr l) n i)).take (plc gs j + q))) ∧ TieIn (w1.heap.size + 1) wr G gs.length d gs vs ∧ Hid (wr.heap[wo.heap.size]? = some (.cells #[.int .i64 ((plc gs j : Int) + 1), .slice (some ⟨gb, 0, none⟩) g.length cap] 84 (0, 0)))) (fun i _ => g.length - (intOf i).toNat)
      case atStart => exact ⟨0, Nat.zero_le _, rfl, hB.alloc hz _, HR.out.alloc _, HTI.out.alloc _, heap_alloc_new wo _⟩
      case round =>
        obtain ⟨q, hq, rfl, hB2, hrow, hti, hL⟩ := hrel
        rename World => wi
        have hz3 := hB2.size
        have hgr3 := hrow.lt
        have hLl := lt_of_block hL.out
        by_cases hlt2 : q < g.length
        · obtain ⟨i, hi⟩ : ∃ i, g[q]? = some i := ⟨_, List.getElem?_eq_getElem hlt2⟩
          have hc := hti.elem HGJ.out HVJ.out hi
          have hin := GI.out.lt HGJ.out hi
          have r0 := hrow.cell hin
          have f0 := hrow.frozen i
          have l0 : wi.cell? ⟨wo.heap.size, 0, none⟩ = some (.int .i64 ((plc gs j : Int) + 1)) := by simp [World.cell?, hL.out]
          have HP : Hid ((((rkL (btr l) n).map fun i => (i, placeI (btr l) n i)))[plc gs j + q]? = some (i, (plc gs j : Int) + 1)) := by
            show _ = _
            rw [List.getElem?_map, GI.out.at_ HGJ.out hi, Option.map_some, GI.out.place HGJ.out hi]
          have i2 : (q : Int) < g.length := by omega
          have i3 : (i : Int) < n := by omega
          have hgb3 : gb < wi.heap.size := by omega
          have HR2 := Lib.hid hrow
          have HTI2 := Lib.hid hti
          clear hrow hti hi
          go_wp2_with fail
          go_roundw
          case rel => exact ⟨q + 1, by omega, by go_num, hB2.setCell (by dsimp only; omega) _, by rw [← Nat.add_assoc, putAll_take _ _ HP.out]; exact HR2.out.set _ _, HTI2.out.far (by dsimp only; omega) _, by show _ = _; rw [Below.heap_setCell _ _ _ _ (by dsimp only; omega)]; exact hL.out⟩
          case measure => simp [intOf]; omega
        · obtain rfl : q = g.length := by omega
          have HR2 := Lib.hid hrow
          have HTI2 := Lib.hid hti
          clear hrow hti
          go_wp2_with fail
          go_roundw
          case rel => exact ⟨j + 1, by omega, by go_num, hB2, by rw [plc_succ HGJ.out]; exact HR2.out, HTI2.out⟩
          case measure => simp [intOf]; omega
    · obtain rfl : j = gs.length := by omega
      go_wp2_with fail
      go_ret2
      rw [e1.out.1, e1.out.2]
      rw [GI.out.end_, List.take_of_length_le (by rw [List.length_map, GI.out.rk.len]; exact Nat.le_refl _), putAll_rk GI.out.rk _ _ (by simp)] at hrow
      exact IntsPost.mk_ (by simp) (hrow.own hz1 (by simp only [maxLen]; omega)) hB
end Go.Proofs.Ytgdmiddiaogpaaa
