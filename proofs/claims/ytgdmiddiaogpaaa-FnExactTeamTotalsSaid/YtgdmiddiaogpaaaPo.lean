/- Contracts: PointsFor. -/
import Derived.Test.YtgdmiddiaogpaaaPz
import Derived.Test.YtgdmiddiaogpaaaFr
namespace Go.Proofs.Ytgdmiddiaogpaaa
open Go.RowKit Go.BigFrame
attribute [local go_sem] sub_cell sub_frozen drewN_setCell

def ptF (t : List Int) (gs : List (List Nat)) (j : Nat) (g : List Nat) : List (Nat × TFraction) := g.map fun i => (i, (lowN (sumT t (plc gs j) (plc gs j + g.length)) g.length, lowD (sumT t (plc gs j) (plc gs j + g.length)) g.length))
theorem ptF_len (t : List Int) (gs : List (List Nat)) (j : Nat) (g : List Nat) : (ptF t gs j g).length = g.length := by simp [ptF]
theorem ptF_at {t : List Int} {gs : List (List Nat)} {j q i : Nat} {g : List Nat} (h : g[q]? = some i) : (ptF t gs j g)[q]? = some (i, (lowN (sumT t (plc gs j) (plc gs j + g.length)) g.length, lowD (sumT t (plc gs j) (plc gs j + g.length)) g.length)) := by simp [ptF, h]
def ptsL (l : List TResult) (t : List Int) (n : Nat) : List TFraction := putAll (List.replicate n (0, 0)) (perG (ptF t (grpL (btr l) (rkL (btr l) n))) (grpL (btr l) (rkL (btr l) n)))
theorem ptsL_len (l : List TResult) (t : List Int) (n : Nat) : (ptsL l t n).length = n := by rw [ptsL, putAll_len, List.length_replicate]
def pointsZ (l : List TResult) (t : List Int) : List TFraction := if ressB l = true then (if tabB t = true then ptsL l t l.length else []) else []
theorem pointsZ_len (l : List TResult) (t : List Int) : (pointsZ l t).length ≤ 40 := by
  unfold pointsZ
  split
  · rename_i h
    split
    · rw [ptsL_len]; exact ress_len h
    · simp
  · simp
/-- What the two helpers return. -/
def PtsPost (zs : List TFraction) (n : Nat) (w : World) (r : Ending) (w' : World) : Prop :=
  r = .returned (.slice (some ⟨w.heap.size, 0, none⟩) n n) ∧ RowF w' w.heap.size n zs ∧ Below w.heap.size w w'

set_option maxHeartbeats 8000000 in
set_option maxRecDepth 20000 in
theorem c_l22Points (A A1 : Option Addr) (n c nt ct : Nat) (l : List TResult) (t : List Int) (w : World) (ha : Sl resultC w w.heap.size 3 A n l) (ht : Zs w A1 nt t) (htb : tabB t = true) (h40 : n ≤ 40) (hnt : nt ≤ 1048576) :
    Calls Try.prog 76 #[.slice A n c, .slice A1 nt ct] w (PtsPost (ptsL l t n) n w) := by
  have HT := Lib.hid htb
  have HZ := Lib.hid ht
  have HA2 := Lib.hid (fun o => ha.later (Below.alloc (Below.refl _ _) (Nat.le_refl _) o))
  clear ha ht htb
  have GI := Lib.hid (ginf l n)
  have e1 : Hid (ptsL l t n = putAll (List.replicate n (0, 0)) (perG (ptF t (grpL (btr l) (rkL (btr l) n))) (grpL (btr l) (rkL (btr l) n)))) := by show _ = _; rfl
  have hmk := run_makeF n (by omega)
  go_enter Try.func76, Try.ntmps76
  go_wp2_with (go_at_call 69; refine (c_l22Groups _ _ _ l _ (HA2.out _) h40).mono ?_; rintro r_ w3 ⟨G, d, vs, rfl, hst, hb3⟩; have HST := Lib.hid hst; clear hst)
  clear hmk
  generalize grpL (btr l) (rkL (btr l) n) = gs at HST GI e1 ⊢
  have hz3 := hb3.size
  simp only [World.size_alloc] at hz3
  have hgl := GI.out.len
  go_loopw [7, 8] (fun a i wr => ∃ j : Nat, j ≤ gs.length ∧ i = .int .i64 j ∧ a = .int .i64 (plc gs j) ∧ Below w.heap.size w wr ∧ RowF wr w.heap.size n (putAll (List.replicate n (0, 0)) ((perG (ptF t gs) gs).take (plc gs j))) ∧ GrpIn (w.heap.size + 1) wr G gs.length d gs vs) (fun _ i _ => gs.length - (intOf i).toNat)
  case atStart =>
    refine ⟨0, Nat.zero_le _, rfl, rfl, ((Below.refl _ _).alloc (Nat.le_refl _) _).trans (hb3.mono (by simp)), (RowF.made w n).later hb3, ?_⟩
    have := HST.out
    rwa [World.size_alloc] at this
  case round =>
    obtain ⟨j, hj, rfl, rfl, hB, hrow, hti⟩ := hrel
    have hz := hB.size
    have hgr := hrow.lt
    rename World => wo
    by_cases hlt : j < gs.length
    · obtain ⟨g, hgj⟩ : ∃ g, gs[j]? = some g := ⟨_, List.getElem?_eq_getElem hlt⟩
      obtain ⟨gb, cap, k1, hgb1, hgb2, hvj⟩ := hti.at_ hgj (GI.out.ne hgj)
      have HGJ := Lib.hid hgj
      have HVJ := Lib.hid hvj
      have HR := Lib.hid hrow
      have HTI := Lib.hid hti
      have hgl2 := GI.out.glen hgj
      have hpl := GI.out.plc_le j
      have hGl := own_block_lt hti.out
      have hpos : 0 < g.length := List.length_pos_iff.2 (GI.out.ne hgj)
      have hpos1 : (1 : Int) ≤ (g.length : Int) := by omega
      have i1 : (j : Int) < gs.length := by omega
      have HZ3 := Lib.hid (HZ.out.later hB)
      obtain ⟨z, hz0⟩ : ∃ z, sumT t (plc gs j) (plc gs j + g.length) = z := ⟨_, rfl⟩
      have hbd := sumT_bd HT.out (plc gs j) (plc gs j + g.length)
      rw [hz0] at hbd
      have HZV := Lib.hid hz0
      obtain ⟨hbd1, hbd2⟩ := hbd
      obtain ⟨x, hx0⟩ : ∃ x, lowN z g.length = x := ⟨_, rfl⟩
      obtain ⟨y, hy0⟩ : ∃ y, lowD z g.length = y := ⟨_, rfl⟩
      have HX := Lib.hid hx0
      have HY := Lib.hid hy0
      clear hrow hti hgj hvj hz0 hx0 hy0
      go_wp2_with (first | (go_at_call 73; refine (c_l22SumI _ _ _ _ _ (plc gs j) (plc gs j + g.length) t (by simp) (by simp) HT.out (by omega) (by omega) _ HZ3.out).mono ?_; rw [HZV.out]; rintro r_ w4 ⟨rfl, hb4⟩; have HB4 := Lib.hid hb4; have hz4 := hb4.size; clear hb4) | (go_at_call 86; refine (c_l02MakeB _ _ _ (by assumption) (by omega) (by assumption) (by omega)).mono ?_; rw [HX.out, HY.out]; rintro r_ w5 ⟨rfl, hb5⟩; have HB5 := Lib.hid (HB4.out.trans (hb5.mono hz4)); have hz5 := hb5.size; clear hb5))
      go_loopw [11] (fun i wr => ∃ q : Nat, q ≤ g.length ∧ i = .int .i64 q ∧ Below w.heap.size w wr ∧ RowF wr w.heap.size n (putAll (List.replicate n (0, 0)) ((perG (ptF t gs) gs).take (plc gs j + q))) ∧ GrpIn (w.heap.size + 1) wr G gs.length d gs vs ∧ Hid (wr.heap[w5.heap.size]? = some (.cells #[.int .i64 x, .int .i64 y] 96 (0, 0)))) (fun i _ => g.length - (intOf i).toNat)
      case atStart => exact ⟨0, Nat.zero_le _, rfl, (hB.trans (HB5.out.mono hz)).alloc (by omega) _, (HR.out.later HB5.out).alloc _, (HTI.out.later HB5.out).later (Below.alloc (Below.refl _ _) (Nat.le_refl _) _), heap_alloc_new w5 _⟩
      case round =>
        obtain ⟨q, hq, rfl, hB2, hrow, hti, hL⟩ := hrel
        rename World => wi
        have hz6 := hB2.size
        have hgr6 := hrow.lt
        have hLl := lt_of_block hL.out
        by_cases hlt2 : q < g.length
        · obtain ⟨i, hi⟩ : ∃ i, g[q]? = some i := ⟨_, List.getElem?_eq_getElem hlt2⟩
          have hc := hti.elem HGJ.out HVJ.out hi
          have hc2 := own_cell hti.out HVJ.out
          have hin := GI.out.lt HGJ.out hi
          have l0 : wi.cell? ⟨w5.heap.size, 0, none⟩ = some (.int .i64 x) := by simp [World.cell?, hL.out]
          have l1 : wi.cell? ⟨w5.heap.size, 1, none⟩ = some (.int .i64 y) := by simp [World.cell?, hL.out]
          have HP := Lib.hid (perG_at (ptF_len t gs) HGJ.out (ptF_at (t := t) (gs := gs) (j := j) hi))
          rw [HZV.out, HX.out, HY.out] at HP
          have i2 : (q : Int) < g.length := by omega
          have i3 : (i : Int) < n := by omega
          have hG5 := (own_block_lt hti.out).2
          have hgb5 := (hti.grp.lt HVJ.out rfl).2
          have HR2 := Lib.hid hrow
          have HTI2 := Lib.hid hti
          clear hrow hti hi
          go_wp2_with fail
          refine wp_region_below_tail 10 (by kernel_rfl) (by kernel_rfl) ?_
          simp only [List.take_succ_cons, List.take_zero, List.drop_succ_cons, List.drop_zero]
          repeat (go_big_quiet_step (fail))
          refine wpQuiet_nil ?_
          intro _ hw'
          obtain ⟨⟨w6, hb6⟩, hw''⟩ := hw'
          subst hw''
          rename World => w6
          have HR6 := Lib.hid (HR2.out.later hb6)
          have HTI6 := Lib.hid (HTI2.out.later hb6)
          have HB6 := Lib.hid (hB2.trans (hb6.mono hz6))
          have HL6 := Lib.hid ((hb6.block _ hLl).trans hL.out)
          have hz7 := hb6.size
          have r6 := HR6.out.cell0 hin
          have r7 := HR6.out.cell1 hin
          have f6 := HR6.out.frozen (i * 2)
          have f7 := HR6.out.frozen (i * 2 + 1)
          clear hb6
          go_wp2_with fail
          go_roundw
          case rel =>
            refine ⟨q + 1, by omega, by go_num, (HB6.out.setCell (by dsimp only; omega) _).setCell (by dsimp only; omega) _, ?_, (HTI6.out.far (by dsimp only; omega) _).far (by dsimp only; omega) _, ?_⟩
            · rw [← Nat.add_assoc, putAll_take _ _ HP.out]
              exact HR6.out.set hin x y
            · show _ = _
              rw [Below.heap_setCell _ _ _ _ (by dsimp only; omega), Below.heap_setCell _ _ _ _ (by dsimp only; omega)]
              exact HL6.out
          case measure => simp [intOf]; omega
        · obtain rfl : q = g.length := by omega
          have HR2 := Lib.hid hrow
          have HTI2 := Lib.hid hti
          clear hrow hti
          go_wp2_with fail
          go_roundw
          case rel => exact ⟨j + 1, by omega, by go_num, by rw [plc_succ HGJ.out]; go_num, hB2, by rw [plc_succ HGJ.out]; exact HR2.out, HTI2.out⟩
          case measure => simp [intOf]; omega
    · obtain rfl : j = gs.length := by omega
      go_wp2_with fail
      go_ret
      rw [e1.out]
      rw [List.take_of_length_le (by rw [perG_len (ptF_len t gs), plc_all]; exact Nat.le_refl _)] at hrow
      exact ⟨rfl, hrow, hB⟩
set_option maxHeartbeats 2000000 in
theorem c_sPointsFor (A A1 : Option Addr) (n c nt ct : Nat) (l : List TResult) (t : List Int) (w : World) (ha : Sl resultC w w.heap.size 3 A n l) (ht : Zs w A1 nt t) (hsz : RsSz l) (hn : n ≤ 1048576) (hnt : nt ≤ 1048576) :
    Calls Try.prog 48 #[.slice A n c, .slice A1 nt ct] w (FracPost (pointsZ l t) (prizesC l t) w) := by
  have HL := Lib.hid ha.1
  have HA := Lib.hid ha
  have HZ := Lib.hid ht
  have HSZ := Lib.hid hsz
  clear ha hsz ht
  cases h1 : ressB l
  · have e1 : Hid (pointsZ l t = [] ∧ prizesC l t = 1) := by constructor <;> simp [pointsZ, prizesC, h1]
    go_enter Try.func48, Try.ntmps48
    go_wp2_with (go_at_call 58; refine (c_l22Ok _ _ _ l _ h1 _ HA.out HSZ.out hn).mono ?_; rintro r_ w1 ⟨rfl, hb1⟩)
    go_ret2
    rw [e1.out.1, e1.out.2]
    exact FracPost.err hb1
  have h40 := ress_len h1
  rw [HL.out] at h40
  cases h2 : tabB t
  · have e1 : Hid (pointsZ l t = [] ∧ prizesC l t = 2) := by constructor <;> simp [pointsZ, prizesC, h1, h2]
    have HT := Lib.hid h2
    clear h2
    go_enter Try.func48, Try.ntmps48
    go_wp2_with (first | (go_at_call 58; refine (c_l22Ok _ _ _ l _ h1 _ HA.out HSZ.out hn).mono ?_; rintro r_ w1 ⟨rfl, hb1⟩; have HZ1 := Lib.hid (HZ.out.later hb1)) | (go_at_call 72; refine (c_l22Table _ _ _ t _ HT.out _ HZ1.out hnt).mono ?_; rintro r_ w2 ⟨rfl, hb2⟩))
    go_ret2
    rw [e1.out.1, e1.out.2]
    exact FracPost.err (hb1.trans (hb2.mono hb1.size))
  have HT := Lib.hid h2
  clear h2
  have e1 : Hid (pointsZ l t = ptsL l t n ∧ prizesC l t = 0) := by constructor <;> simp [pointsZ, prizesC, h1, HT.out, HL.out]
  go_enter Try.func48, Try.ntmps48
  go_wp2_with (first | (go_at_call 58; refine (c_l22Ok _ _ _ l _ h1 _ HA.out HSZ.out hn).mono ?_; rintro r_ w1 ⟨rfl, hb1⟩; have HZ1 := Lib.hid (HZ.out.later hb1); have hz1 := hb1.size) | (go_at_call 72; refine (c_l22Table _ _ _ t _ HT.out _ HZ1.out hnt).mono ?_; rintro r_ w2 ⟨rfl, hb2⟩; have HB2 := Lib.hid (hb1.trans (hb2.mono hz1)); have hz2 := hb2.size; have HA2 := Lib.hid (HA.out.later HB2.out); have HZ2 := Lib.hid (HZ.out.later HB2.out)) | (go_at_call 76; refine (c_l22Points _ _ _ _ _ _ l t _ HA2.out HZ2.out HT.out h40 hnt).mono ?_; rintro r_ w3 ⟨rfl, hr3, hb3⟩; have HR3 := Lib.hid hr3; clear hr3))
  go_ret2
  rw [e1.out.1, e1.out.2]
  exact FracPost.mk_ (ptsL_len _ _ _) (HR3.out.own HB2.out.size (by simp only [maxLen]; omega)) (HB2.out.trans (hb3.mono HB2.out.size))
set_option maxHeartbeats 8000000 in
set_option maxRecDepth 20000 in
theorem c_pointsOf (A A1 : Option Addr) (n c nt ct : Nat) (l : List TResult) (t : List Int) (w : World) (ha : Sl resultC w w.heap.size 3 A n l) (ht : Zs w A1 nt t) (htb : tabB t = true) (h40 : n ≤ 40) (hnt : nt ≤ 1048576) :
    Calls Try.prog 77 #[.slice A n c, .slice A1 nt ct] w (PtsPost (ptsL l t n) n w) := by
  have HT := Lib.hid htb
  have HZ := Lib.hid ht
  have HA2 := Lib.hid (fun o => ha.later (Below.alloc (Below.refl _ _) (Nat.le_refl _) o))
  clear ha ht htb
  have GI := Lib.hid (ginf l n)
  have e1 : Hid (ptsL l t n = putAll (List.replicate n (0, 0)) (perG (ptF t (grpL (btr l) (rkL (btr l) n))) (grpL (btr l) (rkL (btr l) n)))) := by show _ = _; rfl
  have hmk := run_makeF n (by omega)
  go_enter Try.func77, Try.ntmps77
  go_wp2_with (go_at_call 67; refine (c_ties _ _ _ l _ (HA2.out _) h40).mono ?_; rintro r_ w3 ⟨G, d, vs, rfl, hst⟩; have HST := Lib.hid hst; have hb3 := hst.below; clear hst)
  clear hmk
  generalize grpL (btr l) (rkL (btr l) n) = gs at HST GI e1 ⊢
  have hz3 := hb3.size
  simp only [World.size_alloc] at hz3
  have hgl := GI.out.len
  go_loopw [16] (fun i wr => ∃ j : Nat, j ≤ gs.length ∧ i = .int .i64 j ∧ Below w.heap.size w wr ∧ RowF wr w.heap.size n (putAll (List.replicate n (0, 0)) ((perG (ptF t gs) gs).take (plc gs j))) ∧ TieIn (w.heap.size + 1) wr G gs.length d gs vs) (fun i _ => gs.length - (intOf i).toNat)
  case atStart =>
    refine ⟨0, Nat.zero_le _, rfl, ((Below.refl _ _).alloc (Nat.le_refl _) _).trans (hb3.mono (by simp)), (RowF.made w n).later hb3, ?_⟩
    have := HST.out.rd
    rwa [World.size_alloc] at this
  case round =>
    obtain ⟨j, hj, rfl, hB, hrow, hti⟩ := hrel
    have hz := hB.size
    have hgr := hrow.lt
    rename World => wo
    by_cases hlt : j < gs.length
    · obtain ⟨g, hgj⟩ : ∃ g, gs[j]? = some g := ⟨_, List.getElem?_eq_getElem hlt⟩
      obtain ⟨gb, cap, k0, k1, hgb1, hgb2, hvj⟩ := hti.at_ hgj (GI.out.ne hgj)
      have HGJ := Lib.hid hgj
      have HVJ := Lib.hid hvj
      have HR := Lib.hid hrow
      have HTI := Lib.hid hti
      have hgl2 := GI.out.glen hgj
      have hpl := GI.out.plc_le j
      have hGl := own_block_lt hti.out
      have hpos : 0 < g.length := List.length_pos_iff.2 (GI.out.ne hgj)
      have hpos1 : (1 : Int) ≤ (g.length : Int) := by omega
      have i1 : (j : Int) < gs.length := by omega
      obtain ⟨z, hz0⟩ : ∃ z, sumT t (plc gs j) (plc gs j + g.length) = z := ⟨_, rfl⟩
      have hbd := sumT_bd HT.out (plc gs j) (plc gs j + g.length)
      rw [hz0] at hbd
      have HZV := Lib.hid hz0
      obtain ⟨hbd1, hbd2⟩ := hbd
      clear hrow hti hgj hvj hz0
      go_wp2_with fail
      go_loopw [23] (fun i wr => ∃ q : Nat, q ≤ g.length ∧ i = .int .i64 q ∧ Below w.heap.size w wr ∧ RowF wr w.heap.size n (putAll (List.replicate n (0, 0)) ((perG (ptF t gs) gs).take (plc gs j + q))) ∧ TieIn (w.heap.size + 1) wr G gs.length d gs vs ∧ Hid (wr.heap[wo.heap.size]? = some (.cells #[.int .i64 ((plc gs j : Int) + 1), .slice (some ⟨gb, 0, none⟩) g.length cap] 84 (0, 0)))) (fun i _ => g.length - (intOf i).toNat)
      case atStart => exact ⟨0, Nat.zero_le _, rfl, hB.alloc hz _, HR.out.alloc _, HTI.out.alloc _, heap_alloc_new wo _⟩
      case round =>
        obtain ⟨q, hq, rfl, hB2, hrow, hti, hL⟩ := hrel
        rename World => wi
        have hz6 := hB2.size
        have hgr6 := hrow.lt
        have hLl := lt_of_block hL.out
        by_cases hlt2 : q < g.length
        · obtain ⟨i, hi⟩ : ∃ i, g[q]? = some i := ⟨_, List.getElem?_eq_getElem hlt2⟩
          have hc := hti.elem HGJ.out HVJ.out hi
          have hin := GI.out.lt HGJ.out hi
          have l0 : wi.cell? ⟨wo.heap.size, 0, none⟩ = some (.int .i64 ((plc gs j : Int) + 1)) := by simp [World.cell?, hL.out]
          have l1 : wi.cell? ⟨wo.heap.size, 1, none⟩ = some (.slice (some ⟨gb, 0, none⟩) g.length cap) := by simp [World.cell?, hL.out]
          have HP := Lib.hid (perG_at (ptF_len t gs) HGJ.out (ptF_at (t := t) (gs := gs) (j := j) hi))
          rw [HZV.out] at HP
          have i2 : (q : Int) < g.length := by omega
          have i3 : (i : Int) < n := by omega
          have hG5 := (own_block_lt hti.out).2
          have hgb5 := (hti.grp.lt HVJ.out rfl).2
          have HZW := Lib.hid (HZ.out.later hB2)
          have HR2 := Lib.hid hrow
          have HTI2 := Lib.hid hti
          clear hrow hti hi
          go_wp2_with fail
          refine wp_region_below_tail 10 (by kernel_rfl) (by kernel_rfl) ?_
          simp only [List.take_succ_cons, List.take_zero, List.drop_succ_cons, List.drop_zero]
          repeat (go_big_quiet_step ((first | (go_at_call 75; refine qBg (c_totalZ _ _ _ _ (plc gs j) g.length _ t z HZV.out HT.out (by omega) (by omega) _ (HZW.out.later (Later.h _))) (by simp) ?_; intro w_ h_; first | exact h_ | exact h_.below | (subst h_; exact Below.refl _ _) | (subst h_; (repeat' (first | (with_reducible exact Below.refl _ _) | (with_reducible assumption) | (with_reducible refine below_drewN ?_ _) | (with_reducible refine Below.drew ?_) | (with_reducible refine Below.alloc ?_ ?_ _) | (with_reducible refine Below.setCell ?_ ?_ _) | go_size))) | (obtain ⟨n_, rfl⟩ := h_; (repeat' (first | (with_reducible exact Below.refl _ _) | (with_reducible assumption) | (with_reducible refine below_drewN ?_ _) | (with_reducible refine Below.drew ?_) | (with_reducible refine Below.alloc ?_ ?_ _) | (with_reducible refine Below.setCell ?_ ?_ _) | go_size)))) | (go_at_call 80; refine qBg (c_lowestB _ _ _ (by assumption) (by omega) (by assumption) (by omega)) (by simp) ?_; intro w_ h_; first | exact h_ | exact h_.below | (subst h_; exact Below.refl _ _) | (subst h_; (repeat' (first | (with_reducible exact Below.refl _ _) | (with_reducible assumption) | (with_reducible refine below_drewN ?_ _) | (with_reducible refine Below.drew ?_) | (with_reducible refine Below.alloc ?_ ?_ _) | (with_reducible refine Below.setCell ?_ ?_ _) | go_size))) | (obtain ⟨n_, rfl⟩ := h_; (repeat' (first | (with_reducible exact Below.refl _ _) | (with_reducible assumption) | (with_reducible refine below_drewN ?_ _) | (with_reducible refine Below.drew ?_) | (with_reducible refine Below.alloc ?_ ?_ _) | (with_reducible refine Below.setCell ?_ ?_ _) | go_size)))))))
          refine wpQuiet_nil ?_
          intro _ hw'
          obtain ⟨⟨w8, hb8⟩, hw''⟩ := hw'
          subst hw''
          rename World => w8
          have HR6 := Lib.hid (HR2.out.later hb8)
          have HTI6 := Lib.hid (HTI2.out.later hb8)
          have HB6 := Lib.hid (hB2.trans (hb8.mono hz6))
          have HL6 := Lib.hid ((hb8.block _ hLl).trans hL.out)
          have hz7 := hb8.size
          have r6 := HR6.out.cell0 hin
          have r7 := HR6.out.cell1 hin
          have f6 := HR6.out.frozen (i * 2)
          have f7 := HR6.out.frozen (i * 2 + 1)
          clear hb8
          go_wp2_with fail
          go_roundw
          case rel =>
            refine ⟨q + 1, by omega, by go_num, (HB6.out.setCell (by dsimp only; omega) _).setCell (by dsimp only; omega) _, ?_, (HTI6.out.far (by dsimp only; omega) _).far (by dsimp only; omega) _, ?_⟩
            · rw [← Nat.add_assoc, putAll_take _ _ HP.out]
              exact HR6.out.set hin _ _
            · show _ = _
              rw [Below.heap_setCell _ _ _ _ (by dsimp only; omega), Below.heap_setCell _ _ _ _ (by dsimp only; omega)]
              exact HL6.out
          case measure => simp [intOf]; omega
        · obtain rfl : q = g.length := by omega
          have HR2 := Lib.hid hrow
          have HTI2 := Lib.hid hti
          clear hrow hti
          go_wp2_with fail
          go_roundw
          case rel => exact ⟨j + 1, by omega, by go_num, hB2, by rw [plc_succ HGJ.out]; exact HR2.out, HTI2.out⟩
          case measure => simp [intOf]; omega
    · obtain rfl : j = gs.length := by omega
      go_wp2_with fail
      go_ret
      rw [e1.out]
      rw [List.take_of_length_le (by rw [perG_len (ptF_len t gs), plc_all]; exact Nat.le_refl _)] at hrow
      exact ⟨rfl, hrow, hB⟩
set_option maxHeartbeats 2000000 in
theorem c_iPointsFor (A A1 : Option Addr) (n c nt ct : Nat) (l : List TResult) (t : List Int) (w : World) (ha : Sl resultC w w.heap.size 3 A n l) (ht : Zs w A1 nt t) (hsz : RsSz l) (hn : n ≤ 1048576) (hnt : nt ≤ 1048576) :
    Calls Try.prog 49 #[.slice A n c, .slice A1 nt ct] w (FracPost (pointsZ l t) (prizesC l t) w) := by
  have HL := Lib.hid ha.1
  have HA := Lib.hid ha
  have HZ := Lib.hid ht
  have HSZ := Lib.hid hsz
  clear ha hsz ht
  cases h1 : ressB l
  · have e1 : Hid (pointsZ l t = [] ∧ prizesC l t = 1) := by constructor <;> simp [pointsZ, prizesC, h1]
    go_enter Try.func49, Try.ntmps49
    go_wp2_with (go_at_call 20; refine (c_iValidResults _ _ _ l _ h1 _ HA.out HSZ.out hn).mono ?_; rintro r_ w1 ⟨rfl, hb1⟩)
    go_ret2
    rw [e1.out.1, e1.out.2]
    exact FracPost.err hb1
  have h40 := ress_len h1
  rw [HL.out] at h40
  cases h2 : tabB t
  · have e1 : Hid (pointsZ l t = [] ∧ prizesC l t = 2) := by constructor <;> simp [pointsZ, prizesC, h1, h2]
    have HT := Lib.hid h2
    clear h2
    go_enter Try.func49, Try.ntmps49
    go_wp2_with (first | (go_at_call 20; refine (c_iValidResults _ _ _ l _ h1 _ HA.out HSZ.out hn).mono ?_; rintro r_ w1 ⟨rfl, hb1⟩; have HZ1 := Lib.hid (HZ.out.later hb1)) | (go_at_call 74; refine (c_isPointTable _ _ _ t _ HT.out _ HZ1.out hnt).mono ?_; rintro r_ w2 ⟨rfl, hb2⟩))
    go_ret2
    rw [e1.out.1, e1.out.2]
    exact FracPost.err (hb1.trans (hb2.mono hb1.size))
  have HT := Lib.hid h2
  clear h2
  have e1 : Hid (pointsZ l t = ptsL l t n ∧ prizesC l t = 0) := by constructor <;> simp [pointsZ, prizesC, h1, HT.out, HL.out]
  go_enter Try.func49, Try.ntmps49
  go_wp2_with (first | (go_at_call 20; refine (c_iValidResults _ _ _ l _ h1 _ HA.out HSZ.out hn).mono ?_; rintro r_ w1 ⟨rfl, hb1⟩; have HZ1 := Lib.hid (HZ.out.later hb1); have hz1 := hb1.size) | (go_at_call 74; refine (c_isPointTable _ _ _ t _ HT.out _ HZ1.out hnt).mono ?_; rintro r_ w2 ⟨rfl, hb2⟩; have HB2 := Lib.hid (hb1.trans (hb2.mono hz1)); have hz2 := hb2.size; have HA2 := Lib.hid (HA.out.later HB2.out); have HZ2 := Lib.hid (HZ.out.later HB2.out)) | (go_at_call 77; refine (c_pointsOf _ _ _ _ _ _ l t _ HA2.out HZ2.out HT.out h40 hnt).mono ?_; rintro r_ w3 ⟨rfl, hr3, hb3⟩; have HR3 := Lib.hid hr3; clear hr3))
  go_ret2
  rw [e1.out.1, e1.out.2]
  exact FracPost.mk_ (ptsL_len _ _ _) (HR3.out.own HB2.out.size (by simp only [maxLen]; omega)) (HB2.out.trans (hb3.mono HB2.out.size))
end Go.Proofs.Ytgdmiddiaogpaaa
