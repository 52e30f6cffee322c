/- Contracts: PrizesFor. -/
import Derived.Test.YtgdmiddiaogpaaaTb
import Derived.Test.YtgdmiddiaogpaaaGr
namespace Go.Proofs.Ytgdmiddiaogpaaa
open Go.RowKit Go.BigFrame
attribute [local go_sem] sub_cell sub_frozen drewN_setCell

def prizeV (s : Int) (n q : Nat) : Int := if (q : Int) < s % (n : Int) then s / (n : Int) + 1 else s / (n : Int)
def prizeF (t : List Int) (gs : List (List Nat)) (j : Nat) (g : List Nat) : List (Nat × Int) := g.zipIdx.map fun p => (p.1, prizeV (sumT t (plc gs j) (plc gs j + g.length)) g.length p.2)
theorem prizeF_len (t : List Int) (gs : List (List Nat)) (j : Nat) (g : List Nat) : (prizeF t gs j g).length = g.length := by simp [prizeF]
theorem prizeF_at {t : List Int} {gs : List (List Nat)} {j q i : Nat} {g : List Nat} (h : g[q]? = some i) : (prizeF t gs j g)[q]? = some (i, prizeV (sumT t (plc gs j) (plc gs j + g.length)) g.length q) := by simp [prizeF, h]
def prizesC (l : List TResult) (t : List Int) : Int := if ressB l = true then (if tabB t = true then 0 else 2) else 1
def prizesZ (l : List TResult) (t : List Int) : List Int :=
  if ressB l = true then (if tabB t = true then putAll (List.replicate l.length 0) (perG (prizeF t (grpL (btr l) (rkL (btr l) l.length))) (grpL (btr l) (rkL (btr l) l.length))) else []) else []
theorem prizesZ_len (l : List TResult) (t : List Int) : (prizesZ l t).length ≤ 40 := by
  unfold prizesZ
  split
  · rename_i h
    split
    · rw [putAll_len, List.length_replicate]; exact ress_len h
    · simp
  · simp
theorem c_l22SumI (za zb : Int) (A : Option Addr) (n c a b : Nat) (t : List Int) (hza : za = (a : Int)) (hzb : zb = (b : Int)) (ht : tabB t = true) (hab : a ≤ b) (hb : b ≤ 1048576) (w : World) (ha : Zs w A n t) :
    Calls Try.prog 73 #[.slice A n c, .int .i64 za, .int .i64 zb] w fun e w' => e = .returned (.int .i64 (sumT t a b)) ∧ Below w.heap.size w w' := by
  subst hza hzb; exact c_l22Sum A n c a b t ht hab hb w ha

theorem c_totalZ (A B : Option Addr) (n c p m d : Nat) (t : List Int) (z : Int) (hz : sumT t p (p + m) = z) (ht : tabB t = true) (hp : p ≤ 1048576) (hm : m ≤ 1048576) (w : World) (ha : Zs w A n t) :
    Calls Try.prog 75 #[.agg #[.int .i64 ((p : Int) + 1), .slice B m d], .slice A n c] w fun e w' => e = .returned (.int .i64 z) ∧ Below w.heap.size w w' := by subst hz; exact c_total A B n c p m d t ht hp hm w ha
set_option maxHeartbeats 8000000 in
set_option maxRecDepth 20000 in
theorem c_sPrizesFor (A A1 : Option Addr) (n c nt ct : Nat) (l : List TResult) (t : List Int) (w : World) (ha : Sl resultC w w.heap.size 3 A n l) (ht : Zs w A1 nt t) (hsz : RsSz l) (hn : n ≤ 1048576) (hnt : nt ≤ 1048576) :
    Calls Try.prog 46 #[.slice A n c, .slice A1 nt ct] w (IntsPost (prizesZ l t) (prizesC l t) w) := by
  have HL := Lib.hid ha.1
  have HA := Lib.hid ha
  have HZ := Lib.hid ht
  have HSZ := Lib.hid hsz
  clear ha hsz ht
  cases h1 : ressB l
  · have e1 : Hid (prizesZ l t = [] ∧ prizesC l t = 1) := by constructor <;> simp [prizesZ, prizesC, h1]
    go_enter Try.func46, Try.ntmps46
    go_wp2_with (go_at_call 58; refine (c_l22Ok _ _ _ l _ h1 _ HA.out HSZ.out hn).mono ?_; rintro r_ w1 ⟨rfl, hb1⟩)
    go_ret2
    rw [e1.out.1, e1.out.2]
    exact IntsPost.err hb1
  have h40 := ress_len h1
  rw [HL.out] at h40
  cases h2 : tabB t
  · have e1 : Hid (prizesZ l t = [] ∧ prizesC l t = 2) := by constructor <;> simp [prizesZ, prizesC, h1, h2]
    have HT := Lib.hid h2
    clear h2
    go_enter Try.func46, Try.ntmps46
    go_wp2_with (first | (go_at_call 58; refine (c_l22Ok _ _ _ l _ h1 _ HA.out HSZ.out hn).mono ?_; rintro r_ w1 ⟨rfl, hb1⟩; have HZ1 := Lib.hid (HZ.out.later hb1)) | (go_at_call 72; refine (c_l22Table _ _ _ t _ HT.out _ HZ1.out hnt).mono ?_; rintro r_ w2 ⟨rfl, hb2⟩))
    go_ret2
    rw [e1.out.1, e1.out.2]
    exact IntsPost.err (hb1.trans (hb2.mono hb1.size))
  have HT := Lib.hid h2
  clear h2
  have GI := Lib.hid (ginf l n)
  have e1 : Hid (prizesZ l t = putAll (List.replicate n 0) (perG (prizeF t (grpL (btr l) (rkL (btr l) n))) (grpL (btr l) (rkL (btr l) n))) ∧ prizesC l t = 0) := by constructor <;> simp [prizesZ, prizesC, h1, HT.out, HL.out]
  have hmk := run_makeZ n hn
  go_enter Try.func46, Try.ntmps46
  go_wp2_with (first | (go_at_call 58; refine (c_l22Ok _ _ _ l _ h1 _ HA.out HSZ.out hn).mono ?_; rintro r_ w1 ⟨rfl, hb1⟩; have HZ1 := Lib.hid (HZ.out.later hb1); have hz1 := hb1.size) | (go_at_call 72; refine (c_l22Table _ _ _ t _ HT.out _ HZ1.out hnt).mono ?_; rintro r_ w2 ⟨rfl, hb2⟩; have HB2 := Lib.hid (hb1.trans (hb2.mono hz1)); have hz2 := hb2.size; have HA2 := Lib.hid (fun o => (HA.out.later HB2.out).later (Below.alloc (Below.refl _ _) (Nat.le_refl _) o))) | (go_at_call 69; refine (c_l22Groups _ _ _ l _ (HA2.out _) h40).mono ?_; rintro r_ w3 ⟨G, d, vs, rfl, hst, hb3⟩; have HST := Lib.hid hst; clear hst))
  clear hmk
  generalize grpL (btr l) (rkL (btr l) n) = gs at HST GI e1 ⊢
  have hz3 := hb3.size
  simp only [World.size_alloc] at hz3
  have hgl := GI.out.len
  go_loopw [8, 9] (fun a i wr => ∃ j : Nat, j ≤ gs.length ∧ i = .int .i64 j ∧ a = .int .i64 (plc gs j) ∧ Below w.heap.size w wr ∧ RowZ wr w2.heap.size n (putAll (List.replicate n 0) ((perG (prizeF t gs) gs).take (plc gs j))) ∧ GrpIn (w2.heap.size + 1) wr G gs.length d gs vs) (fun _ i _ => gs.length - (intOf i).toNat)
  case atStart =>
    refine ⟨0, Nat.zero_le _, rfl, rfl, (HB2.out.alloc (by omega) _).trans (hb3.mono (by simp; omega)), (RowZ.made w2 n).later hb3, ?_⟩
    have := HST.out
    rwa [World.size_alloc] at this
  case round =>
    obtain ⟨j, hj, rfl, rfl, hB, hrow, hti⟩ := hrel
    have hz := hB.size
    have hgr := hrow.lt
    rename World => wo
    by_cases hlt : j < gs.length
    · obtain ⟨g, hgj⟩ : ∃ g, gs[j]? = some g := ⟨_, List.getElem?_eq_getElem hlt⟩
      obtain ⟨gb, cap, k1, hgb1, hgb2, hvj⟩ := hti.at_ hgj (GI.out.ne hgj)
      have HGJ := Lib.hid hgj
      have HVJ := Lib.hid hvj
      have HR := Lib.hid hrow
      have HTI := Lib.hid hti
      have hgl2 := GI.out.glen hgj
      have hpl := GI.out.plc_le j
      have hGl := own_block_lt hti.out
      have hpos : 0 < g.length := List.length_pos_iff.2 (GI.out.ne hgj)
      have i1 : (j : Int) < gs.length := by omega
      have HZ3 := Lib.hid (HZ.out.later hB)
      obtain ⟨z, hz0⟩ : ∃ z, sumT t (plc gs j) (plc gs j + g.length) = z := ⟨_, rfl⟩
      have hbd := sumT_bd HT.out (plc gs j) (plc gs j + g.length)
      rw [hz0] at hbd
      have HZV := Lib.hid hz0
      obtain ⟨hbd1, hbd2⟩ := hbd
      clear hrow hti hgj hvj hz0
      go_wp2_with (go_at_call 73; refine (c_l22SumI _ _ _ _ _ (plc gs j) (plc gs j + g.length) t (by simp) (by simp) HT.out (by omega) (by omega) _ HZ3.out).mono ?_; rw [HZV.out]; rintro r_ w4 ⟨rfl, hb4⟩; have HB4 := Lib.hid hb4; clear hb4)
      go_loopw [12] (fun i wr => ∃ q : Nat, q ≤ g.length ∧ i = .int .i64 q ∧ Below w.heap.size w wr ∧ RowZ wr w2.heap.size n (putAll (List.replicate n 0) ((perG (prizeF t gs) gs).take (plc gs j + q))) ∧ GrpIn (w2.heap.size + 1) wr G gs.length d gs vs) (fun i _ => g.length - (intOf i).toNat)
      case atStart => exact ⟨0, Nat.zero_le _, rfl, hB.trans (HB4.out.mono hz), HR.out.later HB4.out, HTI.out.later HB4.out⟩
      case round =>
        obtain ⟨q, hq, rfl, hB2, hrow, hti⟩ := hrel
        rename World => wi
        have hz5 := hB2.size
        have hgr5 := hrow.lt
        by_cases hlt2 : q < g.length
        · obtain ⟨i, hi⟩ : ∃ i, g[q]? = some i := ⟨_, List.getElem?_eq_getElem hlt2⟩
          have hc := hti.elem HGJ.out HVJ.out hi
          have hc2 := own_cell hti.out HVJ.out
          have hin := GI.out.lt HGJ.out hi
          have r0 := hrow.cell hin
          have f0 := hrow.frozen i
          have HP := Lib.hid (perG_at (prizeF_len t gs) HGJ.out (prizeF_at (t := t) (gs := gs) (j := j) hi))
          rw [HZV.out] at HP
          have i2 : (q : Int) < g.length := by omega
          have i3 : (i : Int) < n := by omega
          have hG5 := (own_block_lt hti.out).2
          have hgb5 := (hti.grp.lt HVJ.out rfl).2
          have HR2 := Lib.hid hrow
          have HTI2 := Lib.hid hti
          clear hrow hti hi
          have hposI : (0 : Int) < (g.length : Int) := by omega
          have hqa : 0 ≤ z / (g.length : Int) := Int.ediv_nonneg hbd1 (by omega)
          have hqb : z / (g.length : Int) ≤ z := Int.ediv_le_self _ hbd1
          go_wp2_with fail
          refine wp_region_below_tail 12 (by kernel_rfl) (by kernel_rfl) ?_
          simp only [List.take_succ_cons, List.take_zero, List.drop_succ_cons, List.drop_zero]
          repeat (go_big_quiet_step (fail))
          refine wpQuiet_nil ?_
          intro _ hw'
          obtain ⟨⟨w6, hb6⟩, hw''⟩ := hw'
          subst hw''
          rename World => w6
          have hz6 := hb6.size
          have HR6 := Lib.hid (HR2.out.later hb6)
          have HTI6 := Lib.hid (HTI2.out.later hb6)
          have HB6 := Lib.hid (hB2.trans (hb6.mono hz5))
          have r6 := HR6.out.cell hin
          have f6 := HR6.out.frozen i
          obtain ⟨hc6, hf6⟩ := bcell hb6
          clear hb6
          by_cases hm : (q : Int) < z % (g.length : Int)
          · have HV : Hid (prizeV z g.length q = z / (g.length : Int) + 1) := if_pos hm
            go_wp2_with fail
            go_roundw
            case rel =>
              refine ⟨q + 1, by omega, by go_num, (HB6.out.setCell (by dsimp only; omega) _).setCell (by dsimp only; omega) _, ?_, (HTI6.out.far (by dsimp only; omega) _).far (by dsimp only; omega) _⟩
              rw [← Nat.add_assoc, putAll_take _ _ HP.out, HV.out]
              have h9 := (HR6.out.set i (z / (g.length : Int))).set i (z / (g.length : Int) + 1)
              rwa [List.set_set] at h9
            case measure => simp [intOf]; omega
          · have HV : Hid (prizeV z g.length q = z / (g.length : Int)) := if_neg hm
            go_wp2_with fail
            go_roundw
            case rel =>
              refine ⟨q + 1, by omega, by go_num, HB6.out.setCell (by dsimp only; omega) _, ?_, HTI6.out.far (by dsimp only; omega) _⟩
              rw [← Nat.add_assoc, putAll_take _ _ HP.out, HV.out]
              exact HR6.out.set i (z / (g.length : Int))
            case measure => simp [intOf]; omega
        · obtain rfl : q = g.length := by omega
          have HR2 := Lib.hid hrow
          have HTI2 := Lib.hid hti
          clear hrow hti
          go_wp2_with fail
          go_roundw
          case rel => exact ⟨j + 1, by omega, by go_num, by rw [plc_succ HGJ.out]; go_num, hB2, by rw [plc_succ HGJ.out]; exact HR2.out, HTI2.out⟩
          case measure => simp [intOf]; omega
    · obtain rfl : j = gs.length := by omega
      go_wp2_with fail
      go_ret2
      rw [e1.out.1, e1.out.2]
      rw [List.take_of_length_le (by rw [perG_len (prizeF_len t gs), plc_all]; exact Nat.le_refl _)] at hrow
      exact IntsPost.mk_ (by rw [putAll_len]; simp) (hrow.own (by omega) (by simp only [maxLen]; omega)) hB
set_option maxHeartbeats 8000000 in
set_option maxRecDepth 20000 in
theorem c_iPrizesFor (A A1 : Option Addr) (n c nt ct : Nat) (l : List TResult) (t : List Int) (w : World) (ha : Sl resultC w w.heap.size 3 A n l) (ht : Zs w A1 nt t) (hsz : RsSz l) (hn : n ≤ 1048576) (hnt : nt ≤ 1048576) :
    Calls Try.prog 47 #[.slice A n c, .slice A1 nt ct] w (IntsPost (prizesZ l t) (prizesC l t) w) := by
  have HL := Lib.hid ha.1
  have HA := Lib.hid ha
  have HZ := Lib.hid ht
  have HSZ := Lib.hid hsz
  clear ha hsz ht
  cases h1 : ressB l
  · have e1 : Hid (prizesZ l t = [] ∧ prizesC l t = 1) := by constructor <;> simp [prizesZ, prizesC, h1]
    go_enter Try.func47, Try.ntmps47
    go_wp2_with (go_at_call 20; refine (c_iValidResults _ _ _ l _ h1 _ HA.out HSZ.out hn).mono ?_; rintro r_ w1 ⟨rfl, hb1⟩)
    go_ret2
    rw [e1.out.1, e1.out.2]
    exact IntsPost.err hb1
  have h40 := ress_len h1
  rw [HL.out] at h40
  cases h2 : tabB t
  · have e1 : Hid (prizesZ l t = [] ∧ prizesC l t = 2) := by constructor <;> simp [prizesZ, prizesC, h1, h2]
    have HT := Lib.hid h2
    clear h2
    go_enter Try.func47, Try.ntmps47
    go_wp2_with (first | (go_at_call 20; refine (c_iValidResults _ _ _ l _ h1 _ HA.out HSZ.out hn).mono ?_; rintro r_ w1 ⟨rfl, hb1⟩; have HZ1 := Lib.hid (HZ.out.later hb1)) | (go_at_call 74; refine (c_isPointTable _ _ _ t _ HT.out _ HZ1.out hnt).mono ?_; rintro r_ w2 ⟨rfl, hb2⟩))
    go_ret2
    rw [e1.out.1, e1.out.2]
    exact IntsPost.err (hb1.trans (hb2.mono hb1.size))
  have HT := Lib.hid h2
  clear h2
  have GI := Lib.hid (ginf l n)
  have e1 : Hid (prizesZ l t = putAll (List.replicate n 0) (perG (prizeF t (grpL (btr l) (rkL (btr l) n))) (grpL (btr l) (rkL (btr l) n))) ∧ prizesC l t = 0) := by constructor <;> simp [prizesZ, prizesC, h1, HT.out, HL.out]
  have hmk := run_makeZ n hn
  go_enter Try.func47, Try.ntmps47
  go_wp2_with (first | (go_at_call 20; refine (c_iValidResults _ _ _ l _ h1 _ HA.out HSZ.out hn).mono ?_; rintro r_ w1 ⟨rfl, hb1⟩; have HZ1 := Lib.hid (HZ.out.later hb1); have hz1 := hb1.size) | (go_at_call 74; refine (c_isPointTable _ _ _ t _ HT.out _ HZ1.out hnt).mono ?_; rintro r_ w2 ⟨rfl, hb2⟩; have HB2 := Lib.hid (hb1.trans (hb2.mono hz1)); have hz2 := hb2.size; have HA2 := Lib.hid (fun o => (HA.out.later HB2.out).later (Below.alloc (Below.refl _ _) (Nat.le_refl _) o))) | (go_at_call 67; refine (c_ties _ _ _ l _ (HA2.out _) h40).mono ?_; rintro r_ w3 ⟨G, d, vs, rfl, hst⟩; have HST := Lib.hid hst; have hb3 := hst.below; clear hst))
  clear hmk
  generalize grpL (btr l) (rkL (btr l) n) = gs at HST GI e1 ⊢
  have hz3 := hb3.size
  simp only [World.size_alloc] at hz3
  have hgl := GI.out.len
  go_loopw [25] (fun i wr => ∃ j : Nat, j ≤ gs.length ∧ i = .int .i64 j ∧ Below w.heap.size w wr ∧ RowZ wr w2.heap.size n (putAll (List.replicate n 0) ((perG (prizeF t gs) gs).take (plc gs j))) ∧ TieIn (w2.heap.size + 1) wr G gs.length d gs vs) (fun i _ => gs.length - (intOf i).toNat)
  case atStart =>
    refine ⟨0, Nat.zero_le _, rfl, (HB2.out.alloc (by omega) _).trans (hb3.mono (by simp; omega)), (RowZ.made w2 n).later hb3, ?_⟩
    have := HST.out.rd
    rwa [World.size_alloc] at this
  case round =>
    obtain ⟨j, hj, rfl, hB, hrow, hti⟩ := hrel
    have hz := hB.size
    have hgr := hrow.lt
    rename World => wo
    by_cases hlt : j < gs.length
    · obtain ⟨g, hgj⟩ : ∃ g, gs[j]? = some g := ⟨_, List.getElem?_eq_getElem hlt⟩
      obtain ⟨gb, cap, k0, k1, hgb1, hgb2, hvj⟩ := hti.at_ hgj (GI.out.ne hgj)
      have HGJ := Lib.hid hgj
      have HVJ := Lib.hid hvj
      have HR := Lib.hid hrow
      have HTI := Lib.hid hti
      have hgl2 := GI.out.glen hgj
      have hpl := GI.out.plc_le j
      have hGl := own_block_lt hti.out
      have hpos : 0 < g.length := List.length_pos_iff.2 (GI.out.ne hgj)
      have i1 : (j : Int) < gs.length := by omega
      have HZ3 := Lib.hid (HZ.out.later hB)
      obtain ⟨z, hz0⟩ : ∃ z, sumT t (plc gs j) (plc gs j + g.length) = z := ⟨_, rfl⟩
      have hbd := sumT_bd HT.out (plc gs j) (plc gs j + g.length)
      rw [hz0] at hbd
      have HZV := Lib.hid hz0
      obtain ⟨hbd1, hbd2⟩ := hbd
      clear hrow hti hgj hvj hz0
      go_wp2_with fail
      have HZW := Lib.hid (HZ3.out.later (Below.alloc (Below.refl _ wo) (Nat.le_refl _) (.cells #[.int .i64 ((plc gs j : Int) + 1), .slice (some ⟨gb, 0, none⟩) g.length cap] 84)))
      refine wp_region_below (by kernel_rfl) (by kernel_rfl) ?_
      repeat (go_big_quiet_step ((go_at_call 75; refine qBg (c_totalZ _ _ _ _ (plc gs j) g.length _ t z HZV.out HT.out (by omega) (by omega) _ (HZW.out.later (Later.h _))) (by simp) ?_; intro w_ h_; first | exact h_ | exact h_.below | (subst h_; exact Below.refl _ _) | (subst h_; (repeat' (first | (with_reducible exact Below.refl _ _) | (with_reducible assumption) | (with_reducible refine below_drewN ?_ _) | (with_reducible refine Below.drew ?_) | (with_reducible refine Below.alloc ?_ ?_ _) | (with_reducible refine Below.setCell ?_ ?_ _) | go_size))) | (obtain ⟨n_, rfl⟩ := h_; (repeat' (first | (with_reducible exact Below.refl _ _) | (with_reducible assumption) | (with_reducible refine below_drewN ?_ _) | (with_reducible refine Below.drew ?_) | (with_reducible refine Below.alloc ?_ ?_ _) | (with_reducible refine Below.setCell ?_ ?_ _) | go_size))))))
      refine wpQuiet_nil ?_
      intro _ hw'
      obtain ⟨⟨w7, hb7⟩, hw''⟩ := hw'
      subst hw''
      have HB4 := Lib.hid (((Below.refl _ wo).alloc (Nat.le_refl _) _).trans (hb7.mono (by simp)))
      obtain ⟨hc7, hf7⟩ := bcell hb7
      simp only [World.size_alloc] at hc7 hf7
      clear hb7
      go_wp2_with fail
      go_loopw [38] (fun i wr => ∃ q : Nat, q ≤ g.length ∧ i = .int .i64 q ∧ Below w.heap.size w wr ∧ RowZ wr w2.heap.size n (putAll (List.replicate n 0) ((perG (prizeF t gs) gs).take (plc gs j + q))) ∧ TieIn (w2.heap.size + 1) wr G gs.length d gs vs) (fun i _ => g.length - (intOf i).toNat)
      case atStart => exact ⟨0, Nat.zero_le _, rfl, hB.trans (HB4.out.mono hz), HR.out.later HB4.out, HTI.out.later HB4.out⟩
      case round =>
        obtain ⟨q, hq, rfl, hB2, hrow, hti⟩ := hrel
        rename World => wi
        have hz5 := hB2.size
        have hgr5 := hrow.lt
        by_cases hlt2 : q < g.length
        · obtain ⟨i, hi⟩ : ∃ i, g[q]? = some i := ⟨_, List.getElem?_eq_getElem hlt2⟩
          have hc := hti.elem HGJ.out HVJ.out hi
          have hin := GI.out.lt HGJ.out hi
          have r0 := hrow.cell hin
          have f0 := hrow.frozen i
          have HP := Lib.hid (perG_at (prizeF_len t gs) HGJ.out (prizeF_at (t := t) (gs := gs) (j := j) hi))
          rw [HZV.out] at HP
          have i2 : (q : Int) < g.length := by omega
          have i3 : (i : Int) < n := by omega
          have hG5 := (own_block_lt hti.out).2
          have hgb5 := (hti.grp.lt HVJ.out rfl).2
          have HR2 := Lib.hid hrow
          have HTI2 := Lib.hid hti
          clear hrow hti hi
          have hposI : (0 : Int) < (g.length : Int) := by omega
          have hqa : 0 ≤ z / (g.length : Int) := Int.ediv_nonneg hbd1 (by omega)
          have hqb : z / (g.length : Int) ≤ z := Int.ediv_le_self _ hbd1
          have HB6 := Lib.hid hB2
          have HR6 := HR2
          have HTI6 := HTI2
          by_cases hm : (q : Int) < z % (g.length : Int)
          · have HV : Hid (prizeV z g.length q = z / (g.length : Int) + 1) := if_pos hm
            go_wp2_with fail
            go_roundw
            case rel =>
              refine ⟨q + 1, by omega, by go_num, (HB6.out.setCell (by dsimp only; omega) _).setCell (by dsimp only; omega) _, ?_, (HTI6.out.far (by dsimp only; omega) _).far (by dsimp only; omega) _⟩
              rw [← Nat.add_assoc, putAll_take _ _ HP.out, HV.out]
              have h9 := (HR6.out.set i (z / (g.length : Int))).set i (z / (g.length : Int) + 1)
              rwa [List.set_set] at h9
            case measure => simp [intOf]; omega
          · have HV : Hid (prizeV z g.length q = z / (g.length : Int)) := if_neg hm
            go_wp2_with fail
            go_roundw
            case rel =>
              refine ⟨q + 1, by omega, by go_num, HB6.out.setCell (by dsimp only; omega) _, ?_, HTI6.out.far (by dsimp only; omega) _⟩
              rw [← Nat.add_assoc, putAll_take _ _ HP.out, HV.out]
              exact HR6.out.set i (z / (g.length : Int))
            case measure => simp [intOf]; omega
        · obtain rfl : q = g.length := by omega
          have HR2 := Lib.hid hrow
          have HTI2 := Lib.hid hti
          clear hrow hti
          go_wp2_with fail
          go_roundw
          case rel => exact ⟨j + 1, by omega, by go_num, hB2, by rw [plc_succ HGJ.out]; exact HR2.out, HTI2.out⟩
          case measure => simp [intOf]; omega
    · obtain rfl : j = gs.length := by omega
      go_wp2_with fail
      go_ret2
      rw [e1.out.1, e1.out.2]
      rw [List.take_of_length_le (by rw [perG_len (prizeF_len t gs), plc_all]; exact Nat.le_refl _)] at hrow
      exact IntsPost.mk_ (by rw [putAll_len]; simp) (hrow.own (by omega) (by simp only [maxLen]; omega)) hB
end Go.Proofs.Ytgdmiddiaogpaaa
