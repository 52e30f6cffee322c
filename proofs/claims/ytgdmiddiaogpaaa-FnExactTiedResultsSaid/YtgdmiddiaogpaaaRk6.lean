/- Contracts: HeatsOf. -/
import Derived.Test.YtgdmiddiaogpaaaRk5
import Derived.Test.YtgdmiddiaogpaaaRw
namespace Go.Proofs.Ytgdmiddiaogpaaa
open Go.RowKit Go.BigFrame
attribute [local go_sem] sub_cell sub_frozen drewN_setCell

def heatN (h : Int) (k : Nat) : Int := if h ≤ (k : Int) % (2 * h) then 2 * h - 1 - (k : Int) % (2 * h) else (k : Int) % (2 * h)
theorem heatN_hi {h : Int} {k : Nat} (c : h ≤ (k : Int) % (2 * h)) : heatN h k = 2 * h - 1 - (k : Int) % (2 * h) := if_pos c
theorem heatN_lo {h : Int} {k : Nat} (c : ¬ h ≤ (k : Int) % (2 * h)) : heatN h k = (k : Int) % (2 * h) := if_neg c
def heatP (o : List Nat) (h : Int) : List (Nat × Int) := o.zipIdx.map fun p => (p.1, heatN h p.2)
theorem heatP_get {o : List Nat} {h : Int} {k p : Nat} (hp : o[k]? = some p) : (heatP o h)[k]? = some (p, heatN h k) := by
  simp [heatP, hp]
theorem heatP_len (o : List Nat) (h : Int) : (heatP o h).length = o.length := by simp [heatP]
def heatC (l : List TResult) (h : Int) : Int := if ressB l = true then (if betw h 1 10 = true then 0 else 2) else 1
def heatZ (l : List TResult) (h : Int) : List Int := if ressB l = true then (if betw h 1 10 = true then putAll (List.replicate l.length 0) (heatP (rkL (btr l) l.length) h) else []) else []
theorem heatZ_len (l : List TResult) (h : Int) : (heatZ l h).length ≤ 40 := by
  unfold heatZ
  split
  · rename_i h1
    split
    · rw [putAll_len, List.length_replicate]; exact ress_len h1
    · simp
  · simp
/-- Element k of a ranking that is read. -/
theorem rk_at {w : World} {base n c k : Nat} {B : Option Addr} {e : TypeId} {lt : Nat → Nat → Bool} (hw : Wk lt) (h : w.ownsRow base e 1 (.slice B n c) n ((zl (rkL lt n)).map (Value.int .i64))) (hk : k < n) :
    ∃ g p, B = some ⟨g, 0, none⟩ ∧ base ≤ g ∧ g < w.heap.size ∧ (rkL lt n)[k]? = some p ∧ p < n ∧ w.cell? ⟨g, k, none⟩ = some (.int .i64 p) := by
  have hl := (rkL_ok hw n).len
  obtain ⟨g, cap, hv, h1, h2⟩ := h.form (by omega)
  simp only [Value.slice.injEq, true_and] at hv
  obtain ⟨rfl, rfl⟩ := hv
  have hp : (rkL lt n)[k]? = some (rkL lt n)[k] := List.getElem?_eq_getElem (by omega)
  have hc := h.cells (g := g) rfl k (.int .i64 (rkL lt n)[k]) (by simp [zl, hp])
  rw [Addr.add_lit, Nat.zero_add] at hc
  exact ⟨g, _, rfl, h1, h2, hp, (rkL_ok hw n).lt_ (List.mem_of_getElem? hp), hc⟩

set_option maxHeartbeats 4000000 in
theorem c_sHeatsOf (A : Option Addr) (n c : Nat) (l : List TResult) (h : Int) (w : World) (ha : Sl resultC w w.heap.size 3 A n l) (hsz : RsSz l) (hn : n ≤ 1048576) :
    Calls Try.prog 36 #[.slice A n c, .int .i64 h] w (IntsPost (heatZ l h) (heatC l h) w) := by
  have HL := Lib.hid ha.1
  have HA := Lib.hid ha
  have HSZ := Lib.hid hsz
  clear ha hsz
  cases h1 : ressB l
  · have e1 : Hid (heatZ l h = [] ∧ heatC l h = 1) := by constructor <;> simp [heatZ, heatC, h1]
    go_enter Try.func36, Try.ntmps36
    go_wp2_with (go_at_call 58; refine (c_l22Ok _ _ _ l _ h1 _ HA.out HSZ.out hn).mono ?_; rintro r_ w1 ⟨rfl, hb1⟩)
    go_ret2
    rw [e1.out.1, e1.out.2]
    exact IntsPost.err hb1
  have h40 := ress_len h1
  rw [HL.out] at h40
  cases h2 : betw h 1 10
  · have e1 : Hid (heatZ l h = [] ∧ heatC l h = 2) := by constructor <;> simp [heatZ, heatC, h1, h2]
    go_enter Try.func36, Try.ntmps36
    go_wp2_with (first | (go_at_call 58; refine (c_l22Ok _ _ _ l _ h1 _ HA.out HSZ.out hn).mono ?_; rintro r_ w1 ⟨rfl, hb1⟩) | (go_at_call 68; refine (c_l00In _ _ _ _ (by assumption) _).mono ?_; rintro e w' ⟨rfl, rfl⟩))
    go_ret2
    rw [e1.out.1, e1.out.2]
    exact IntsPost.err hb1
  · have e1 : Hid (heatZ l h = putAll (List.replicate n 0) (heatP (rkL (btr l) n) h) ∧ heatC l h = 0) := by constructor <;> simp [heatZ, heatC, h1, h2, HL.out]
    obtain ⟨b1, b2⟩ := betw_true h2
    have hmk := run_makeZ n hn
    go_enter Try.func36, Try.ntmps36
    go_wp2_with (first | (go_at_call 58; refine (c_l22Ok _ _ _ l _ h1 _ HA.out HSZ.out hn).mono ?_; rintro r_ w1 ⟨rfl, hb1⟩; have HA1 := Lib.hid (fun o => (HA.out.later hb1).later (Below.alloc (Below.refl _ _) (Nat.le_refl _) o)); have hz1 := hb1.size) | (go_at_call 68; refine (c_l00In _ _ _ _ (by assumption) _).mono ?_; rintro e w' ⟨rfl, rfl⟩) | (go_at_call 64; refine (c_l22Rank _ _ _ l _ (HA1.out _) h40).mono ?_; intro r_ w2 hp2; obtain ⟨B, d, rfl, ow, hb2⟩ := hp2.elim (n := n) (by rw [zl_len, (rkL_ok (btr_wk l) n).len]); have OW := Lib.hid ow; have HB2 := Lib.hid hb2; clear ow hb2))
    clear hmk
    have hz2 := HB2.out.size
    simp only [World.size_alloc] at hz2
    go_loopw [8] (fun i wr => ∃ k : Nat, k ≤ n ∧ i = .int .i64 k ∧ Below w.heap.size w wr ∧ RowZ wr w1.heap.size n (putAll (List.replicate n 0) ((heatP (rkL (btr l) n) h).take k)) ∧ wr.ownsRow (w1.heap.size + 1) 2 1 (.slice B n d) n ((zl (rkL (btr l) n)).map (Value.int .i64))) (fun i _ => n - (intOf i).toNat)
    case atStart => exact ⟨0, Nat.zero_le _, rfl, (hb1.alloc hz1 _).trans (HB2.out.mono (by simp; omega)), (RowZ.made w1 n).later HB2.out, by have := OW.out; rwa [World.size_alloc] at this⟩
    case round =>
      obtain ⟨k, hk, rfl, hB, hrow, hown⟩ := hrel
      by_cases hlt : k < n
      · obtain ⟨g, p, rfl, hg1, hg2, hp, hpn, hc⟩ := rk_at (btr_wk l) hown hlt
        have r0 := hrow.cell hpn
        have f0 := hrow.frozen p
        have HP := Lib.hid (heatP_get (h := h) hp)
        have HR := Lib.hid hrow
        have HO := Lib.hid hown
        have i1 : (k : Int) < n := by omega
        have i2 : (p : Int) < n := by omega
        have m0 := Int.emod_nonneg (k : Int) (show 2 * h ≠ 0 by omega)
        have m1 := Int.emod_lt_of_pos (k : Int) (show 0 < 2 * h by omega)
        have hzr := hB.size
        have hgr := hrow.lt
        clear hrow hown hp
        by_cases hge : h ≤ (k : Int) % (2 * h)
        · have HN := Lib.hid (heatN_hi hge)
          go_wp2_with fail
          go_roundw
          case rel => exact ⟨k + 1, by omega, by go_num, hB.setCell (by dsimp only; omega) _, by rw [putAll_take _ _ HP.out, HN.out]; exact HR.out.set _ _, ownsRow_setCell_other HO.out (own_ne_old HO.out (by dsimp only; omega)) _⟩
          case measure => simp [intOf]; omega
        · have HN := Lib.hid (heatN_lo hge)
          go_wp2_with fail
          go_roundw
          case rel => exact ⟨k + 1, by omega, by go_num, hB.setCell (by dsimp only; omega) _, by rw [putAll_take _ _ HP.out, HN.out]; exact HR.out.set _ _, ownsRow_setCell_other HO.out (own_ne_old HO.out (by dsimp only; omega)) _⟩
          case measure => simp [intOf]; omega
      · obtain rfl : k = n := by omega
        go_wp2_with fail
        go_ret2
        rw [e1.out.1, e1.out.2]
        rw [List.take_of_length_le (by rw [heatP_len, (rkL_ok (btr_wk l) k).len]; exact Nat.le_refl _)] at hrow
        exact IntsPost.mk_ (by rw [putAll_len, List.length_replicate]) (hrow.own hz1 (by simp only [maxLen]; omega)) hB
set_option maxHeartbeats 4000000 in
theorem c_iHeatsOf (A : Option Addr) (n c : Nat) (l : List TResult) (h : Int) (w : World) (ha : Sl resultC w w.heap.size 3 A n l) (hsz : RsSz l) (hn : n ≤ 1048576) :
    Calls Try.prog 37 #[.slice A n c, .int .i64 h] w (IntsPost (heatZ l h) (heatC l h) w) := by
  have HL := Lib.hid ha.1
  have HA := Lib.hid ha
  have HSZ := Lib.hid hsz
  clear ha hsz
  cases h1 : ressB l
  · have e1 : Hid (heatZ l h = [] ∧ heatC l h = 1) := by constructor <;> simp [heatZ, heatC, h1]
    go_enter Try.func37, Try.ntmps37
    go_wp2_with (go_at_call 20; refine (c_iValidResults _ _ _ l _ h1 _ HA.out HSZ.out hn).mono ?_; rintro r_ w1 ⟨rfl, hb1⟩)
    go_ret2
    rw [e1.out.1, e1.out.2]
    exact IntsPost.err hb1
  have h40 := ress_len h1
  rw [HL.out] at h40
  cases h2 : betw h 1 10
  · have e1 : Hid (heatZ l h = [] ∧ heatC l h = 2) := by constructor <;> simp [heatZ, heatC, h1, h2]
    go_enter Try.func37, Try.ntmps37
    go_wp2_with (first | (go_at_call 20; refine (c_iValidResults _ _ _ l _ h1 _ HA.out HSZ.out hn).mono ?_; rintro r_ w1 ⟨rfl, hb1⟩) | (go_at_call 60; refine (c_between _ _ _ _ (by assumption) _).mono ?_; rintro e w' ⟨rfl, rfl⟩))
    go_ret2
    rw [e1.out.1, e1.out.2]
    exact IntsPost.err hb1
  · have e1 : Hid (heatZ l h = putAll (List.replicate n 0) (heatP (rkL (btr l) n) h) ∧ heatC l h = 0) := by constructor <;> simp [heatZ, heatC, h1, h2, HL.out]
    obtain ⟨b1, b2⟩ := betw_true h2
    have hmk := run_makeZ n hn
    go_enter Try.func37, Try.ntmps37
    go_wp2_with (first | (go_at_call 20; refine (c_iValidResults _ _ _ l _ h1 _ HA.out HSZ.out hn).mono ?_; rintro r_ w1 ⟨rfl, hb1⟩; have HA1 := Lib.hid (fun o => (HA.out.later hb1).later (Below.alloc (Below.refl _ _) (Nat.le_refl _) o)); have hz1 := hb1.size) | (go_at_call 60; refine (c_between _ _ _ _ (by assumption) _).mono ?_; rintro e w' ⟨rfl, rfl⟩) | (go_at_call 65; refine (c_ranking _ _ _ l _ (HA1.out _) h40).mono ?_; intro r_ w2 hp2; obtain ⟨B, d, rfl, ow, hb2⟩ := hp2.elim (n := n) (by rw [zl_len, (rkL_ok (btr_wk l) n).len]); have OW := Lib.hid ow; have HB2 := Lib.hid hb2; clear ow hb2))
    clear hmk
    have hz2 := HB2.out.size
    simp only [World.size_alloc] at hz2
    go_loopw [22] (fun i wr => ∃ k : Nat, k ≤ n ∧ i = .int .i64 k ∧ Below w.heap.size w wr ∧ RowZ wr w1.heap.size n (putAll (List.replicate n 0) ((heatP (rkL (btr l) n) h).take k)) ∧ wr.ownsRow (w1.heap.size + 1) 2 1 (.slice B n d) n ((zl (rkL (btr l) n)).map (Value.int .i64))) (fun i _ => n - (intOf i).toNat)
    case atStart => exact ⟨0, Nat.zero_le _, rfl, (hb1.alloc hz1 _).trans (HB2.out.mono (by simp; omega)), (RowZ.made w1 n).later HB2.out, by have := OW.out; rwa [World.size_alloc] at this⟩
    case round =>
      obtain ⟨k, hk, rfl, hB, hrow, hown⟩ := hrel
      by_cases hlt : k < n
      · obtain ⟨g, p, rfl, hg1, hg2, hp, hpn, hc⟩ := rk_at (btr_wk l) hown hlt
        have r0 := hrow.cell hpn
        have f0 := hrow.frozen p
        have HP := Lib.hid (heatP_get (h := h) hp)
        have HR := Lib.hid hrow
        have HO := Lib.hid hown
        have i1 : (k : Int) < n := by omega
        have i2 : (p : Int) < n := by omega
        have m0 := Int.emod_nonneg (k : Int) (show 2 * h ≠ 0 by omega)
        have m1 := Int.emod_lt_of_pos (k : Int) (show 0 < 2 * h by omega)
        have hzr := hB.size
        have hgr := hrow.lt
        clear hrow hown hp
        by_cases hge : h ≤ (k : Int) % (2 * h)
        · have HN := Lib.hid (heatN_hi hge)
          go_wp2_with fail
          go_roundw
          case rel => exact ⟨k + 1, by omega, by go_num, hB.setCell (by dsimp only; omega) _, by rw [putAll_take _ _ HP.out, HN.out]; exact HR.out.set _ _, ownsRow_setCell_other HO.out (own_ne_old HO.out (by dsimp only; omega)) _⟩
          case measure => simp [intOf]; omega
        · have HN := Lib.hid (heatN_lo hge)
          go_wp2_with fail
          go_roundw
          case rel => exact ⟨k + 1, by omega, by go_num, hB.setCell (by dsimp only; omega) _, by rw [putAll_take _ _ HP.out, HN.out]; exact HR.out.set _ _, ownsRow_setCell_other HO.out (own_ne_old HO.out (by dsimp only; omega)) _⟩
          case measure => simp [intOf]; omega
      · obtain rfl : k = n := by omega
        go_wp2_with fail
        go_ret2
        rw [e1.out.1, e1.out.2]
        rw [List.take_of_length_le (by rw [heatP_len, (rkL_ok (btr_wk l) k).len]; exact Nat.le_refl _)] at hrow
        exact IntsPost.mk_ (by rw [putAll_len, List.length_replicate]) (hrow.own hz1 (by simp only [maxLen]; omega)) hB
end Go.Proofs.Ytgdmiddiaogpaaa
