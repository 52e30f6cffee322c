/- Who goes on from heats: the plain law. No program in sight. -/
import Derived.Test.YtgdmiddiaogpaaaPt
import Derived.Test.YtgdmiddiaogpaaaRk6
import Derived.Test.YtgdmiddiaogpaaaRl
import Derived.Test.YtgdmiddiaogpaaaBt
namespace Go.Proofs.Ytgdmiddiaogpaaa

/-- The places below n that stand in S, rising. -/
def qset (n : Nat) (S : List Nat) : List Nat := (List.range n).filter fun i => decide (i ∈ S)
theorem qset_mem {n i : Nat} {S : List Nat} : i ∈ qset n S ↔ i < n ∧ i ∈ S := by simp [qset]
theorem qset_len (n : Nat) (S : List Nat) : (qset n S).length ≤ n := by
  have := List.length_filter_le (fun i => decide (i ∈ S)) (List.range n)
  simpa [qset] using this
theorem zl_mem {o : List Nat} {z : Int} : z ∈ zl o ↔ ∃ i ∈ o, (i : Int) = z := by simp [zl]
theorem qset_rise (n : Nat) (S : List Nat) : (zl (qset n S)).Pairwise (· < ·) := by
  unfold zl
  rw [List.pairwise_map]
  exact (List.Pairwise.filter _ List.pairwise_lt_range).imp fun h => by omega
theorem putL_qset {n p : Nat} {S : List Nat} (hp : p < n) : putL (p : Int) (zl (qset n S)) = zl (qset n (p :: S)) := by
  refine rise_eq (putL_rise (qset_rise n S)) (qset_rise n (p :: S)) fun y => ?_
  rw [putL_mem, zl_mem, zl_mem]
  constructor
  · rintro (rfl | ⟨i, h1, rfl⟩)
    · exact ⟨p, qset_mem.2 ⟨hp, by simp⟩, rfl⟩
    · obtain ⟨h2, h3⟩ := qset_mem.1 h1
      exact ⟨i, qset_mem.2 ⟨h2, by simp [h3]⟩, rfl⟩
  · rintro ⟨i, h1, rfl⟩
    obtain ⟨h2, h3⟩ := qset_mem.1 h1
    rcases List.mem_cons.1 h3 with rfl | h3
    · exact .inl rfl
    · exact .inr ⟨i, qset_mem.2 ⟨h2, h3⟩, rfl⟩
theorem qset_succ_in {k : Nat} {S : List Nat} (h : k ∈ S) : qset (k + 1) S = qset k S ++ [k] := by simp [qset, List.range_succ, List.filter_append, h]
theorem qset_succ_out {k : Nat} {S : List Nat} (h : k ∉ S) : qset (k + 1) S = qset k S := by simp [qset, List.range_succ, List.filter_append, h]
theorem qset_nil (n : Nat) : qset n [] = [] := by simp [qset]

/-- How many have gone on from each heat, how many more may, and who goes on. -/
abbrev QS := List Int × Int × List Nat
def qStep (hs : List Int) (each : Int) (st : QS) (p : Nat) : QS :=
  if st.1.getD (hs.getD p 0).toNat 0 < each then (st.1.set (hs.getD p 0).toNat (st.1.getD (hs.getD p 0).toNat 0 + 1), st.2.1, p :: st.2.2)
  else if 0 < st.2.1 then (st.1, st.2.1 - 1, p :: st.2.2) else st
def qFold (hs : List Int) (each rest : Int) (o : List Nat) (k : Nat) : QS := (o.take k).foldl (qStep hs each) (List.replicate 10 0, rest, [])
theorem qFold_succ {hs : List Int} {each rest : Int} {o : List Nat} {k p : Nat} (hp : o[k]? = some p) : qFold hs each rest o (k + 1) = qStep hs each (qFold hs each rest o k) p := by
  rw [qFold, List.take_add_one, hp, List.foldl_append]; rfl
theorem qStep_a {hs u : List Int} {each r : Int} {S : List Nat} {p q : Nat} (hq : hs[p]? = some (q : Int)) (h : u.getD q 0 < each) : qStep hs each (u, r, S) p = (u.set q (u.getD q 0 + 1), r, p :: S) := by
  have e : (hs.getD p 0).toNat = q := by simp [List.getD_eq_getElem?_getD, hq]
  simp only [qStep, e, h, if_true]
theorem qStep_b {hs u : List Int} {each r : Int} {S : List Nat} {p q : Nat} (hq : hs[p]? = some (q : Int)) (h : ¬ u.getD q 0 < each) (h2 : 0 < r) : qStep hs each (u, r, S) p = (u, r - 1, p :: S) := by
  have e : (hs.getD p 0).toNat = q := by simp [List.getD_eq_getElem?_getD, hq]
  simp only [qStep, e, h, h2, if_true, if_false]
theorem qStep_c {hs u : List Int} {each r : Int} {S : List Nat} {p q : Nat} (hq : hs[p]? = some (q : Int)) (h : ¬ u.getD q 0 < each) (h2 : ¬ 0 < r) : qStep hs each (u, r, S) p = (u, r, S) := by
  have e : (hs.getD p 0).toNat = q := by simp [List.getD_eq_getElem?_getD, hq]
  simp only [qStep, e, h, h2, if_false]
/-- Bounds of such a state. -/
structure QB (k : Nat) (st : QS) : Prop where
  len : st.1.length = 10
  lo : ∀ j, 0 ≤ st.1.getD j 0
  hi : ∀ j, st.1.getD j 0 ≤ k
  r0 : 0 ≤ st.2.1
  r1 : st.2.1 ≤ 40
theorem QB.start {rest : Int} (h : betw rest 0 40 = true) : QB 0 (List.replicate 10 0, rest, []) := by
  obtain ⟨h1, h2⟩ := betw_true h
  refine ⟨by simp, fun j => ?_, fun j => ?_, h1, h2⟩ <;>
  · simp only [List.getD_eq_getElem?_getD, List.getElem?_replicate]
    split <;> simp
theorem QB.step {hs : List Int} {each : Int} {st : QS} {k p : Nat} (h : QB k st) : QB (k + 1) (qStep hs each st p) := by
  unfold qStep
  split
  · refine ⟨by simpa using h.len, fun j => ?_, fun j => ?_, h.r0, h.r1⟩
    · simp only [List.getD_eq_getElem?_getD, List.getElem?_set]
      have := h.lo j
      have h2 := h.lo (hs.getD p 0).toNat
      simp only [List.getD_eq_getElem?_getD] at this h2
      split
      · split
        · simp only [Option.getD_some]; omega
        · simp
      · exact this
    · simp only [List.getD_eq_getElem?_getD, List.getElem?_set]
      have := h.hi j
      have h2 := h.hi (hs.getD p 0).toNat
      simp only [List.getD_eq_getElem?_getD] at this h2
      split
      · split
        · simp only [Option.getD_some]; omega
        · simp only [Option.getD_none]; omega
      · omega
  · split
    · exact ⟨h.len, h.lo, fun j => by have := h.hi j; dsimp only; omega, by dsimp only; omega, by have := h.r1; dsimp only; omega⟩
    · exact ⟨h.len, h.lo, fun j => by have := h.hi j; omega, h.r0, h.r1⟩

/-- Heats are numbers from 0 to 9, one for each. -/
def heatsB (hs : List Int) : Bool := hs.all fun z => betw z 0 9
theorem heatsB_at {hs : List Int} {k : Nat} {z : Int} (h : heatsB hs = true) (hz : hs[k]? = some z) : betw z 0 9 = true := by
  simp only [heatsB, List.all_eq_true] at h
  exact h z (List.mem_of_getElem? hz)
theorem heatsB_bad {hs : List Int} {k : Nat} {z : Int} (hz : hs[k]? = some z) (h : betw z 0 9 = false) : heatsB hs = false := by
  simp only [heatsB, List.all_eq_false]
  exact ⟨z, List.mem_of_getElem? hz, by simp [h]⟩
theorem heats_take {hs : List Int} {k : Nat} {z : Int} (hz : hs[k]? = some z) (h : heatsB (hs.take k) = true) (h2 : betw z 0 9 = true) : heatsB (hs.take (k + 1)) = true := by
  rw [heatsB, List.take_add_one, hz, List.all_append]
  rw [heatsB] at h
  simp [h, h2]
def qualB (l : List TResult) (hs : List Int) (each rest : Int) : Bool := heatsB hs && (decide (hs.length = l.length) && (betw each 0 40 && betw rest 0 40))
def qualC (l : List TResult) (hs : List Int) (each rest : Int) : Int := if ressB l = true then (if qualB l hs each rest = true then 0 else 2) else 1
def qualZ (l : List TResult) (hs : List Int) (each rest : Int) : List Int :=
  if ressB l = true then (if qualB l hs each rest = true then zl (qset l.length (qFold hs each rest (rkL (btr l) l.length) l.length).2.2) else []) else []
theorem qualZ_len (l : List TResult) (hs : List Int) (each rest : Int) : (qualZ l hs each rest).length ≤ 40 := by
  unfold qualZ
  split
  · rename_i h1
    split
    · rw [zl_len]; exact Nat.le_trans (qset_len _ _) (ress_len h1)
    · simp
  · simp
end Go.Proofs.Ytgdmiddiaogpaaa
/- Contracts: QualifyFrom. -/
namespace Go.Proofs.Ytgdmiddiaogpaaa
open Go.RowKit Go.BigFrame
attribute [local go_sem] sub_cell sub_frozen drewN_setCell

set_option maxHeartbeats 2000000 in
theorem c_areHeats (A : Option Addr) (n c m : Nat) (hs : List Int) (r : Bool) (hr : (heatsB hs && decide (n = m)) = r) (w : World) (ha : Zs w A n hs) (hn : n ≤ 1048576) (_hm : m ≤ 1048576) :
    Calls Try.prog 71 #[.slice A n c, .int .i64 (m : Int)] w fun e w' => e = .returned (.bool r) ∧ Below w.heap.size w w' := by
  have HL := Lib.hid ha.1
  have HA := Lib.hid ha
  have HR := Lib.hid hr
  clear ha hr
  go_enter Try.func71, Try.ntmps71
  go_wp2_with fail
  go_loopw [9] (fun i wr => ∃ k : Nat, k ≤ n ∧ i = .int .i64 k ∧ Below w.heap.size w wr ∧ Hid (heatsB (hs.take k) = true)) (fun i _ => n - (intOf i).toNat)
  case atStart => exact ⟨0, Nat.zero_le _, rfl, Below.refl _ _, rfl⟩
  case round =>
    obtain ⟨k, hk, rfl, hB, hok⟩ := hrel
    by_cases hlt : k < n
    · obtain ⟨b, o, z, rfl, hb1, hb2, hx, c0⟩ := z_at HA.out hB hlt
      cases hz : betw z 0 9
      · have HX := Lib.hid (heatsB_bad hx hz)
        clear hx
        go_wp2_with (go_at_call 60; refine (c_between _ _ _ _ (by assumption) _).mono ?_; rintro e w' ⟨rfl, rfl⟩)
        go_ret
        exact ⟨by rw [← HR.out, HX.out]; rfl, hB⟩
      · have HX := Lib.hid (heats_take hx hok.out hz)
        clear hx
        go_wp2_with (go_at_call 60; refine (c_between _ _ _ _ (by assumption) _).mono ?_; rintro e w' ⟨rfl, rfl⟩)
        go_roundw
        case rel => exact ⟨k + 1, by omega, by go_num, hB, HX⟩
        case measure => simp [intOf]; omega
    · obtain rfl : k = n := by omega
      have hall := hok.out
      rw [List.take_of_length_le (by rw [HL.out]; exact Nat.le_refl _)] at hall
      have HALL := Lib.hid hall
      clear hall hok
      have hq : ((k : Int) == (m : Int)) = decide (k = m) := by
        rw [Bool.eq_iff_iff]; simp; omega
      go_wp2_with fail
      go_ret
      exact ⟨by rw [← HR.out, HALL.out]; simp, hB⟩

/-- What the tests say. -/
theorem qual_cases (l : List TResult) (hs : List Int) (each rest : Int) : qualB l hs each rest = true → heatsB hs = true ∧ hs.length = l.length ∧ betw each 0 40 = true ∧ betw rest 0 40 = true := by
  intro h
  simp only [qualB, Bool.and_eq_true, decide_eq_true_eq] at h
  exact ⟨h.1, h.2.1, h.2.2.1, h.2.2.2⟩
theorem heats_num {hs : List Int} {k n : Nat} (h : heatsB hs = true) (hl : hs.length = n) (hk : k < n) : ∃ q : Nat, hs[k]? = some (q : Int) ∧ q < 10 := by
  have hx : hs[k]? = some hs[k] := List.getElem?_eq_getElem (by omega)
  obtain ⟨h1, h2⟩ := betw_true (heatsB_at h hx)
  exact ⟨(hs[k]).toNat, by rw [hx]; congr 1; omega, by omega⟩

set_option maxHeartbeats 8000000 in
theorem c_sQualifyFrom (A B0 : Option Addr) (n c m d : Nat) (l : List TResult) (hs : List Int) (each rest : Int) (w : World) (ha : Sl resultC w w.heap.size 3 A n l) (hh : Zs w B0 m hs) (hsz : RsSz l) (hn : n ≤ 1048576) (hm : m ≤ 1048576) :
    Calls Try.prog 43 #[.slice A n c, .slice B0 m d, .int .i64 each, .int .i64 rest] w (IntsPost (qualZ l hs each rest) (qualC l hs each rest) w) := by
  have HL := Lib.hid ha.1
  have HA := Lib.hid ha
  have HSZ := Lib.hid hsz
  have HH := Lib.hid hh
  have HHL := Lib.hid hh.1
  clear ha hsz hh
  cases h1 : ressB l
  · have e1 : Hid (qualZ l hs each rest = [] ∧ qualC l hs each rest = 1) := by constructor <;> simp [qualZ, qualC, h1]
    go_enter Try.func43, Try.ntmps43
    go_wp2_with (go_at_call 58; refine (c_l22Ok _ _ _ l _ h1 _ HA.out HSZ.out hn).mono ?_; rintro r_ w1 ⟨rfl, hb1⟩)
    go_ret2
    rw [e1.out.1, e1.out.2]
    exact IntsPost.err hb1
  have h40 := ress_len h1
  rw [HL.out] at h40
  have H1 := Lib.hid h1
  clear h1
  have ERR : Hid (qualB l hs each rest = false → qualZ l hs each rest = [] ∧ qualC l hs each rest = 2) := fun h => by constructor <;> simp [qualZ, qualC, H1.out, h]
  go_enter Try.func43, Try.ntmps43
  go_wp2_with (go_at_call 58; refine (c_l22Ok _ _ _ l _ H1.out _ HA.out HSZ.out hn).mono ?_; rintro r_ w1 ⟨rfl, hb1⟩)
  go_loopw [10] (fun i wr => ∃ k : Nat, k ≤ m ∧ i = .int .i64 k ∧ Below w.heap.size w wr ∧ Hid (heatsB (hs.take k) = true)) (fun i _ => m - (intOf i).toNat)
  case atStart => exact ⟨0, Nat.zero_le _, rfl, hb1, rfl⟩
  case round =>
    clear hb1
    obtain ⟨k, hk, rfl, hB, hok⟩ := hrel
    rename World => wo
    by_cases hlt : k < m
    · obtain ⟨b, o, z, rfl, hb1, hb2, hx, c0⟩ := z_at HH.out hB hlt
      cases hz : betw z 0 9
      · have HX := Lib.hid (heatsB_bad hx hz)
        clear hx
        go_wp2_with (go_at_call 68; refine (c_l00In _ _ _ _ (by assumption) _).mono ?_; rintro e w' ⟨rfl, rfl⟩)
        go_ret2
        have := ERR.out (by simp [qualB, HX.out])
        rw [this.1, this.2]
        exact IntsPost.err hB
      · have HX := Lib.hid (heats_take hx hok.out hz)
        clear hx
        go_wp2_with (go_at_call 68; refine (c_l00In _ _ _ _ (by assumption) _).mono ?_; rintro e w' ⟨rfl, rfl⟩)
        go_roundw
        case rel => exact ⟨k + 1, by omega, by go_num, hB, HX⟩
        case measure => simp [intOf]; omega
    · obtain rfl : k = m := by omega
      have hall := hok.out
      rw [List.take_of_length_le (by rw [HHL.out]; exact Nat.le_refl _)] at hall
      have HALL := Lib.hid hall
      clear hall hok
      by_cases hkn : k = n
      rotate_left
      · have hq : ((k : Int) != (n : Int)) = true := by simp; omega
        have HQ : Hid (qualB l hs each rest = false) := by show _ = _; simp [qualB, HL.out, HHL.out, hkn]
        clear hkn
        go_wp2_with fail
        go_ret2
        have := ERR.out HQ.out
        rw [this.1, this.2]
        exact IntsPost.err hB
      subst hkn
      cases h2 : betw each 0 40
      · have HQ : Hid (qualB l hs each rest = false) := by show _ = _; simp [qualB, h2]
        go_wp2_with (go_at_call 68; refine (c_l00In _ _ _ _ (by assumption) _).mono ?_; rintro e w' ⟨rfl, rfl⟩)
        go_ret2
        have := ERR.out HQ.out
        rw [this.1, this.2]
        exact IntsPost.err hB
      cases h3 : betw rest 0 40
      · have HQ : Hid (qualB l hs each rest = false) := by show _ = _; simp [qualB, h3]
        go_wp2_with (go_at_call 68; refine (c_l00In _ _ _ _ (by assumption) _).mono ?_; rintro e w' ⟨rfl, rfl⟩)
        go_ret2
        have := ERR.out HQ.out
        rw [this.1, this.2]
        exact IntsPost.err hB
      have HQ := Lib.hid (show qualB l hs each rest = true by simp [qualB, HL.out, HHL.out, HALL.out, h2, h3])
      have e1 : Hid (qualZ l hs each rest = zl (qset k (qFold hs each rest (rkL (btr l) k) k).2.2) ∧ qualC l hs each rest = 0) := by constructor <;> simp [qualZ, qualC, H1.out, HQ.out, HL.out]
      have QS := Lib.hid (QB.start h3)
      have hz := hB.size
      have HA1 := Lib.hid (fun o o' => HA.out.later ((hB.alloc hz o).alloc (by simp; omega) o'))
      have hmk : ∀ w, (Instr.makeSlice 40 (.int .i64 10) (.int .i64 10)).run Try.prog w = .ok (.slice (some ⟨w.heap.size, 0, none⟩) 10 10) (w.alloc (.cells (madeCells (Value.cells (.int .i64 0)) 10) 2)) := fun w => run_makeZ 10 (by omega) w
      go_wp2_with (first | (go_at_call 68; refine (c_l00In _ _ _ _ (by assumption) _).mono ?_; rintro e w' ⟨rfl, rfl⟩) | (go_at_call 64; refine (c_l22Rank _ _ _ l _ (HA1.out _ _) h40).mono ?_; intro r_ w2 hp2; obtain ⟨B, d2, rfl, ow, hb2⟩ := hp2.elim (n := k) (by rw [zl_len, (rkL_ok (btr_wk l) k).len]); have OW := Lib.hid ow; have HB2 := Lib.hid hb2; clear ow hb2))
      clear hmk
      obtain ⟨b1, b2⟩ := betw_true h2
      go_loopw [3, 11, 14] (fun vr v i wr => ∃ (j mm : Nat) (u : List Int) (r : Int) (S : List Nat), j ≤ k ∧ mm ≤ 40 ∧ vr = .int .i64 r ∧ i = .int .i64 j ∧ Below w.heap.size w wr ∧ RowZ wr (wo.heap.size + 1) 10 u ∧ wr.ownsRow (wo.heap.size + 1 + 1) 2 1 (.slice B k d2) k ((zl (rkL (btr l) k)).map (Value.int .i64)) ∧ wr.ownsRow w.heap.size 2 1 v mm ((zl (qset k S)).map (Value.int .i64)) ∧ Hid (v.ownBlock ≠ some (wo.heap.size + 1)) ∧ Hid (qFold hs each rest (rkL (btr l) k) j = (u, r, S)) ∧ Hid (QB j (u, r, S))) (fun _ _ i _ => k - (intOf i).toNat)
      case atStart => exact ⟨0, 0, List.replicate 10 0, rest, [], Nat.zero_le _, by omega, rfl, rfl, ((hB.alloc hz _).alloc (by simp; omega) _).trans (HB2.out.mono (by simp; omega)), by have := (RowZ.made (wo.alloc (.cells #[] 2)) 10).later HB2.out; rwa [World.size_alloc] at this, by have := OW.out; simp only [World.size_alloc] at this; exact this, by rw [qset_nil]; exact own_below ((own_base (World.ownsRow_made wo #[] 0 (Nat.le_refl _) (by simp [maxLen]) rfl) hz).alloc _) HB2.out, by simp [Value.ownBlock, Hid], rfl, QS.out⟩
      case round =>
        clear HA1 HB2 OW QS
        obtain ⟨j, mm, u, r, S, hj, hmm, rfl, rfl, hB3, hrow, hown, hout, hne, hfold, hqb⟩ := hrel
        obtain ⟨Av, cv, rfl⟩ := own_slice hout
        have hz3 := hB3.size
        have hgr := hrow.lt
        rename World => wi
        by_cases hlt2 : j < k
        · obtain ⟨g, p, rfl, hg1, hg2, hp, hpk, hc⟩ := rk_at (btr_wk l) hown hlt2
          obtain ⟨q, hq, hq10⟩ := heats_num HALL.out HHL.out hpk
          obtain ⟨b, o, z, rfl, hb1, hb2, hx, c0⟩ := z_at HH.out hB3 hpk
          rw [hq] at hx
          obtain rfl : (q : Int) = z := Option.some.inj hx
          have r0 := hrow.cell hq10
          have f0 := hrow.frozen q
          have u0 := hqb.out.lo q
          have u1 := hqb.out.hi q
          have q0 := hqb.out.r0
          have q1 := hqb.out.r1
          dsimp only at u0 u1 q0 q1
          have i1 : (j : Int) < k := by omega
          have i2 : (p : Int) < k := by omega
          have i3 : (q : Int) < 10 := by omega
          have HP := Lib.hid (putL_qset (S := S) hpk)
          have hlen := putL_len (p : Int) (zl (qset k S))
          have hmm2 := hout.1
          rw [List.length_map, Nat.mul_one] at hmm2
          obtain ⟨m3, hm3⟩ : ∃ m3, (putL (p : Int) (zl (qset k S))).length = m3 := ⟨_, rfl⟩
          have hm4 : m3 ≤ 40 := by rw [← hm3, HP.out, zl_len]; exact Nat.le_trans (qset_len _ _) h40
          have HM3 := Lib.hid hm3
          have HR := Lib.hid hrow
          have HO := Lib.hid hown
          have HV := Lib.hid hout
          have HF := Lib.hid ((qFold_succ hp).trans (by rw [hfold.out]))
          have HQ2 := Lib.hid hq
          have HQB : Hid (QB (j + 1) (qStep hs each (u, r, S) p)) := hqb.out.step
          have ONE := Lib.hid (own_ne_old hown (g := wo.heap.size + 1) (by omega))
          clear hrow hown hout hp hm3 hlen hmm2 hq hx hqb hfold
          by_cases ha : u.getD q 0 < each
          · have HST := Lib.hid (qStep_a (r := r) (S := S) HQ2.out ha)
            have HV2 := Lib.hid (fun v => ownsRow_setCell_other HV.out (a := ⟨wo.heap.size + 1, q, none⟩) hne.out v)
            generalize u.getD q 0 = uq at r0 u0 u1 ha HST
            go_wp2_with (go_at_call 70; refine (c_l00Put _ mm _ _ _ _ (zs_ownN (HV2.out _)) (by omega)).mono ?_; intro r_ w3 hp3; obtain ⟨B3, d3, rfl, ow3, hb3⟩ := hp3.elim HM3.out; have OW3 := Lib.hid ow3; have HB3 := Lib.hid hb3; clear ow3 hb3 hp3)
            have hz5 := HB3.out.size
            simp only [World.size_setCell] at hz5
            go_roundw
            case rel => exact ⟨j + 1, m3, _, r, p :: S, by omega, hm4, rfl, by go_num, (hB3.setCell (by dsimp only; omega) _).trans (HB3.out.mono (by simp; omega)), (HR.out.set q _).later HB3.out, own_below (ownsRow_setCell_other HO.out ONE.out _) HB3.out, by have := own_base OW3.out (base' := w.heap.size) (by simp; omega); rwa [HP.out] at this, own_ne_old OW3.out (by simp; omega), HF.out.trans HST.out, HST.out ▸ HQB.out⟩
            case measure => simp [intOf]; omega
          · by_cases hr0 : 0 < r
            · have HST := Lib.hid (qStep_b (S := S) HQ2.out ha hr0)
              generalize u.getD q 0 = uq at r0 u0 u1 ha HST
              go_wp2_with (go_at_call 70; refine (c_l00Put _ mm _ _ _ _ (zs_ownN HV.out) (by omega)).mono ?_; intro r_ w3 hp3; obtain ⟨B3, d3, rfl, ow3, hb3⟩ := hp3.elim HM3.out; have OW3 := Lib.hid ow3; have HB3 := Lib.hid hb3; clear ow3 hb3 hp3)
              go_roundw
              case rel => exact ⟨j + 1, m3, _, r - 1, p :: S, by omega, hm4, rfl, by go_num, hB3.trans (HB3.out.mono hz3), HR.out.later HB3.out, own_below HO.out HB3.out, by have := own_base OW3.out (base' := w.heap.size) (by omega); rwa [HP.out] at this, own_ne_old OW3.out (by omega), HF.out.trans HST.out, HST.out ▸ HQB.out⟩
              case measure => simp [intOf]; omega
            · have HST := Lib.hid (qStep_c (S := S) HQ2.out ha hr0)
              generalize u.getD q 0 = uq at r0 u0 u1 ha HST
              go_wp2_with fail
              go_roundw
              case rel => exact ⟨j + 1, mm, _, r, S, by omega, hmm, rfl, by go_num, hB3, HR.out, HO.out, HV.out, hne, HF.out.trans HST.out, HST.out ▸ HQB.out⟩
              case measure => simp [intOf]; omega
        · obtain rfl : j = k := by omega
          have hl := hout.1
          go_wp2_with fail
          go_ret2
          rw [e1.out.1, e1.out.2, hfold.out]
          exact IntsPost.mk_ (by simpa using hl) hout hB3
/-- Which of n places stand in S. -/
def OnOk (n : Nat) (S : List Nat) (o : List Bool) : Prop := o.length = n ∧ ∀ i, i < n → o.getD i false = decide (i ∈ S)
theorem OnOk.start (n : Nat) : OnOk n [] (List.replicate n false) := ⟨by simp, fun i hi => by simp [List.getD_eq_getElem?_getD, hi]⟩
theorem OnOk.put {n p : Nat} {S : List Nat} {o : List Bool} (h : OnOk n S o) (hp : p < n) : OnOk n (p :: S) (o.set p true) := by
  have h1 := h.1
  refine ⟨by rw [List.length_set]; exact h.1, fun i hi => ?_⟩
  have h2 := h.2 i hi
  rw [List.getD_eq_getElem?_getD] at h2 ⊢
  by_cases e : i = p
  · subst e
    rw [List.getElem?_set_self (by omega)]
    simp
  · rw [List.getElem?_set_ne (fun q => e q.symm), h2]
    simp [e]
theorem ten_row (w : World) : RowL (Value.int .i64) 0 88 (w.alloc (.cells #[.int .i64 0, .int .i64 0, .int .i64 0, .int .i64 0, .int .i64 0, .int .i64 0, .int .i64 0, .int .i64 0, .int .i64 0, .int .i64 0] 88)) w.heap.size 10 (List.replicate 10 0) :=
  ⟨rfl, _, heap_alloc_new w _, rfl, fun i hi => by
    match i, hi with
    | 0, _ => rfl
    | 1, _ => rfl
    | 2, _ => rfl
    | 3, _ => rfl
    | 4, _ => rfl
    | 5, _ => rfl
    | 6, _ => rfl
    | 7, _ => rfl
    | 8, _ => rfl
    | 9, _ => rfl⟩
set_option maxHeartbeats 8000000 in
theorem c_iQualifyFrom (A B0 : Option Addr) (n c m d : Nat) (l : List TResult) (hs : List Int) (each rest : Int) (w : World) (ha : Sl resultC w w.heap.size 3 A n l) (hh : Zs w B0 m hs) (hsz : RsSz l) (hn : n ≤ 1048576) (hm : m ≤ 1048576) :
    Calls Try.prog 45 #[.slice A n c, .slice B0 m d, .int .i64 each, .int .i64 rest] w (IntsPost (qualZ l hs each rest) (qualC l hs each rest) w) := by
  have HL := Lib.hid ha.1
  have HA := Lib.hid ha
  have HSZ := Lib.hid hsz
  have HH := Lib.hid hh
  have HHL := Lib.hid hh.1
  clear ha hsz hh
  cases h1 : ressB l
  · have e1 : Hid (qualZ l hs each rest = [] ∧ qualC l hs each rest = 1) := by constructor <;> simp [qualZ, qualC, h1]
    go_enter Try.func45, Try.ntmps45
    go_wp2_with (go_at_call 20; refine (c_iValidResults _ _ _ l _ h1 _ HA.out HSZ.out hn).mono ?_; rintro r_ w1 ⟨rfl, hb1⟩)
    go_ret2
    rw [e1.out.1, e1.out.2]
    exact IntsPost.err hb1
  have h40 := ress_len h1
  rw [HL.out] at h40
  have H1 := Lib.hid h1
  clear h1
  have ERR : Hid (qualB l hs each rest = false → qualZ l hs each rest = [] ∧ qualC l hs each rest = 2) := fun h => by constructor <;> simp [qualZ, qualC, H1.out, h]
  cases hq1 : (heatsB hs && decide (m = n))
  · have HQ : Hid (qualB l hs each rest = false) := by
      show _ = _
      rw [qualB, HL.out, HHL.out, ← Bool.and_assoc, hq1]; rfl
    go_enter Try.func45, Try.ntmps45
    go_wp2_with (first | (go_at_call 20; refine (c_iValidResults _ _ _ l _ H1.out _ HA.out HSZ.out hn).mono ?_; rintro r_ w1 ⟨rfl, hb1⟩; have HH1 := Lib.hid (HH.out.later hb1)) | (go_at_call 71; refine (c_areHeats _ _ _ _ hs _ hq1 _ HH1.out hm hn).mono ?_; rintro r_ w2 ⟨rfl, hb2⟩))
    go_ret2
    have := ERR.out HQ.out
    rw [this.1, this.2]
    exact IntsPost.err (hb1.trans (hb2.mono hb1.size))
  have HALL : Hid (heatsB hs = true) := by rw [Bool.and_eq_true] at hq1; exact hq1.1
  have hkn : m = n := by rw [Bool.and_eq_true, decide_eq_true_eq] at hq1; exact hq1.2
  subst hkn
  clear hq1
  cases h2 : betw each 0 40
  · have HQ : Hid (qualB l hs each rest = false) := by show _ = _; simp [qualB, h2]
    go_enter Try.func45, Try.ntmps45
    go_wp2_with (first | (go_at_call 20; refine (c_iValidResults _ _ _ l _ H1.out _ HA.out HSZ.out hn).mono ?_; rintro r_ w1 ⟨rfl, hb1⟩; have HH1 := Lib.hid (HH.out.later hb1)) | (go_at_call 71; refine (c_areHeats _ _ _ _ hs true (by rw [HALL.out]; simp) _ HH1.out hm hn).mono ?_; rintro r_ w2 ⟨rfl, hb2⟩) | (go_at_call 60; refine (c_between _ _ _ _ (by assumption) _).mono ?_; rintro e w' ⟨rfl, rfl⟩))
    go_ret2
    have := ERR.out HQ.out
    rw [this.1, this.2]
    exact IntsPost.err (hb1.trans (hb2.mono hb1.size))
  cases h3 : betw rest 0 40
  · have HQ : Hid (qualB l hs each rest = false) := by show _ = _; simp [qualB, h3]
    go_enter Try.func45, Try.ntmps45
    go_wp2_with (first | (go_at_call 20; refine (c_iValidResults _ _ _ l _ H1.out _ HA.out HSZ.out hn).mono ?_; rintro r_ w1 ⟨rfl, hb1⟩; have HH1 := Lib.hid (HH.out.later hb1)) | (go_at_call 71; refine (c_areHeats _ _ _ _ hs true (by rw [HALL.out]; simp) _ HH1.out hm hn).mono ?_; rintro r_ w2 ⟨rfl, hb2⟩) | (go_at_call 60; refine (c_between _ _ _ _ (by assumption) _).mono ?_; rintro e w' ⟨rfl, rfl⟩))
    go_ret2
    have := ERR.out HQ.out
    rw [this.1, this.2]
    exact IntsPost.err (hb1.trans (hb2.mono hb1.size))
  have HQ := Lib.hid (show qualB l hs each rest = true by simp [qualB, HL.out, HHL.out, HALL.out, h2, h3])
  have e1 : Hid (qualZ l hs each rest = zl (qset m (qFold hs each rest (rkL (btr l) m) m).2.2) ∧ qualC l hs each rest = 0) := by constructor <;> simp [qualZ, qualC, H1.out, HQ.out, HL.out]
  have QS := Lib.hid (QB.start h3)
  have hmk := run_makeB m hn
  go_enter Try.func45, Try.ntmps45
  go_wp2_with (first | (go_at_call 20; refine (c_iValidResults _ _ _ l _ H1.out _ HA.out HSZ.out hn).mono ?_; rintro r_ w1 ⟨rfl, hb1⟩; have HH1 := Lib.hid (HH.out.later hb1)) | (go_at_call 71; refine (c_areHeats _ _ _ _ hs true (by rw [HALL.out]; simp) _ HH1.out hm hn).mono ?_; rintro r_ w2 ⟨rfl, hb2⟩) | (go_at_call 60; refine (c_between _ _ _ _ (by assumption) _).mono ?_; rintro e w' ⟨rfl, rfl⟩))
  clear hmk
  obtain ⟨b1, b2⟩ := betw_true h2
  have hz1 := hb1.size
  have hz2 := hb2.size
  have HA2 := Lib.hid (fun o o' => HA.out.later (((hb1.trans (hb2.mono hz1)).alloc (by omega) o).alloc (by simp; omega) o'))
  refine (c_ranking _ _ _ l _ (HA2.out _ _) h40).mono ?_
  intro r_ w3 hp3
  obtain ⟨B, d3, rfl, ow, hb3⟩ := hp3.elim (n := m) (by rw [zl_len, (rkL_ok (btr_wk l) m).len])
  have OW := Lib.hid ow
  have HB3 := Lib.hid hb3
  clear ow hb3 hp3
  go_wp2_with fail
  go_loopw [3, 42] (fun vr i wr => ∃ (j : Nat) (u : List Int) (r : Int) (S : List Nat) (on : List Bool), j ≤ m ∧ vr = .int .i64 r ∧ i = .int .i64 j ∧ Below w.heap.size w wr ∧ RowL (Value.int .i64) 0 88 wr w2.heap.size 10 u ∧ RowB wr (w2.heap.size + 1) m on ∧ wr.ownsRow (w2.heap.size + 1 + 1) 2 1 (.slice B m d3) m ((zl (rkL (btr l) m)).map (Value.int .i64)) ∧ Hid (OnOk m S on) ∧ Hid (qFold hs each rest (rkL (btr l) m) j = (u, r, S)) ∧ Hid (QB j (u, r, S))) (fun _ i _ => m - (intOf i).toNat)
  case atStart =>
    refine ⟨0, List.replicate 10 0, rest, [], List.replicate m false, Nat.zero_le _, rfl, rfl, (((hb1.trans (hb2.mono hz1)).alloc (by omega) _).alloc (by simp; omega) _).trans (HB3.out.mono (by simp; omega)), ((ten_row w2).alloc _).later HB3.out, ?_, ?_, OnOk.start m, rfl, QS.out⟩
    · have := (RowB.made (w2.alloc (.cells #[.int .i64 0, .int .i64 0, .int .i64 0, .int .i64 0, .int .i64 0, .int .i64 0, .int .i64 0, .int .i64 0, .int .i64 0, .int .i64 0] 88)) m).later HB3.out
      rwa [World.size_alloc] at this
    · have := OW.out
      simp only [World.size_alloc] at this
      exact this
  case round =>
    clear HA2 HB3 OW QS
    obtain ⟨j, u, r, S, on, hj, rfl, rfl, hB3, hrow, hon, hown, hok, hfold, hqb⟩ := hrel
    have hz3 := hB3.size
    have hgr := hrow.lt
    have hgr2 := hon.lt
    rename World => wi
    by_cases hlt2 : j < m
    · obtain ⟨g, p, rfl, hg1, hg2, hp, hpk, hc⟩ := rk_at (btr_wk l) hown hlt2
      obtain ⟨q, hq, hq10⟩ := heats_num HALL.out HHL.out hpk
      obtain ⟨b, o, z, rfl, hb3, hb4, hx, c0⟩ := z_at HH.out hB3 hpk
      rw [hq] at hx
      obtain rfl : (q : Int) = z := Option.some.inj hx
      have r0 := hrow.cell hq10
      have f0 := hrow.frozen q
      have s0 := hon.cell hpk
      have g0 := hon.frozen p
      have u0 := hqb.out.lo q
      have u1 := hqb.out.hi q
      have q0 := hqb.out.r0
      have q1 := hqb.out.r1
      dsimp only at u0 u1 q0 q1
      have i1 : (j : Int) < m := by omega
      have i2 : (p : Int) < m := by omega
      have i3 : (q : Int) < 10 := by omega
      have HR := Lib.hid hrow
      have HON := Lib.hid hon
      have HO := Lib.hid hown
      have HF := Lib.hid ((qFold_succ hp).trans (by rw [hfold.out]))
      have HQ2 := Lib.hid hq
      have HQB : Hid (QB (j + 1) (qStep hs each (u, r, S) p)) := hqb.out.step
      have HOK := Lib.hid (hok.out.put hpk)
      have ONE := Lib.hid (own_ne_old hown (g := w2.heap.size) (by omega))
      have ONE1 := Lib.hid (own_ne_old hown (g := w2.heap.size + 1) (by omega))
      clear hrow hown hon hp hq hx hqb hfold
      by_cases ha : u.getD q 0 < each
      · have HST := Lib.hid (qStep_a (r := r) (S := S) HQ2.out ha)
        generalize u.getD q 0 = uq at r0 u0 u1 ha HST
        go_wp2_with fail
        go_roundw
        case rel => exact ⟨j + 1, _, r, p :: S, _, by omega, rfl, by go_num, (hB3.setCell (by dsimp only; omega) _).setCell (by dsimp only; omega) _, (HR.out.set q _).far (by dsimp only; omega) _, (HON.out.far (by dsimp only; omega) _).set p true, ownsRow_setCell_other (ownsRow_setCell_other HO.out ONE.out _) ONE1.out _, HOK, HF.out.trans HST.out, HST.out ▸ HQB.out⟩
        case measure => simp [intOf]; omega
      · by_cases hr0 : 0 < r
        · have HST := Lib.hid (qStep_b (S := S) HQ2.out ha hr0)
          generalize u.getD q 0 = uq at r0 u0 u1 ha HST
          go_wp2_with fail
          go_roundw
          case rel => exact ⟨j + 1, _, r - 1, p :: S, _, by omega, rfl, by go_num, hB3.setCell (by dsimp only; omega) _, HR.out.far (by dsimp only; omega) _, HON.out.set p true, ownsRow_setCell_other HO.out ONE1.out _, HOK, HF.out.trans HST.out, HST.out ▸ HQB.out⟩
          case measure => simp [intOf]; omega
        · have HST := Lib.hid (qStep_c (S := S) HQ2.out ha hr0)
          generalize u.getD q 0 = uq at r0 u0 u1 ha HST
          go_wp2_with fail
          go_roundw
          case rel => exact ⟨j + 1, _, r, S, _, by omega, rfl, by go_num, hB3, HR.out, HON.out, HO.out, hok, HF.out.trans HST.out, HST.out ▸ HQB.out⟩
          case measure => simp [intOf]; omega
    · obtain rfl : j = m := by omega
      have HON := Lib.hid hon
      have E2 := Lib.hid (show qualZ l hs each rest = zl (qset j S) ∧ qualC l hs each rest = 0 from by rw [e1.out.1, hfold.out]; exact ⟨rfl, e1.out.2⟩)
      clear hrow hown hon hfold hqb e1
      go_wp2_with fail
      go_loopw [14, 78] (fun v i wr => ∃ (t mm : Nat), t ≤ j ∧ i = .int .i64 t ∧ Below w.heap.size w wr ∧ RowB wr (w2.heap.size + 1) j on ∧ wr.ownsRow (w2.heap.size + 1 + 1) 2 1 v mm ((zl (qset t S)).map (Value.int .i64))) (fun _ i _ => j - (intOf i).toNat)
      case atStart => exact ⟨0, 0, Nat.zero_le _, rfl, by (repeat' (first | (with_reducible exact Below.refl _ _) | (with_reducible assumption) | (with_reducible refine below_drewN ?_ _) | (with_reducible refine Below.drew ?_) | (with_reducible refine Below.alloc ?_ ?_ _) | (with_reducible refine Below.setCell ?_ ?_ _) | go_size)), HON.out.alloc _, own_base (World.ownsRow_made _ #[] 0 (Nat.le_refl _) (by simp [maxLen]) rfl) (by omega)⟩
      case round =>
        obtain ⟨t, mm, ht, rfl, hB4, hon, hown⟩ := hrel
        have hz4 := hB4.size
        have hgr4 := hon.lt
        rename World => wj
        have hl := hown.1
        rw [List.length_map, zl_len, Nat.mul_one] at hl
        have hl2 := qset_len t S
        by_cases hlt3 : t < j
        · have s0 := hon.cell hlt3
          have hdc := hok.out.2 t hlt3
          have i1 : (t : Int) < j := by omega
          have HON := Lib.hid hon
          have HO := Lib.hid hown
          clear hon hown
          by_cases hin : t ∈ S
          · rw [hdc, decide_eq_true hin] at s0
            have HS := Lib.hid (qset_succ_in hin)
            clear hdc hin
            go_wp2_with (at_builtin; refine app1 rfl (.tmp 84) (.tmp 86) _ rfl (w2.heap.size + 1 + 1) 2 _ 8 Try.underlying40 info_int64 rfl _ _ rfl _ mm _ rfl HO.out rfl (by omega) (by omega) (by omega) ?_; intro v5 w5 hown5 hb5 hg5; have OW := Lib.hid hown5; have HB := Lib.hid hb5; clear hown5 hb5 hg5)
            go_roundw
            case rel => exact ⟨t + 1, mm + 1, by omega, by go_num, hB4.trans (HB.out.mono (by omega)), HON.out.below HB.out (by omega), by rw [HS.out, zl_snoc, List.map_append]; exact OW.out⟩
            case measure => simp [intOf]; omega
          · rw [hdc, decide_eq_false hin] at s0
            have HS := Lib.hid (qset_succ_out hin)
            clear hdc hin
            go_wp2_with fail
            go_roundw
            case rel => exact ⟨t + 1, mm, by omega, by go_num, hB4, HON.out, by rw [HS.out]; exact HO.out⟩
            case measure => simp [intOf]; omega
        · obtain rfl : t = j := by omega
          go_wp2_with fail
          go_ret2
          rw [E2.out.1, E2.out.2]
          exact IntsPost.mk_ (by rw [zl_len]; exact hl) (own_base hown (by omega)) hB4
end Go.Proofs.Ytgdmiddiaogpaaa
