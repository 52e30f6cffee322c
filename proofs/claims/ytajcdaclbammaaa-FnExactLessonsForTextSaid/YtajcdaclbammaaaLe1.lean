/- Contracts: valid lessons: the reference. -/
import Derived.Test.YtajcdaclbammaaaSlLesson
import Derived.Test.YtajcdaclbammaaaHs
import Derived.Test.YtajcdaclbammaaaIr
import Derived.Test.YtajcdaclbammaaaNd
import Derived.Test.YtajcdaclbammaaaNm
namespace Go.Proofs.Ytajcdaclbammaaa
open Go.RowKit Go.BigFrame
attribute [local go_sem] sub_cell sub_frozen drewN_setCell

def okLe (n i : Nat) (x : TLesson) : Bool := nameB (bl x.1) && (textB 33 100 (bl x.2.1) && (risesZ 0 ((n : Int) - 1) x.2.2.1 && (!hasZ x.2.2.1 (i : Int) && (betw x.2.2.2 0 100 && risesL (bl x.2.1)))))
def leAt (l : List TLesson) (i : Nat) : Bool := match l[i]? with | some x => okLe l.length i x && decide (x.1 ∉ (l.take i).map (·.1)) | none => false
def lesB (l : List TLesson) : Bool := allN (leAt l) l.length && decide (l.length ≤ 12)
section
variable {l : List TLesson} {n k : Nat} {x : TLesson}
theorem leAt_ok (hn : l.length = n) (hx : l[k]? = some x) (h : okLe n k x = true) (hm : x.1 ∉ (l.take k).map (·.1)) : leAt l k = true := by
  subst hn; simp only [leAt, hx, h, Bool.true_and]; exact decide_eq_true hm
theorem les_bad (hn : l.length = n) (hx : l[k]? = some x) (h : okLe n k x = false) : lesB l = false := by
  have h1 : leAt l k = false := by subst hn; simp [leAt, hx, h]
  rw [lesB, allN_bad (List.getElem?_eq_some_iff.1 hx).1 h1]; rfl
theorem les_old (hx : l[k]? = some x) (hm : x.1 ∈ (l.take k).map (·.1)) : lesB l = false := by
  have h1 : leAt l k = false := by simp only [leAt, hx, Bool.and_eq_false_iff]; exact .inr (decide_eq_false (fun h => h hm))
  rw [lesB, allN_bad (List.getElem?_eq_some_iff.1 hx).1 h1]; rfl
theorem les_end (hn : l.length = n) (h : allN (leAt l) n = true) : lesB l = decide ((n : Int) ≤ 12) := by
  subst hn
  rw [lesB, h, Bool.true_and]
  simp; omega
theorem les_item (h : lesB l = true) (hx : l[k]? = some x) : okLe l.length k x = true := by
  simp only [lesB, Bool.and_eq_true] at h
  have := allN_at h.1 (List.getElem?_eq_some_iff.1 hx).1
  simp only [leAt, hx, Bool.and_eq_true] at this
  exact this.1
theorem les_len (h : lesB l = true) : l.length ≤ 12 := by
  simp only [lesB, Bool.and_eq_true, decide_eq_true_eq] at h
  exact h.2
theorem okLe_1 {i : Nat} (h : nameB (bl x.1) = false) : okLe n i x = false := by simp [okLe, h]
theorem okLe_2 {i : Nat} (h : textB 33 100 (bl x.2.1) = false) : okLe n i x = false := by simp [okLe, h]
theorem okLe_3 {i : Nat} (h : risesZ 0 ((n : Int) - 1) x.2.2.1 = false) : okLe n i x = false := by simp [okLe, h]
theorem okLe_4 {i : Nat} (h : hasZ x.2.2.1 (i : Int) = true) : okLe n i x = false := by simp [okLe, h]
theorem okLe_5 {i : Nat} (h : betw x.2.2.2 0 100 = false) : okLe n i x = false := by simp [okLe, h]
theorem okLe_6 {i : Nat} (h : risesL (bl x.2.1) = false) : okLe n i x = false := by simp [okLe, h]
theorem okLe_all {i : Nat} (h1 : nameB (bl x.1) = true) (h2 : textB 33 100 (bl x.2.1) = true) (h3 : risesZ 0 ((n : Int) - 1) x.2.2.1 = true) (h4 : hasZ x.2.2.1 (i : Int) = false) (h5 : betw x.2.2.2 0 100 = true) (h6 : risesL (bl x.2.1) = true) : okLe n i x = true := by simp [okLe, *]
end
theorem rises_end {s : ByteArray} {k : Nat} (hk : k ≤ s.size) (h : ¬ k + 1 < s.size) (hn : allN (riseAt (bl s)) k = true) : risesL (bl s) = true := by
  show allN (riseAt (bl s)) _ = true
  rw [bl_len]
  by_cases e : k = s.size
  · subst e
    rw [allN, List.all_eq_true]
    intro x hx
    exact allN_at hn (by simp at hx; omega)
  · rw [show s.size - 1 = k by omega]; exact hn
/-- The sizes of lessons that passed the law's test. -/
def LsB (l : List TLesson) : Prop := ∀ x ∈ l, x.1.size ≤ maxLen ∧ x.2.1.size ≤ maxLen ∧ x.2.2.1.length ≤ 1048576
/-- Lesson k, in all later worlds. -/
theorem les_all {w : World} {A : Option Addr} {n k : Nat} {l : List TLesson} (h : Ls w A n l) (hk : k < n) :
    ∃ b o nm lt S c z hr, A = some ⟨b, o, none⟩ ∧ b < w.heap.size ∧ l[k]? = some (nm, lt, z, hr) ∧ ∀ wr, Below w.heap.size w wr → b < wr.heap.size ∧ wr.cell? ⟨b, o + k * 4, none⟩ = some (.string nm) ∧ wr.cell? ⟨b, o + k * 4 + 1, none⟩ = some (.string lt) ∧
      wr.cell? ⟨b, o + k * 4 + 2, none⟩ = some (.slice S z.length c) ∧ wr.cell? ⟨b, o + k * 4 + 3, none⟩ = some (.int .i64 hr) ∧ Zs wr S z.length z := by
  obtain ⟨b, o, nm, lt, S, m, c, z, hr, hA, h1, h2, hx, c0, c1, c2, c3, hz⟩ := les_at h (Below.refl _ _) hk
  obtain rfl : z.length = m := hz.1
  exact ⟨b, o, nm, lt, S, c, z, hr, hA, h2, hx, fun wr hb => ⟨by have := hb.size; omega, (hb.cell (p := ⟨b, o + k * 4, none⟩) h2).trans c0, (hb.cell (p := ⟨b, o + k * 4 + 1, none⟩) h2).trans c1, (hb.cell (p := ⟨b, o + k * 4 + 2, none⟩) h2).trans c2, (hb.cell (p := ⟨b, o + k * 4 + 3, none⟩) h2).trans c3, hz.later hb⟩⟩
theorem les_allB {w : World} {b o n k : Nat} {l : List TLesson} (h : Ls w (some ⟨b, o, none⟩) n l) (hk : k < n) :
    ∃ nm lt S c z hr, b < w.heap.size ∧ l[k]? = some (nm, lt, z, hr) ∧ ∀ wr, Below w.heap.size w wr → b < wr.heap.size ∧ wr.cell? ⟨b, o + k * 4, none⟩ = some (.string nm) ∧ wr.cell? ⟨b, o + k * 4 + 1, none⟩ = some (.string lt) ∧
      wr.cell? ⟨b, o + k * 4 + 2, none⟩ = some (.slice S z.length c) ∧ wr.cell? ⟨b, o + k * 4 + 3, none⟩ = some (.int .i64 hr) ∧ Zs wr S z.length z := by
  obtain ⟨b', o', nm, lt, S, c, z, hr, hA, r⟩ := les_all h hk
  simp only [Option.some.injEq, Addr.mk.injEq, and_true] at hA
  obtain ⟨rfl, rfl⟩ := hA
  exact ⟨nm, lt, S, c, z, hr, r⟩

set_option maxRecDepth 20000 in
set_option maxHeartbeats 8000000 in
theorem c_l18Ok (A : Option Addr) (n c : Nat) (l : List TLesson) (r : Bool) (h : lesB l = r) (w : World) (ha : Ls w A n l) (hsz : LsB l) (hn : n ≤ 1048576) :
    Calls Try.prog 30 #[.slice A n c] w fun e w' => e = .returned (.bool r) ∧ Below w.heap.size w w' := by
  subst h
  have HL := Lib.hid ha.len
  have HSZ := Lib.hid hsz
  have HA := Lib.hid ha
  clear hsz ha
  go_enter Try.func30, Try.ntmps30
  go_wp2_with fail
  go_loopw [4] (fun i wr => ∃ p : Nat, p ≤ n ∧ i = .int .i64 p ∧ Below w.heap.size w wr ∧ Hid (allN (leAt l) p = true)) (fun i _ => n - (intOf i).toNat)
  case atStart => exact ⟨0, Nat.zero_le _, rfl, Below.refl _ _, rfl⟩
  case round =>
    obtain ⟨p, hpn, rfl, hB, hok⟩ := hrel
    by_cases hlt2 : p < n
    · obtain ⟨b, o, nm, lt, S, cc, z, hr, rfl, hb2, hx, hK⟩ := les_all HA.out hlt2
      have K := Lib.hid hK
      obtain ⟨hs1, hs2, hs3⟩ := HSZ.out _ (List.mem_of_getElem? hx)
      simp only at hs1 hs2 hs3
      have HX := Lib.hid hx
      obtain ⟨hb1, c0, c1, c2, c3, hzs⟩ := hK _ hB
      have HZ := Lib.hid hzs
      have HBAD := Lib.hid (les_bad HL.out hx)
      clear hx hK hzs
      have hs4 : z.length ≤ 4611686018427387904 := by omega
      cases g1 : nameB (bl nm) <;> have G1 := Lib.hid g1 <;> clear g1
      · go_wp2_with (go_at_call 56; refine (c_sIsName _ _ G1.out _ hs1).mono ?_; rintro e w' ⟨rfl, rfl⟩)
        go_ret
        exact ⟨by rw [HBAD.out (okLe_1 G1.out)]; rfl, hB⟩
      cases g2 : textB 33 100 (bl lt) <;> have G2 := Lib.hid g2 <;> clear g2
      · go_wp2_with (first | (go_at_call 56; refine (c_sIsName _ _ G1.out _ hs1).mono ?_; rintro e w' ⟨rfl, rfl⟩) | (go_at_call 57; refine (c_l02Text _ _ G2.out _ hs2).mono ?_; rintro e w' ⟨rfl, rfl⟩))
        go_ret
        exact ⟨by rw [HBAD.out (okLe_2 G2.out)]; rfl, hB⟩
      cases g3 : risesZ 0 ((n : Int) - 1) z <;> have G3 := Lib.hid g3 <;> clear g3
      · go_wp2_with (first | (go_at_call 56; refine (c_sIsName _ _ G1.out _ hs1).mono ?_; rintro e w' ⟨rfl, rfl⟩) | (go_at_call 57; refine (c_l02Text _ _ G2.out _ hs2).mono ?_; rintro e w' ⟨rfl, rfl⟩) | (go_at_call 58; refine (c_l00Rises _ _ _ z _ _ _ G3.out _ HZ.out hs3).mono ?_; rintro e w' ⟨rfl, nd, rfl⟩))
        go_ret
        exact ⟨by rw [HBAD.out (okLe_3 G3.out)]; rfl, by (repeat' (first | (with_reducible exact Below.refl _ _) | (with_reducible assumption) | (with_reducible refine below_drewN ?_ _) | (with_reducible refine Below.drew ?_) | (with_reducible refine Below.alloc ?_ ?_ _) | (with_reducible refine Below.setCell ?_ ?_ _) | go_size))⟩
      cases g4 : hasZ z (p : Int) <;> have G4 := Lib.hid g4 <;> clear g4
      rotate_left
      · go_wp2_with (first | (go_at_call 56; refine (c_sIsName _ _ G1.out _ hs1).mono ?_; rintro e w' ⟨rfl, rfl⟩) | (go_at_call 57; refine (c_l02Text _ _ G2.out _ hs2).mono ?_; rintro e w' ⟨rfl, rfl⟩) | (go_at_call 58; refine (c_l00Rises _ _ _ z _ _ _ G3.out _ HZ.out hs3).mono ?_; rintro e w' ⟨rfl, nd, rfl⟩) | (go_at_call 59; refine (c_l00Has _ _ _ z _ _ G4.out _ (HZ.out.later (by (repeat' (first | (with_reducible exact Below.refl _ _) | (with_reducible assumption) | (with_reducible refine below_drewN ?_ _) | (with_reducible refine Below.drew ?_) | (with_reducible refine Below.alloc ?_ ?_ _) | (with_reducible refine Below.setCell ?_ ?_ _) | go_size)))) hs4).mono ?_; rintro e w' ⟨rfl, rfl⟩))
        go_ret
        exact ⟨by rw [HBAD.out (okLe_4 G4.out)]; rfl, by (repeat' (first | (with_reducible exact Below.refl _ _) | (with_reducible assumption) | (with_reducible refine below_drewN ?_ _) | (with_reducible refine Below.drew ?_) | (with_reducible refine Below.alloc ?_ ?_ _) | (with_reducible refine Below.setCell ?_ ?_ _) | go_size))⟩
      cases g5 : betw hr 0 100 <;> have G5 := Lib.hid g5 <;> clear g5
      · go_wp2_with (first | (go_at_call 56; refine (c_sIsName _ _ G1.out _ hs1).mono ?_; rintro e w' ⟨rfl, rfl⟩) | (go_at_call 57; refine (c_l02Text _ _ G2.out _ hs2).mono ?_; rintro e w' ⟨rfl, rfl⟩) | (go_at_call 58; refine (c_l00Rises _ _ _ z _ _ _ G3.out _ HZ.out hs3).mono ?_; rintro e w' ⟨rfl, nd, rfl⟩) | (go_at_call 59; refine (c_l00Has _ _ _ z _ _ G4.out _ (HZ.out.later (by (repeat' (first | (with_reducible exact Below.refl _ _) | (with_reducible assumption) | (with_reducible refine below_drewN ?_ _) | (with_reducible refine Below.drew ?_) | (with_reducible refine Below.alloc ?_ ?_ _) | (with_reducible refine Below.setCell ?_ ?_ _) | go_size)))) hs4).mono ?_; rintro e w' ⟨rfl, rfl⟩) | (go_at_call 60; refine (c_l00In _ _ _ _ G5.out _).mono ?_; rintro e w' ⟨rfl, rfl⟩))
        go_ret
        exact ⟨by rw [HBAD.out (okLe_5 G5.out)]; rfl, by (repeat' (first | (with_reducible exact Below.refl _ _) | (with_reducible assumption) | (with_reducible refine below_drewN ?_ _) | (with_reducible refine Below.drew ?_) | (with_reducible refine Below.alloc ?_ ?_ _) | (with_reducible refine Below.setCell ?_ ?_ _) | go_size))⟩
      go_wp2_with (first | (go_at_call 56; refine (c_sIsName _ _ G1.out _ hs1).mono ?_; rintro e w' ⟨rfl, rfl⟩) | (go_at_call 57; refine (c_l02Text _ _ G2.out _ hs2).mono ?_; rintro e w' ⟨rfl, rfl⟩) | (go_at_call 58; refine (c_l00Rises _ _ _ z _ _ _ G3.out _ HZ.out hs3).mono ?_; rintro e w' ⟨rfl, nd, rfl⟩) | (go_at_call 59; refine (c_l00Has _ _ _ z _ _ G4.out _ (HZ.out.later (by (repeat' (first | (with_reducible exact Below.refl _ _) | (with_reducible assumption) | (with_reducible refine below_drewN ?_ _) | (with_reducible refine Below.drew ?_) | (with_reducible refine Below.alloc ?_ ?_ _) | (with_reducible refine Below.setCell ?_ ?_ _) | go_size)))) hs4).mono ?_; rintro e w' ⟨rfl, rfl⟩) | (go_at_call 60; refine (c_l00In _ _ _ _ G5.out _).mono ?_; rintro e w' ⟨rfl, rfl⟩))
      clear c0 c1 c2 c3 hb1
      unfold maxLen at hs2
      go_loopw [6] (fun y wr2 => ∃ q : Nat, q ≤ lt.size ∧ y = .int .i64 ((q : Int) + 1) ∧ Below w.heap.size w wr2 ∧ Hid (allN (riseAt (bl lt)) q = true)) (fun y _ => lt.size + 1 - (intOf y).toNat)
      case atStart => exact ⟨0, Nat.zero_le _, rfl, by (repeat' (first | (with_reducible exact Below.refl _ _) | (with_reducible assumption) | (with_reducible refine below_drewN ?_ _) | (with_reducible refine Below.drew ?_) | (with_reducible refine Below.alloc ?_ ?_ _) | (with_reducible refine Below.setCell ?_ ?_ _) | go_size)), rfl⟩
      case round =>
        clear hB
        obtain ⟨q, hq, rfl, hB, hri⟩ := hrel
        obtain ⟨hb1, c0, c1, c2, c3, _⟩ := K.out _ hB
        by_cases hlt3 : q + 1 < lt.size
        · have hlt4 : q < lt.size := by omega
          have hI1 : (q : Int) + 1 < lt.size := by omega
          have hI2 : (q : Int) < lt.size := by omega
          have hI3 : (0 : Int) ≤ (q : Int) := by omega
          have hI4 : (0 : Int) ≤ (q : Int) + 1 := by omega
          have ga := Lib.hid (bl_get lt q hlt4)
          have gb := Lib.hid (bl_get lt (q + 1) hlt3)
          by_cases h1 : (lt[q].toNat : Int) < lt[q + 1].toNat
          · have h2 : ¬ (lt[q + 1].toNat : Int) ≤ lt[q].toNat := by omega
            go_wp2_with fail
            go_quiet (fail)
            go_wp2_with fail
            go_roundw
            case rel => exact ⟨q + 1, by omega, by go_num, by (repeat' (first | (with_reducible exact Below.refl _ _) | (with_reducible assumption) | (with_reducible refine below_drewN ?_ _) | (with_reducible refine Below.drew ?_) | (with_reducible refine Below.alloc ?_ ?_ _) | (with_reducible refine Below.setCell ?_ ?_ _) | go_size)), allN_succ hri.out (by rw [riseAt_eq ga.out gb.out, decide_eq_true h1])⟩
            case measure => simp [intOf]; omega
          · have h2 : (lt[q + 1].toNat : Int) ≤ lt[q].toNat := by omega
            go_wp2_with fail
            go_quiet (fail)
            go_wp2_with fail
            go_ret
            exact ⟨by rw [HBAD.out (okLe_6 (rises_bad ga.out gb.out (by omega)))]; rfl, by (repeat' (first | (with_reducible exact Below.refl _ _) | (with_reducible assumption) | (with_reducible refine below_drewN ?_ _) | (with_reducible refine Below.drew ?_) | (with_reducible refine Below.alloc ?_ ?_ _) | (with_reducible refine Below.setCell ?_ ?_ _) | go_size))⟩
        · have G6 := Lib.hid (rises_end hq hlt3 hri.out)
          have hI5 : ¬ (q : Int) + 1 < lt.size := by omega
          go_wp2_with fail
          clear c0 c1 c2 c3 hb1
          go_loopw [7] (fun y wr2 => ∃ q : Nat, q ≤ p ∧ y = .int .i64 q ∧ Below w.heap.size w wr2 ∧ Hid (nm ∉ (l.take q).map (·.1))) (fun y _ => p - (intOf y).toNat)
          case atStart => exact ⟨0, Nat.zero_le _, rfl, hB, Lib.hid (by simp)⟩
          case round =>
            clear hB hq hlt3 hI5
            obtain ⟨q, hq, rfl, hB, hnot⟩ := hrel
            by_cases hlt3 : q < p
            · obtain ⟨hb1, c0, _, _, _, _⟩ := K.out _ hB
              obtain ⟨nm1, lt1, S1, cc1, z1, hr1, _, hx1, hK1⟩ := les_allB HA.out (k := q) (by omega)
              obtain ⟨_, d0, _, _, _, _⟩ := hK1 _ hB
              have HX1 := Lib.hid hx1
              clear hx1 hK1
              by_cases e : nm1 = nm
              · have e1 := txt_eq e
                have E := Lib.hid e
                clear e
                go_wp2_with fail
                go_quiet (fail)
                go_wp2_with fail
                go_ret
                exact ⟨by rw [les_old HX.out (in_later HX1.out hlt3 E.out.symm)]; rfl, by (repeat' (first | (with_reducible exact Below.refl _ _) | (with_reducible assumption) | (with_reducible refine below_drewN ?_ _) | (with_reducible refine Below.drew ?_) | (with_reducible refine Below.alloc ?_ ?_ _) | (with_reducible refine Below.setCell ?_ ?_ _) | go_size))⟩
              · have e1 := txt_ne e
                have E := Lib.hid e
                clear e
                go_wp2_with fail
                go_quiet (fail)
                go_wp2_with fail
                go_roundw
                case rel => exact ⟨q + 1, by omega, by go_num, by (repeat' (first | (with_reducible exact Below.refl _ _) | (with_reducible assumption) | (with_reducible refine below_drewN ?_ _) | (with_reducible refine Below.drew ?_) | (with_reducible refine Below.alloc ?_ ?_ _) | (with_reducible refine Below.setCell ?_ ?_ _) | go_size)), notin_succ HX1.out hnot.out (fun e => E.out e.symm)⟩
                case measure => simp [intOf]; omega
            · obtain rfl : q = p := by omega
              go_wp2_with fail
              go_roundw
              case rel => exact ⟨q + 1, by omega, by go_num, hB, allN_succ hok.out (leAt_ok HL.out HX.out (okLe_all G1.out G2.out G3.out G4.out G5.out G6.out) hnot.out)⟩
              case measure => simp [intOf]; omega
    · obtain rfl : p = n := by omega
      have HE := Lib.hid (les_end HL.out hok.out)
      go_wp2_with fail
      go_ret
      exact ⟨by rw [HE.out]; rfl, hB⟩
end Go.Proofs.Ytajcdaclbammaaa
