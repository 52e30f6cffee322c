/- Contracts: valid lessons: the program; codes. -/
import Derived.Test.YtajcdaclbammaaaLe1
import Derived.Test.YtajcdaclbammaaaMp
namespace Go.Proofs.Ytajcdaclbammaaa
open Go.RowKit Go.BigFrame
attribute [local go_sem] sub_cell sub_frozen drewN_setCell

theorem zero_bool (w : World) : (zeroValue 4).run Try.prog w = .ok (.bool false) w := by kernel_rfl
theorem cells4 {w : World} {b : Nat} {u0 u1 u2 u3 : Value} {e : TypeId} (h : w.heap[b]? = some (.cells #[u0, u1, u2, u3] e (0, 0))) :
    b < w.heap.size ∧ w.cell? ⟨b, 0, none⟩ = some u0 ∧ w.cell? ⟨b, 1, none⟩ = some u1 ∧ w.cell? ⟨b, 2, none⟩ = some u2 ∧ w.cell? ⟨b, 3, none⟩ = some u3 := by
  refine ⟨(Array.getElem?_eq_some_iff.1 h).1, ?_, ?_, ?_, ?_⟩ <;> simp [World.cell?, h]
set_option maxRecDepth 20000 in
set_option maxHeartbeats 8000000 in
theorem c_iValidLessons (A : Option Addr) (n c : Nat) (l : List TLesson) (r : Bool) (h : lesB l = r) (w : World) (ha : Ls w A n l) (hsz : LsB l) (hn : n ≤ 1048576) :
    Calls Try.prog 33 #[.slice A n c] w fun e w' => e = .returned (.bool r) ∧ Below w.heap.size w w' := by
  subst h
  have HL := Lib.hid ha.len
  have HSZ := Lib.hid hsz
  have HA := Lib.hid ha
  clear hsz ha
  by_cases h12 : (12 : Int) < (n : Int)
  · have e1 : Hid (lesB l = false) := by
      show _ = _
      have := HL.out
      simp only [lesB, Bool.and_eq_false_iff]
      right
      simp; omega
    go_enter Try.func33, Try.ntmps33
    go_wp2_with fail
    go_ret
    exact ⟨by rw [e1.out]; rfl, Below.refl _ _⟩
  have hmm := @run_makeMap Try.prog
  go_enter Try.func33, Try.ntmps33
  go_wp2_with fail
  go_loopw [13] (fun i wr => ∃ p : Nat, p ≤ n ∧ i = .int .i64 p ∧ Below w.heap.size w wr ∧ Hid (TextSet Try.prog 9 4 wr w.heap.size (nmsR (·.1) l p)) ∧ Hid (allN (leAt l) p = true)) (fun i _ => n - (intOf i).toNat)
  case atStart => exact ⟨0, Nat.zero_le _, rfl, by (repeat' (first | (with_reducible exact Below.refl _ _) | (with_reducible assumption) | (with_reducible refine below_drewN ?_ _) | (with_reducible refine Below.drew ?_) | (with_reducible refine Below.alloc ?_ ?_ _) | (with_reducible refine Below.setCell ?_ ?_ _) | go_size)), TextSet.made _, rfl⟩
  case round =>
    clear hmm
    obtain ⟨p, hpn, rfl, hB, hS, hok⟩ := hrel
    have hz := hB.size
    have hzS := hS.out.lt
    by_cases hlt2 : p < n
    · obtain ⟨b, o, nm, lt, S, cc, z, hr, rfl, hb2, hx, hK⟩ := les_all HA.out hlt2
      have K := Lib.hid hK
      obtain ⟨hs1, hs2, hs3⟩ := HSZ.out _ (List.mem_of_getElem? hx)
      simp only at hs1 hs2 hs3
      have HX := Lib.hid hx
      obtain ⟨hb1, c0, c1, c2, c3, hzs⟩ := hK _ hB
      have HBAD := Lib.hid (les_bad HL.out hx)
      clear hx hK hzs
      have hs4 : z.length ≤ 4611686018427387904 := by omega
      obtain ⟨u, hu⟩ : ∃ u, decide (nm ∈ nmsR (·.1) l p) = u := ⟨_, rfl⟩
      have hlook := fun o => (hS.out.alloc o).look Try.underlying78 Try.underlying9 Try.underlying4 (zero_bool _) hs1 hu
      have HU := Lib.hid hu
      clear hu
      cases g1 : nameB (bl nm) <;> have G1 := Lib.hid g1 <;> clear g1
      · go_wp2_with (go_at_call 61; refine (c_iIsName _ _ G1.out _ hs1).mono ?_; rintro e w' ⟨rfl, rfl⟩)
        go_ret
        exact ⟨by rw [HBAD.out (okLe_1 G1.out)]; rfl, by (repeat' (first | (with_reducible exact Below.refl _ _) | (with_reducible assumption) | (with_reducible refine below_drewN ?_ _) | (with_reducible refine Below.drew ?_) | (with_reducible refine Below.alloc ?_ ?_ _) | (with_reducible refine Below.setCell ?_ ?_ _) | go_size))⟩
      cases u
      rotate_left
      · go_wp2_with (go_at_call 61; refine (c_iIsName _ _ G1.out _ hs1).mono ?_; rintro e w' ⟨rfl, rfl⟩)
        go_ret
        exact ⟨by rw [les_old HX.out (nmsR_mem.1 (of_decide_eq_true HU.out))]; rfl, by (repeat' (first | (with_reducible exact Below.refl _ _) | (with_reducible assumption) | (with_reducible refine below_drewN ?_ _) | (with_reducible refine Below.drew ?_) | (with_reducible refine Below.alloc ?_ ?_ _) | (with_reducible refine Below.setCell ?_ ?_ _) | go_size))⟩
      cases g2 : textB 33 100 (bl lt) <;> have G2 := Lib.hid g2 <;> clear g2
      · have C2 := Lib.hid (fun W => c_isText lt 33 100 _ G2.out W hs2)
        go_wp2_with (first | (go_at_call 61; refine (c_iIsName _ _ G1.out _ hs1).mono ?_; rintro e w' ⟨rfl, rfl⟩) | (go_at_call 41; refine (C2.out _).mono ?_; rintro e w' ⟨rfl, rfl⟩))
        go_ret
        exact ⟨by rw [HBAD.out (okLe_2 G2.out)]; rfl, by (repeat' (first | (with_reducible exact Below.refl _ _) | (with_reducible assumption) | (with_reducible refine below_drewN ?_ _) | (with_reducible refine Below.drew ?_) | (with_reducible refine Below.alloc ?_ ?_ _) | (with_reducible refine Below.setCell ?_ ?_ _) | go_size))⟩
      have C2 := Lib.hid (fun W => c_isText lt 33 100 _ G2.out W hs2)
      cases g5 : betw hr 0 100 <;> have G5 := Lib.hid g5 <;> clear g5
      · go_wp2_with (first | (go_at_call 61; refine (c_iIsName _ _ G1.out _ hs1).mono ?_; rintro e w' ⟨rfl, rfl⟩) | (go_at_call 41; refine (C2.out _).mono ?_; rintro e w' ⟨rfl, rfl⟩) | (go_at_call 62; refine (c_between _ _ _ _ G5.out _).mono ?_; rintro e w' ⟨rfl, rfl⟩))
        go_ret
        exact ⟨by rw [HBAD.out (okLe_5 G5.out)]; rfl, by (repeat' (first | (with_reducible exact Below.refl _ _) | (with_reducible assumption) | (with_reducible refine below_drewN ?_ _) | (with_reducible refine Below.drew ?_) | (with_reducible refine Below.alloc ?_ ?_ _) | (with_reducible refine Below.setCell ?_ ?_ _) | go_size))⟩
      have hlen : (nmsR (·.1) l p).length < maxLen := Nat.lt_of_le_of_lt nmsR_len (by unfold maxLen; omega)
      have HLEN := Lib.hid hlen
      clear hlen
      have HS := fun o => Lib.hid (hS.out.alloc o)
      clear hS
      rename World => wo
      go_wp2_with (first | (go_at_call 61; refine (c_iIsName _ _ G1.out _ hs1).mono ?_; rintro e w' ⟨rfl, rfl⟩) | (go_at_call 41; refine (C2.out _).mono ?_; rintro e w' ⟨rfl, rfl⟩) | (go_at_call 62; refine (c_between _ _ _ _ G5.out _).mono ?_; rintro e w' ⟨rfl, rfl⟩) | (at_mapUpdate; refine wpList_textSet _ rfl _ _ _ 78 rfl 9 4 Try.underlying78 Try.underlying9 Try.underlying4 w.heap.size _ rfl (HS _).out HLEN.out nm rfl hs1 rfl ?_; intro w1 hS1 hg1; have hB1 := below_map (by (repeat' (first | (with_reducible exact Below.refl _ _) | (with_reducible assumption) | (with_reducible refine below_drewN ?_ _) | (with_reducible refine Below.drew ?_) | (with_reducible refine Below.alloc ?_ ?_ _) | (with_reducible refine Below.setCell ?_ ?_ _) | go_size)) : Below w.heap.size w _) hg1 (Nat.le_refl _) (by simp; omega); have hL1 := Lib.hid (cells_grown (heap_alloc_new wo _) hg1 (by simp; omega)); have HS1 := Lib.hid hS1; clear hS1 hg1 hlook))
      clear c0 c1 c2 c3 hb1 HS
      unfold maxLen at hs2
      go_loopw [6] (fun y wr2 => ∃ q : Nat, q ≤ lt.size ∧ y = .int .i64 ((q : Int) + 1) ∧ Below w1.heap.size w1 wr2 ∧ Hid (allN (riseAt (bl lt)) q = true)) (fun y _ => lt.size + 1 - (intOf y).toNat)
      case atStart => exact ⟨0, Nat.zero_le _, rfl, by (repeat' (first | (with_reducible exact Below.refl _ _) | (with_reducible assumption) | (with_reducible refine below_drewN ?_ _) | (with_reducible refine Below.drew ?_) | (with_reducible refine Below.alloc ?_ ?_ _) | (with_reducible refine Below.setCell ?_ ?_ _) | go_size)), rfl⟩
      case round =>
        obtain ⟨q, hq, rfl, hB2, hri⟩ := hrel
        have hL2 := (hB2.block _ (lt_of_block hL1.out)).trans hL1.out
        obtain ⟨hb1, c0, c1, c2, c3⟩ := cells4 hL2
        clear hL2
        by_cases hlt3 : q + 1 < lt.size
        · have hlt4 : q < lt.size := by omega
          have hI1 : (q : Int) + 1 < lt.size := by omega
          have hI2 : (q : Int) < lt.size := by omega
          have hI3 : (0 : Int) ≤ (q : Int) := by omega
          have hI4 : (0 : Int) ≤ (q : Int) + 1 := by omega
          have ga := Lib.hid (bl_get lt q hlt4)
          have gb := Lib.hid (bl_get lt (q + 1) hlt3)
          by_cases h1 : (lt[q].toNat : Int) < lt[q + 1].toNat
          · have h2 : ¬ (lt[q + 1].toNat : Int) ≤ lt[q].toNat := by omega
            go_wp2_with fail
            go_quiet (fail)
            go_wp2_with fail
            go_roundw
            case rel => exact ⟨q + 1, by omega, by go_num, by (repeat' (first | (with_reducible exact Below.refl _ _) | (with_reducible assumption) | (with_reducible refine below_drewN ?_ _) | (with_reducible refine Below.drew ?_) | (with_reducible refine Below.alloc ?_ ?_ _) | (with_reducible refine Below.setCell ?_ ?_ _) | go_size)), allN_succ hri.out (by rw [riseAt_eq ga.out gb.out, decide_eq_true h1])⟩
            case measure => simp [intOf]; omega
          · have h2 : (lt[q + 1].toNat : Int) ≤ lt[q].toNat := by omega
            go_wp2_with fail
            go_quiet (fail)
            go_wp2_with fail
            go_ret
            exact ⟨by rw [HBAD.out (okLe_6 (rises_bad ga.out gb.out (by omega)))]; rfl, hB1.trans ((below_drewN hB2 _).mono hB1.size)⟩
        · have G6 := Lib.hid (rises_end hq hlt3 hri.out)
          have hI5 : ¬ (q : Int) + 1 < lt.size := by omega
          have hBw := hB1.trans (hB2.mono hB1.size)
          obtain ⟨_, _, _, _, _, hzs⟩ := K.out _ hBw
          have HZ := Lib.hid hzs
          clear hzs
          cases g3 : risesZ 0 ((n : Int) - 1) z <;> have G3 := Lib.hid g3 <;> clear g3
          · go_wp2_with (go_at_call 63; refine (c_areIndices _ _ _ _ z _ G3.out _ HZ.out hs3 hn).mono ?_; rintro e w' ⟨rfl, rfl⟩)
            go_ret
            exact ⟨by rw [HBAD.out (okLe_3 G3.out)]; rfl, hBw⟩
          cases g4 : hasZ z (p : Int) <;> have G4 := Lib.hid g4 <;> clear g4
          · have HTS := Lib.hid (HS1.out.later hB2)
            go_wp2_with (first | (go_at_call 63; refine (c_areIndices _ _ _ _ z _ G3.out _ HZ.out hs3 hn).mono ?_; rintro e w' ⟨rfl, rfl⟩) | (go_at_call 64; refine (c_contains _ _ _ z _ _ G4.out _ HZ.out hs4).mono ?_; rintro e w' ⟨rfl, rfl⟩))
            go_roundw
            case rel => exact ⟨p + 1, by omega, by go_num, hBw, by show TextSet _ _ _ _ _ (nmsR (·.1) l (p + 1)); rw [nmsR_succ HX.out]; exact HTS.out, allN_succ hok.out (leAt_ok HL.out HX.out (okLe_all G1.out G2.out G3.out G4.out G5.out G6.out) (fun h => absurd (nmsR_mem.2 h) (of_decide_eq_false HU.out)))⟩
            case measure => simp [intOf]; omega
          · go_wp2_with (first | (go_at_call 63; refine (c_areIndices _ _ _ _ z _ G3.out _ HZ.out hs3 hn).mono ?_; rintro e w' ⟨rfl, rfl⟩) | (go_at_call 64; refine (c_contains _ _ _ z _ _ G4.out _ HZ.out hs4).mono ?_; rintro e w' ⟨rfl, rfl⟩))
            go_ret
            exact ⟨by rw [HBAD.out (okLe_4 G4.out)]; rfl, hBw⟩
    · obtain rfl : p = n := by omega
      have HE : Hid (lesB l = true) := by
        show _ = _
        rw [les_end HL.out hok.out]; simp; omega
      go_wp2_with fail
      go_ret
      exact ⟨by rw [HE.out]; rfl, hB⟩
/-- The code of lessons and those that have been taken. -/
def takB (l : List TLesson) (z : List Int) : Int := if lesB l = true then (if risesZ 0 ((l.length : Int) - 1) z = true then 0 else 2) else 1
theorem takB_cases (l : List TLesson) (z : List Int) : (lesB l = false ∧ takB l z = 1) ∨ (lesB l = true ∧ risesZ 0 ((l.length : Int) - 1) z = false ∧ takB l z = 2) ∨ (lesB l = true ∧ risesZ 0 ((l.length : Int) - 1) z = true ∧ takB l z = 0) := by
  unfold takB
  cases lesB l <;> cases risesZ 0 ((l.length : Int) - 1) z <;> simp
set_option maxHeartbeats 1000000 in
theorem c_l18Taken (A B : Option Addr) (n c m d : Nat) (l : List TLesson) (z : List Int) (r : Int) (h : takB l z = r) (w : World) (ha : Ls w A n l) (hz : Zs w B m z) (hsz : LsB l) (hn : n ≤ 1048576) (hm : m ≤ 1048576) :
    Calls Try.prog 36 #[.slice A n c, .slice B m d] w fun e w' => e = .returned (.int .i64 r) ∧ Below w.heap.size w w' := by
  subst h
  have hl := ha.len
  subst hl
  have HA := Lib.hid ha
  have HZ := Lib.hid hz
  have HSZ := Lib.hid hsz
  clear ha hz hsz
  rcases takB_cases l z with ⟨g1, e⟩ | ⟨g1, g2, e⟩ | ⟨g1, g2, e⟩ <;> rw [e] <;> clear e <;> have G1 := Lib.hid g1 <;> clear g1
  · go_enter Try.func36, Try.ntmps36
    go_wp2_with (go_at_call 30; refine (c_l18Ok _ _ _ l _ G1.out _ HA.out HSZ.out hn).mono ?_; rintro r_ w1 ⟨rfl, hb1⟩)
    go_ret
    exact ⟨rfl, hb1⟩
  all_goals
    have G2 := Lib.hid g2
    clear g2
    go_enter Try.func36, Try.ntmps36
    go_wp2_with (first | (go_at_call 30; refine (c_l18Ok _ _ _ l _ G1.out _ HA.out HSZ.out hn).mono ?_; rintro r_ w1 ⟨rfl, hb1⟩) | (go_at_call 58; refine (c_l00Rises _ _ _ z _ _ _ G2.out _ (HZ.out.later hb1) hm).mono ?_; rintro e w' ⟨rfl, nd, rfl⟩))
    go_ret
    exact ⟨rfl, by (repeat' (first | (with_reducible exact Below.refl _ _) | (with_reducible assumption) | (with_reducible refine below_drewN ?_ _) | (with_reducible refine Below.drew ?_) | (with_reducible refine Below.alloc ?_ ?_ _) | (with_reducible refine Below.setCell ?_ ?_ _) | go_size))⟩
set_option maxHeartbeats 1000000 in
theorem c_takenCode (A B : Option Addr) (n c m d : Nat) (l : List TLesson) (z : List Int) (r : Int) (h : takB l z = r) (w : World) (ha : Ls w A n l) (hz : Zs w B m z) (hsz : LsB l) (hn : n ≤ 1048576) (hm : m ≤ 1048576) :
    Calls Try.prog 40 #[.slice A n c, .slice B m d] w fun e w' => e = .returned (.int .i64 r) ∧ Below w.heap.size w w' := by
  subst h
  have hl := ha.len
  subst hl
  have HA := Lib.hid ha
  have HZ := Lib.hid hz
  have HSZ := Lib.hid hsz
  clear ha hz hsz
  rcases takB_cases l z with ⟨g1, e⟩ | ⟨g1, g2, e⟩ | ⟨g1, g2, e⟩ <;> rw [e] <;> clear e <;> have G1 := Lib.hid g1 <;> clear g1
  · go_enter Try.func40, Try.ntmps40
    go_wp2_with (go_at_call 33; refine (c_iValidLessons _ _ _ l _ G1.out _ HA.out HSZ.out hn).mono ?_; rintro r_ w1 ⟨rfl, hb1⟩)
    go_ret
    exact ⟨rfl, hb1⟩
  all_goals
    have G2 := Lib.hid g2
    clear g2
    go_enter Try.func40, Try.ntmps40
    go_wp2_with (first | (go_at_call 33; refine (c_iValidLessons _ _ _ l _ G1.out _ HA.out HSZ.out hn).mono ?_; rintro r_ w1 ⟨rfl, hb1⟩) | (go_at_call 63; refine (c_areIndices _ _ _ _ z _ G2.out _ (HZ.out.later hb1) hm hn).mono ?_; rintro e w' ⟨rfl, rfl⟩))
    go_ret
    exact ⟨rfl, hb1⟩
theorem lsB_of {l : List TLesson} (h : LsSz l) (hs : sumW lessonW l ≤ 1048576) : LsB l := by
  intro x hx
  have h1 := h x hx
  have h2 := sumW_mem (f := lessonW) hx
  simp only [lessonW] at h2
  exact ⟨h1.1, h1.2.1, by omega⟩
end Go.Proofs.Ytajcdaclbammaaa
