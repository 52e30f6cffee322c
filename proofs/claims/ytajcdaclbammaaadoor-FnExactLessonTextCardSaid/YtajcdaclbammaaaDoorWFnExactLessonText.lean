/- The walk of the law FnExactLessonText: it returns true, and what was there stays as it was. -/
import Derived.Test.YtajcdaclbammaaaDoorLt2
namespace Go.Proofs.YtajcdaclbammaaaDoor.fnExactLessonText
open Go.RowKit Go.BigFrame
attribute [local go_sem] sub_cell sub_frozen drewN_setCell

set_option maxHeartbeats 4000000 in
theorem walk (A0 : Option Addr) (n0 c0 : Nat) (l0 : List TLesson) (z1 : Int) (w : World) (w0 : InLesson w A0 n0 l0) (w1 : (Lit.int .i64 z1).wf = true) (ht : Tab w) :
    Calls Tryd.prog 3 #[.slice A0 n0 c0, .int .i64 z1] w fun e w' => e = .returned (.bool true) ∧ Below w.heap.size w w' := by
  obtain ⟨ha0, ok0, hm0⟩ := w0
  have HL0 := Lib.hid ha0.len
  have OK0 := Lib.hid ok0
  have HA0 := Lib.hid ha0
  clear ok0 ha0
  have hb0 : n0 ≤ 9223372036854775807 := hm0
  have HT := Lib.hid ht
  clear ht
  have hw0 : (0 : Int) ≤ ((n0 + sumW lessonW l0 : Nat) : Int) := by omega
  by_cases hq0 : 0 ≤ (1048576 : Int) - ((n0 + sumW lessonW l0 : Nat) : Int)
  rotate_left
  · have H0 := Lib.hid (fun W h => c_szLessonS A0 n0 c0 l0 (1048576 : Int) (-1) W h OK0.out hm0 (by omega) (by omega) (szV_neg (n := n0 + sumW lessonW l0) (left := (1048576 : Int)) (by omega)))
    go_enter Tryd.func3, Tryd.ntmps3
    go_wp2_with fail
    refine (H0.out _ HA0.out).mono ?_
    rintro r_ wz1 ⟨rfl, bz1⟩
    go_wp2_with fail
    go_returns
    exact ⟨rfl, bz1⟩
  have H0 := Lib.hid (fun W h => c_szLessonS A0 n0 c0 l0 (1048576 : Int) ((1048576 : Int) - ((n0 + sumW lessonW l0 : Nat) : Int)) W h OK0.out hm0 (by omega) (by omega) (szV_pos (n := n0 + sumW lessonW l0) (left := (1048576 : Int)) hq0))
  have hn0 : n0 ≤ 1048576 := by omega
  have LSB := Lib.hid (lsB_of OK0.out (show sumW lessonW l0 ≤ 1048576 by omega))
  have LSN : Hid (∀ x ∈ l0, x.2.2.1.length ≤ 1048576) := fun x hx => (LSB.out x hx).2.2
  have LSM : Hid (∀ x ∈ l0, x.2.2.1.length ≤ 4611686018427387904) := fun x hx => by have := LSN.out x hx; omega
  have hts : ∀ z : ByteArray, (z.toList == z.toList) = true := fun z => txt_eq rfl
  obtain ⟨v, hv_v⟩ : ∃ z : ByteArray, ltV l0 z1 = z := ⟨_, rfl⟩
  have C1 : Hid (∀ (B0 : Option Addr) (W : World), Ls W B0 n0 l0 → Calls Tryd.prog 5 #[.slice B0 n0 n0, .int .i64 z1] W (fun e w' => e = .returned (.string v) ∧ Below W.heap.size W w')) := fun B0 W h0 => hv_v ▸ c_sLessonText _ _ _ _ _ W h0 LSB.out hn0
  have C2 : Hid (∀ (B0 : Option Addr) (W : World), Ls W B0 n0 l0 → Tab W → Calls Tryd.prog 7 #[.slice B0 n0 n0, .int .i64 z1] W (fun e w' => e = .returned (.string v) ∧ Below W.heap.size W w')) := fun B0 W h0 hT => hv_v ▸ c_iLessonText _ _ _ _ _ W h0 LSB.out hn0 hT
  clear hv_v
  go_enter Tryd.func3, Tryd.ntmps3
  go_wp2_with fail
  refine (H0.out _ HA0.out).mono ?_
  rintro r_ w0 ⟨rfl, e0⟩
  go_wp2_with fail
  refine (c_toLessonS _ _ _ l0 _ (HA0.out.later e0) hn0 LSN.out).mono ?_
  rintro r_ w1 ⟨rfl, ⟨gs1, t1⟩, b1⟩
  have e1 := e0.trans (b1.mono e0.size)
  have L1_1 := t1
  go_wp2_with fail
  refine (C1.out _ _ (L1_1.ls HL0.out)).mono ?_
  rintro r_ w2 ⟨rfl, b2⟩
  have e2 := e1.trans (b2.mono e1.size)
  have L1_2 := L1_1.later b2
  go_wp2_with fail
  refine (c_toLessonS _ _ _ l0 _ (HA0.out.later e2) hn0 LSN.out).mono ?_
  rintro r_ w3 ⟨rfl, ⟨gs3, t3⟩, b3⟩
  have e3 := e2.trans (b3.mono e2.size)
  have L3_3 := t3
  go_wp2_with fail
  refine (C2.out _ _ (L3_3.ls HL0.out) (HT.out.later e3)).mono ?_
  rintro r_ w4 ⟨rfl, b4⟩
  have e4 := e3.trans (b4.mono e3.size)
  have L3_4 := L3_3.later b4
  go_wp2_with fail
  refine (c_toLessonS _ _ _ l0 _ (HA0.out.later e4) hn0 LSN.out).mono ?_
  rintro r_ w5 ⟨rfl, ⟨gs5, t5⟩, b5⟩
  have e5 := e4.trans (b5.mono e4.size)
  have L3_5 := L3_4.later b5
  have L5_5 := t5
  go_wp2_with fail
  refine (c_eqLessonS _ _ _ _ _ _ _ (L3_5.ls HL0.out) (L5_5.ls HL0.out) LSM.out (by omega)).mono ?_
  rintro r_ w6 ⟨rfl, b6⟩
  have e6 := e5.trans (b6.mono e5.size)
  have L3_6 := L3_5.later b6
  have L5_6 := L5_5.later b6
  go_wp2_with fail
  go_returns
  exact ⟨rfl, e6⟩
end Go.Proofs.YtajcdaclbammaaaDoor.fnExactLessonText
