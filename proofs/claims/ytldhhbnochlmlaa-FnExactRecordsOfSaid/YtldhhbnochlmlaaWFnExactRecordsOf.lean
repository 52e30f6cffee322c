/- The walk of the law FnExactRecordsOf: it returns true, and what was there stays as it was. -/
import Derived.Test.YtldhhbnochlmlaaTrO
import Derived.Test.YtldhhbnochlmlaaTr5
namespace Go.Proofs.Ytldhhbnochlmlaa.fnExactRecordsOf
open Go.RowKit Go.BigFrame
attribute [local go_sem] sub_cell sub_frozen drewN_setCell

set_option maxHeartbeats 2000000 in
theorem walk (A0 : Option Addr) (n0 c0 : Nat) (l0 : List (Int × Int × Int)) (pe : Int) (w : World) (h0 : InT w A0 n0 l0) (w1 : (Lit.int .i64 pe).wf = true) :
    Calls Try.prog 13 #[.slice A0 n0 c0, .int .i64 pe] w fun e w' => e = .returned (.bool true) ∧ Below w.heap.size w w' := by
  obtain ⟨ha, _, hm0⟩ := h0
  unfold maxLen at hm0
  clear w1
  have hz0 : (recZ l0 pe).length ≤ l0.length := recZ_len l0 pe
  rw [ha.1] at hz0
  obtain ⟨zs, hzs⟩ : ∃ z, recZ l0 pe = z := ⟨_, rfl⟩
  obtain ⟨v, hv⟩ : ∃ z, codeL l0 pe = z := ⟨_, rfl⟩
  have C1 : Hid (∀ (A : Option Addr) (n c : Nat) (w : World), Sl trc w w.heap.size 3 A n l0 → n ≤ 1048576 → Calls Try.prog 40 #[.slice A n c, .int .i64 pe] w (IntsPost zs v w)) :=
    fun A n c w h1 h2 => hzs ▸ hv ▸ (c_sRecordsOf A n c l0 pe w h1 h2).mono fun _ _ h => h.ints
  have C2 : Hid (∀ (A : Option Addr) (n c : Nat) (w : World), Sl trc w w.heap.size 3 A n l0 → n ≤ 1048576 → Calls Try.prog 41 #[.slice A n c, .int .i64 pe] w (IntsPost zs v w)) :=
    fun A n c w h1 h2 => hzs ▸ hv ▸ (c_iRecordsOf A n c l0 pe w h1 h2).mono fun _ _ h => h.ints
  rw [hzs] at hz0
  clear hv hzs
  by_cases hn0 : n0 ≤ 1048576
  · have hsz : (if (1048576 : Int) - n0 < 0 then (-1 : Int) else 1048576 - n0) = 1048576 - n0 := if_neg (by omega)
    have H1 := Lib.hid (fun W => c_szTrialS A0 n0 c0 1048576 _ (by omega) (by omega) (by omega) hsz W)
    clear hsz
    have HL0 := Lib.hid ha.1
    have hq1 : ¬ ((1 : Int) + (n0 : Int) * 3 < 0) := by omega
    have hq2 : ¬ ((1 : Int) + (zs.length : Int) < 0) := by omega
    go_enter Try.func13, Try.ntmps13
    go_wp2_with fail
    refine (H1.out _).mono ?_
    rintro r_ w' ⟨rfl, rfl⟩
    go_wp2_with fail
    refine (c_toTrialS _ _ _ _ _ ha hn0).mono ?_
    rintro r_ w1 ⟨rfl, o1, b1⟩
    have e1 := b1
    go_wp2_with fail
    refine (C1.out _ _ _ _ (HL0.out ▸ o1.sl) hn0).mono ?_
    rintro r_ w2 ⟨Aw, cw, rfl, ow2, b2⟩
    have e2 := e1.trans (b2.mono e1.size)
    go_wp2_with fail
    refine (c_toTrialS _ _ _ _ _ (ha.later e2) hn0).mono ?_
    rintro r_ w3 ⟨rfl, o3, b3⟩
    have e3 := e2.trans (b3.mono e2.size)
    have ow3 := own_below ow2 b3
    go_wp2_with fail
    refine (C2.out _ _ _ _ (HL0.out ▸ o3.sl) hn0).mono ?_
    rintro r_ w4 ⟨Ag, cg, rfl, og4, b4⟩
    have e4 := e3.trans (b4.mono e3.size)
    have ow4 := own_below ow3 b4
    have o4 := o3.later b4
    go_wp2_with fail
    refine (c_eqInt64S _ _ _ _ _ _ _ (z_own og4) (z_own ow4) (by omega)).mono ?_
    rintro r_ w5 ⟨rfl, b5⟩
    have e5 := e4.trans (b5.mono e4.size)
    have ow5 := own_below ow4 b5
    have og5 := own_below og4 b5
    have o5 := o4.later b5
    go_wp2_with fail
    refine (c_toTrialS _ _ _ _ _ (ha.later e5) hn0).mono ?_
    rintro r_ w6 ⟨rfl, o6x, b6⟩
    have e6 := e5.trans (b6.mono e5.size)
    have ow6 := own_below ow5 b6
    have og6 := own_below og5 b6
    have o6 := o5.later b6
    go_wp2_with fail
    refine (c_eqTrialS _ _ _ _ _ _ _ (HL0.out ▸ o6.sl) (HL0.out ▸ o6x.sl) (by omega)).mono ?_
    rintro r_ w7 ⟨rfl, b7⟩
    have e7 := e6.trans (b7.mono e6.size)
    have ow7 := own_below ow6 b7
    have og7 := own_below og6 b7
    have o7 := o6.later b7
    go_wp2_with fail
    refine (c_markTrialS _ _ _ _ _ _ HL0.out o7 hn0 (by omega) (by omega)).mono ?_
    rintro r_ w8 ⟨rfl, m8⟩
    have e8 := e7.grown m8 e7.size (fun k hk => by cases hk; exact e2.size)
    have ow8 := own_mark ow7 m8 (own_ne_young ow2 (Nat.le_refl _))
    have og8 := own_mark og7 m8 (own_ne_old og4 o3.lt)
    go_wp2_with fail
    refine (c_eqInt64S _ _ _ _ _ _ _ (z_own og8) (z_own ow8) (by omega)).mono ?_
    rintro r_ w9 ⟨rfl, b9⟩
    have e9 := e8.trans (b9.mono e8.size)
    have ow9 := own_below ow8 b9
    have og9 := own_below og8 b9
    go_wp2_with fail
    refine (c_markInt64S _ _ _ _ _ _ _ rfl og9 (by omega) (by omega) (by omega)).mono ?_
    rintro r_ w10 ⟨rfl, og10, m10⟩
    have e10 := below_mark e9 m10 og9 e3.size e9.size
    have ow10 := own_mark_young ow9 m10 og9 (own_lt ow2) b3.size
    go_wp2_with fail
    refine (c_heldInt64S _ _ _ _ _ (z_held og10) (by omega) (by omega) (by omega)).mono ?_
    rintro r_ w11 ⟨rfl, b11⟩
    have e11 := e10.trans (b11.mono e10.size)
    have ow11 := own_below ow10 b11
    have og11 := own_below og10 b11
    go_wp2_with fail
    refine (c_toTrialS _ _ _ _ _ (ha.later e11) hn0).mono ?_
    rintro r_ w12 ⟨rfl, o12, b12⟩
    have e12 := e11.trans (b12.mono e11.size)
    have ow12 := own_below ow11 b12
    have og12 := own_below og11 b12
    go_wp2_with fail
    refine (C2.out _ _ _ _ (HL0.out ▸ o12.sl) hn0).mono ?_
    rintro r_ w13 ⟨Ah, ch, rfl, oh13, b13⟩
    have e13 := e12.trans (b13.mono e12.size)
    have ow13 := own_below ow12 b13
    have og13 := own_below og12 b13
    go_wp2_with fail
    refine (c_eqInt64S _ _ _ _ _ _ _ (z_own oh13) (z_own ow13) (by omega)).mono ?_
    rintro r_ w14 ⟨rfl, b14⟩
    have e14 := e13.trans (b14.mono e13.size)
    have og14 := own_below og13 b14
    go_wp2_with fail
    refine (c_heldInt64S _ _ _ _ _ (z_held og14) (by omega) (by omega) (by omega)).mono ?_
    rintro r_ w15 ⟨rfl, b15⟩
    have e15 := e14.trans (b15.mono e14.size)
    go_wp2_with fail
    go_returns
    exact ⟨rfl, e15⟩
  · have hsz : (if (1048576 : Int) - n0 < 0 then (-1 : Int) else 1048576 - n0) = -1 := if_pos (by omega)
    have H1 := Lib.hid (fun W => c_szTrialS A0 n0 c0 1048576 _ (by omega) (by omega) (by omega) hsz W)
    clear hsz
    go_enter Try.func13, Try.ntmps13
    go_wp2_with fail
    refine (H1.out _).mono ?_
    rintro r_ w' ⟨rfl, rfl⟩
    go_wp2_with fail
    go_returns
    exact ⟨rfl, Below.refl _ _⟩
end Go.Proofs.Ytldhhbnochlmlaa.fnExactRecordsOf
