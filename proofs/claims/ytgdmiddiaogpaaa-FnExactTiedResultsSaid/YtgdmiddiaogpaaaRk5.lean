/- Contracts: RankResults. -/
import Derived.Test.YtgdmiddiaogpaaaRk4
namespace Go.Proofs.Ytgdmiddiaogpaaa
open Go.RowKit Go.BigFrame
attribute [local go_sem] sub_cell sub_frozen drewN_setCell

def rankC (l : List TResult) : Int := if ressB l = true then 0 else 1
def rankZ (l : List TResult) : List Int := if ressB l = true then zl (rkL (btr l) l.length) else []
theorem ress_len {l : List TResult} (h : ressB l = true) : l.length ≤ 40 := by
  simp only [ressB, Bool.and_eq_true, decide_eq_true_eq] at h
  exact h.2
theorem rankZ_len (l : List TResult) : (rankZ l).length ≤ 40 := by
  unfold rankZ
  split
  · rename_i h
    rw [zl_len, (rkL_ok (btr_wk l) _).len]
    exact ress_len h
  · simp
theorem IntsPost.err {c : Int} {w w' : World} (hb : Below w.heap.size w w') : IntsPost [] c w (.returned (.tuple #[.slice none 0 0, .int .i64 c])) w' :=
  ⟨none, 0, rfl, World.ownsRow_nil _ _ _ _, hb⟩

set_option maxHeartbeats 2000000 in
theorem c_sRankResults (A : Option Addr) (n c : Nat) (l : List TResult) (w : World) (ha : Sl resultC w w.heap.size 3 A n l) (hsz : RsSz l) (hn : n ≤ 1048576) :
    Calls Try.prog 29 #[.slice A n c] w (IntsPost (rankZ l) (rankC l) w) := by
  have HL := Lib.hid ha.1
  have HA := Lib.hid ha
  have HSZ := Lib.hid hsz
  clear ha hsz
  cases h : ressB l
  · have e1 : Hid (rankZ l = [] ∧ rankC l = 1) := by constructor <;> simp [rankZ, rankC, h]
    go_enter Try.func29, Try.ntmps29
    go_wp2_with (go_at_call 58; refine (c_l22Ok _ _ _ l _ h _ HA.out HSZ.out hn).mono ?_; rintro r_ w1 ⟨rfl, hb1⟩)
    go_ret2
    rw [e1.out.1, e1.out.2]
    exact IntsPost.err hb1
  · have h40 := ress_len h
    rw [HL.out] at h40
    have e1 : Hid (rankZ l = zl (rkL (btr l) n) ∧ rankC l = 0) := by constructor <;> simp [rankZ, rankC, h, HL.out]
    go_enter Try.func29, Try.ntmps29
    go_wp2_with (first | (go_at_call 58; refine (c_l22Ok _ _ _ l _ h _ HA.out HSZ.out hn).mono ?_; rintro r_ w1 ⟨rfl, hb1⟩; have HA1 := Lib.hid (HA.out.later hb1)) | (go_at_call 64; refine (c_l22Rank _ _ _ l _ HA1.out h40).mono ?_; rintro r_ w2 ⟨B, d, rfl, ow, hb2⟩; have OW := Lib.hid ow; have HB2 := Lib.hid hb2; clear ow hb2))
    go_ret2
    rw [e1.out.1, e1.out.2]
    exact ⟨B, d, rfl, own_base OW.out hb1.size, hb1.trans (HB2.out.mono hb1.size)⟩
set_option maxHeartbeats 2000000 in
theorem c_iRankResults (A : Option Addr) (n c : Nat) (l : List TResult) (w : World) (ha : Sl resultC w w.heap.size 3 A n l) (hsz : RsSz l) (hn : n ≤ 1048576) :
    Calls Try.prog 30 #[.slice A n c] w (IntsPost (rankZ l) (rankC l) w) := by
  have HL := Lib.hid ha.1
  have HA := Lib.hid ha
  have HSZ := Lib.hid hsz
  clear ha hsz
  cases h : ressB l
  · have e1 : Hid (rankZ l = [] ∧ rankC l = 1) := by constructor <;> simp [rankZ, rankC, h]
    go_enter Try.func30, Try.ntmps30
    go_wp2_with (go_at_call 20; refine (c_iValidResults _ _ _ l _ h _ HA.out HSZ.out hn).mono ?_; rintro r_ w1 ⟨rfl, hb1⟩)
    go_ret2
    rw [e1.out.1, e1.out.2]
    exact IntsPost.err hb1
  · have h40 := ress_len h
    rw [HL.out] at h40
    have e1 : Hid (rankZ l = zl (rkL (btr l) n) ∧ rankC l = 0) := by constructor <;> simp [rankZ, rankC, h, HL.out]
    go_enter Try.func30, Try.ntmps30
    go_wp2_with (first | (go_at_call 20; refine (c_iValidResults _ _ _ l _ h _ HA.out HSZ.out hn).mono ?_; rintro r_ w1 ⟨rfl, hb1⟩; have HA1 := Lib.hid (HA.out.later hb1)) | (go_at_call 65; refine (c_ranking _ _ _ l _ HA1.out h40).mono ?_; rintro r_ w2 ⟨B, d, rfl, ow, hb2⟩; have OW := Lib.hid ow; have HB2 := Lib.hid hb2; clear ow hb2))
    go_ret2
    rw [e1.out.1, e1.out.2]
    exact ⟨B, d, rfl, own_base OW.out hb1.size, hb1.trans (HB2.out.mono hb1.size)⟩
end Go.Proofs.Ytgdmiddiaogpaaa
