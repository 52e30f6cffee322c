/- Contract: spec.l00Own, a fresh copy of numbers. -/
import Derived.Test.YtajcdaclbammaaaZs
import Derived.Test.YtajcdaclbammaaaAp
namespace Go.Proofs.Ytajcdaclbammaaa
open Go.RowKit Go.BigFrame
attribute [local go_sem] sub_cell sub_frozen drewN_setCell

set_option maxHeartbeats 1000000 in
theorem c_l00Own (A : Option Addr) (n c : Nat) (l : List Int) (w : World) (ha : Zs w A n l) (hn : n ≤ 1048576) :
    Calls Try.prog 66 #[.slice A n c] w (ZsPost l w) := by
  have HL := Lib.hid ha.1
  have HR := Lib.hid (fun o => ((zs_rd ha).keep (w' := w.alloc o) fun p hp => World.cell?_alloc_lt w o p (by omega)))
  clear ha
  go_enter Try.func66, Try.ntmps66
  go_wp2_with (at_builtin; refine apList rfl (.tmp 3) (.tmp 4) _ rfl w.heap.size 2 _ 8 Try.underlying30 info_int64 rfl _ _ 0 [] rfl (World.ownsRow_made w #[] 0 (Nat.le_refl _) (by simp [maxLen]) rfl) w.heap.size A n c _ rfl (HR.out _) ints_one (by omega) (by omega) (by simp) ?_; intro v' w2 hown2 hb2 _ _; have HW := Lib.hid hown2; have HB := Lib.hid hb2; clear hown2 hb2)
  go_ret
  refine ZsPost.mk_ HL.out ?_ (((Below.refl _ _).alloc (Nat.le_refl _) _).trans HB.out)
  have := HW.out
  rwa [Nat.zero_add, List.nil_append] at this
end Go.Proofs.Ytajcdaclbammaaa
