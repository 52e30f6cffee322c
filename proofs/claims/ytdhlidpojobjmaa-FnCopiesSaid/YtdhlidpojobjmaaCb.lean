/- Contract: copies with carbon paper. -/
import Derived.Test.YtdhlidpojobjmaaCp
namespace Go.Proofs.Ytdhlidpojobjmaa
open Go.RowKit Go.BigFrame
attribute [local go_sem] sub_cell sub_frozen drewN_setCell

theorem src_at {w W : World} {A : Option Addr} {n c : Nat} (hb : Bys w A n) (h : Below w.heap.size w W) : Src (W.alloc (.cells #[.slice A n c, .int .i64 0, .int .u64 0] 82)) W.heap.size A n c 0 := src_new (hb.later h)
set_option maxHeartbeats 2000000 in
theorem c_A2Carbon (A : Option Addr) (n c : Nat) (w : World) (hb : Bys w A n) (hn : n ≤ 1099511627776) :
    Calls Try.prog 13 #[.slice A n c] w (CarbonP w.heap.size w) := by
  have HS : Hid (∀ W : World, Below w.heap.size w W → Src (W.alloc (.cells #[.slice A n c, .int .i64 0, .int .u64 0] 82)) W.heap.size A n c 0) := fun W h => src_at hb h
  have HX : Hid (Src ((w.alloc (.cells #[.int .i64 0, .int .i64 0, .int .i64 0] 33)).alloc (.cells #[.slice A n c, .int .i64 0, .int .u64 0] 82)) (w.heap.size + 1) A n c 0) := by
    have h := HS.out (w.alloc (.cells #[.int .i64 0, .int .i64 0, .int .i64 0] 33)) ((Below.refl _ w).alloc (Nat.le_refl _) _)
    rw [World.size_alloc] at h
    exact h
  have HA := Lib.hid hb
  clear hb
  go_enter Try.func13, Try.ntmps13
  go_wp2_with fail
  refine (c_l00From A n c _).mono ?_
  rintro r_ w1 ⟨rfl, rfl⟩
  go_wp2_with fail
  refine (c_l13Draw _ A n c (w.heap.size + 1) _ HX.out hn (Nat.le_refl _) (fun b o e h => by have := HA.out.lt b o e h; simp only [World.size_alloc]; omega)).mono ?_
  rintro r_ w2 ⟨F, L, M, rfl, h1, h2, h3, h4, h5, h6, hb2⟩
  have c0 := hb2.cell (p := ⟨w.heap.size, 0, none⟩) (by simp)
  have c1 := hb2.cell (p := ⟨w.heap.size, 1, none⟩) (by simp)
  have c2 := hb2.cell (p := ⟨w.heap.size, 2, none⟩) (by simp)
  have f0 := hb2.frozen (p := ⟨w.heap.size, 0, none⟩) (by simp)
  have f1 := hb2.frozen (p := ⟨w.heap.size, 1, none⟩) (by simp)
  have f2 := hb2.frozen (p := ⟨w.heap.size, 2, none⟩) (by simp)
  simp [go_sem] at c0 c1 c2 f0 f1 f2
  have hB := Lib.hid ((by (repeat' (first | (with_reducible exact Below.refl _ _) | (with_reducible assumption) | (with_reducible refine below_drewN ?_ _) | (with_reducible refine Below.drew ?_) | (with_reducible refine Below.alloc ?_ ?_ _) | (with_reducible refine Below.setCell ?_ ?_ _) | go_size)) : Below w.heap.size w _).trans (hb2.mono (by omega)))
  clear hb2
  go_wp2_with fail
  refine bodyPost_ret (by simp [results, Try.results13, go_sem, *]; try rfl) rfl ?_
  exact ⟨F, L, M, rfl, h1, h2, h3, h4, h5, h6, ((hB.out.setCell (Nat.le_refl _) _).setCell (Nat.le_refl _) _).setCell (Nat.le_refl _) _⟩
end Go.Proofs.Ytdhlidpojobjmaa
