/- The walk of the law FnExactWordsPerMinute: it returns true, and what was there stays as it was. -/
import Derived.Test.YtldhhbnochlmlaaSp5
namespace Go.Proofs.Ytldhhbnochlmlaa.fnExactWordsPerMinute
open Go.RowKit Go.BigFrame
attribute [local go_sem] sub_cell sub_frozen drewN_setCell

set_option maxHeartbeats 1000000 in
theorem walk (s e t pe : Int) (w : World) (w0 : (Lit.int .i64 s).wf = true) (w1 : (Lit.int .i64 e).wf = true) (w2 : (Lit.int .i64 t).wf = true) (w3 : (Lit.int .i64 pe).wf = true) :
    Calls Try.prog 10 #[.agg #[.int .i64 s, .int .i64 e, .int .i64 t], .int .i64 pe] w fun e w' => e = .returned (.bool true) ∧ Below w.heap.size w w' := by
  obtain ⟨x, y, z, hv⟩ := spmV_form 12 s e t pe
  have c1 := c_sWordsPerMinute s e t pe
  have c2 := c_iWordsPerMinute s e t pe
  rw [hv] at c1 c2
  have C1 := Lib.hid c1
  have C2 := Lib.hid c2
  clear c1 c2 hv w0 w1 w2 w3
  go_enter Try.func10, Try.ntmps10
  go_wp2_with (first
    | (go_at_call 18; refine (c_toTrial _ _ _ _).mono ?_; rintro r_ w' ⟨rfl, rfl⟩)
    | (go_at_call 34; refine (C1.out _).mono ?_; rintro r_ w1 ⟨rfl, hb1⟩; have hB1 := later hb1 (w := w) (by (repeat' (first | (with_reducible exact Below.refl _ _) | (with_reducible assumption) | (with_reducible refine below_drewN ?_ _) | (with_reducible refine Below.drew ?_) | (with_reducible refine Below.alloc ?_ ?_ _) | (with_reducible refine Below.setCell ?_ ?_ _) | go_size))); have hz1 := hB1.size; have hy1 := hb1.size; obtain ⟨hc1, hf1⟩ := bcell hb1; (try simp only [World.size_alloc, World.heap_drewN] at hc1 hf1 hy1); clear hb1; have hl1_0 : w.heap.size < w1.heap.size := (by omega))
    | (go_at_call 35; refine (C2.out _).mono ?_; rintro r_ w2 ⟨rfl, hb2⟩; have hB2 := later hb2 (w := w) (by (repeat' (first | (with_reducible exact Below.refl _ _) | (with_reducible assumption) | (with_reducible refine below_drewN ?_ _) | (with_reducible refine Below.drew ?_) | (with_reducible refine Below.alloc ?_ ?_ _) | (with_reducible refine Below.setCell ?_ ?_ _) | go_size))); have hz2 := hB2.size; have hy2 := hb2.size; obtain ⟨hc2, hf2⟩ := bcell hb2; (try simp only [World.size_alloc, World.heap_drewN] at hc2 hf2 hy2); clear hb2; have hl2_0 : w.heap.size < w2.heap.size := (by omega); have hl12 : w1.heap.size < w2.heap.size := (by omega))
    | (go_at_call 31; refine (c_eqFraction _ _ _).mono ?_; rintro r_ w3 ⟨rfl, hb3⟩; have hB3 := later hb3 (w := w) (by (repeat' (first | (with_reducible exact Below.refl _ _) | (with_reducible assumption) | (with_reducible refine below_drewN ?_ _) | (with_reducible refine Below.drew ?_) | (with_reducible refine Below.alloc ?_ ?_ _) | (with_reducible refine Below.setCell ?_ ?_ _) | go_size))); have hz3 := hB3.size; have hy3 := hb3.size; obtain ⟨hc3, hf3⟩ := bcell hb3; (try simp only [World.size_alloc, World.heap_drewN] at hc3 hf3 hy3); clear hb3))
  go_returns
  exact ⟨rfl, by (repeat' (first | (with_reducible exact Below.refl _ _) | (with_reducible assumption) | (with_reducible refine below_drewN ?_ _) | (with_reducible refine Below.drew ?_) | (with_reducible refine Below.alloc ?_ ?_ _) | (with_reducible refine Below.setCell ?_ ?_ _) | go_size))⟩
end Go.Proofs.Ytldhhbnochlmlaa.fnExactWordsPerMinute
