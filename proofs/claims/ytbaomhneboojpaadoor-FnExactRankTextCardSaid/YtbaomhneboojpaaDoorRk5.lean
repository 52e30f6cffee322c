/- Contracts: RankResults. -/
import Derived.Test.YtbaomhneboojpaaDoorRk4
namespace Go.Proofs.YtbaomhneboojpaaDoor
open Go.RowKit Go.BigFrame
attribute [local go_sem] sub_cell sub_frozen drewN_setCell

def rankC (l : List TResult) : Int := if ressB l = true then 0 else 1
def rankZ (l : List TResult) : List Int := if ressB l = true then zl (rkL (btr l) l.length) else []
theorem ress_len {l : List TResult} (h : ressB l = true) : l.length ≤ 40 := by
  simp only [ressB, Bool.and_eq_true, decide_eq_true_eq] at h
  exact h.2
theorem rankZ_len (l : List TResult) : (rankZ l).length ≤ 40 := by
  unfold rankZ
  split
  · rename_i h
    rw [zl_len, (rkL_ok (btr_wk l) _).len]
    exact ress_len h
  · simp
theorem IntsPost.err {c : Int} {w w' : World} (hb : Below w.heap.size w w') : IntsPost [] c w (.returned (.tuple #[.slice none 0 0, .int .i64 c])) w' :=
  ⟨none, 0, rfl, World.ownsRow_nil _ _ _ _, hb⟩

end Go.Proofs.YtbaomhneboojpaaDoor
