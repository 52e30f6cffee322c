/- Arrays of 256 bools that a statement makes, in a seat that has no table of zero cells. -/
import Derived.Test.YtajcdaclbammaaaAr
namespace Go.Proofs.Ytajcdaclbammaaa
open Go.RowKit Go.BigFrame
theorem zeroBex : ∃ Z : Array Value, Z.size = 256 ∧ (∀ w, (zeroValue 63).run Try.prog w = .ok (.agg Z) w) ∧ (∀ w : World, (w.alloc (.cells Z 63)).rowIs w.heap.size 63 256 (mk [])) ∧
    (∀ w : World, (Instr.storeAt 63 (.pointer (some ⟨w.heap.size, 0, none⟩)) (.agg Z)).run Try.prog (w.alloc (.cells Z 63)) = .ok () (w.alloc (.cells Z 63))) ∧
    (∀ w : World, (storeCells ⟨w.heap.size, 0, none⟩ Z.toList 0).run Try.prog (w.alloc (.cells Z 63)) = .ok () (w.alloc (.cells Z 63))) := by
  obtain ⟨z2, i2⟩ := zero_of_info (P := Try.prog) (t := 63) (v := .agg (Array.replicate 256 (.bool false))) (n := 256) (by kernel_rfl)
  have hs : (Array.replicate 256 (Value.bool false)).size = 256 := Array.size_replicate
  have ho : (Array.replicate 256 (Value.bool false)).all (·.oneCell') = true := by
    rw [Array.all_eq_true]; intro i hi; rw [Array.getElem_replicate]; rfl
  have hi := i2.trans (congrArg some hs.symm)
  refine ⟨Array.replicate 256 (.bool false), hs, z2, fun w => ?_, fun w => run_storeAt_new w _ _ _ hi rfl ho, fun w => run_storeCells_new w _ _ _ hi rfl ho⟩
  have := World.rowIs_alloc w (Array.replicate 256 (.bool false)) 63 (mk []) (fun i hi => by
    rw [Array.size_replicate] at hi
    simp [mk, hi])
  rwa [Array.size_replicate] at this
end Go.Proofs.Ytajcdaclbammaaa
