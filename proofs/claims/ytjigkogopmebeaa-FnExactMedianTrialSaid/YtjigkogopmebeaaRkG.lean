/- The sort of places by an order: what its contract needs. -/
import Derived.Test.YtjigkogopmebeaaAh
import Derived.Test.YtjigkogopmebeaaRk
import Derived.Test.YtjigkogopmebeaaSmL
import Derived.Test.YtjigkogopmebeaaI64
import Derived.Sort.OwnSortedInts
import Derived.OneCell
namespace Go.Proofs.Ytjigkogopmebeaa
open Go.RowKit Go.BigFrame Go.Shelf

def encF {n : Nat} (x : Fin n) : Value := .int .i64 (x.val : Int)
def zl (o : List Nat) : List Int := o.map fun (i : Nat) => (i : Int)
theorem zl_len (o : List Nat) : (zl o).length = o.length := by simp [zl]
theorem zl_get {o : List Nat} {k i : Nat} (h : o[k]? = some i) : (zl o)[k]? = some (i : Int) := by simp [zl, h]
theorem zl_getInv {o : List Nat} {k : Nat} {z : Int} (h : (zl o)[k]? = some z) : ∃ i, o[k]? = some i ∧ z = (i : Int) := by
  simp only [zl, List.getElem?_map, Option.map_eq_some_iff] at h
  obtain ⟨i, h1, h2⟩ := h
  exact ⟨i, h1, h2.symm⟩
theorem zl_snoc (o : List Nat) (i : Nat) : zl (o ++ [i]) = zl o ++ [(i : Int)] := by simp [zl]
theorem zl_range_succ (k : Nat) : zl (List.range (k + 1)) = zl (List.range k) ++ [(k : Int)] := by rw [List.range_succ, zl_snoc]

section
variable {n : Nat} [Inhabited (Fin n)]
theorem putRow_fin (w : World) (blk off : Nat) (d : Array (Fin n)) : Sort.putRow encF w blk off d = Sort.putRow (Value.int .i64) w blk off (d.map fun x => (x.val : Int)) := by
  unfold Sort.putRow
  refine Sort.mapBlock_congr _ _ _ _ fun c _ _ _ => ?_
  unfold Sort.putCells
  apply Array.ext_getElem?
  intro k
  simp only [Array.getElem?_mapIdx, Array.size_map]
  cases c[k]? with
  | none => rfl
  | some y =>
    simp only [Option.map_some]
    by_cases h : off ≤ k ∧ k < off + d.size
    · rw [if_pos h, if_pos h, getElem!_pos d _ (by omega), getElem!_pos (d.map _) _ (by simp; omega)]
      simp [encF]
    · rw [if_neg h, if_neg h]
theorem sw_fin {w w' : World} {blk off : Nat} {d : Array (Fin n)} (h : SW encF w blk off d w') : ∃ m os, w' = Sort.grow (Sort.putRow (Value.int .i64) (Sort.ahead w m) blk off (d.map fun x => (x.val : Int))) os := by
  obtain ⟨m, os, rfl⟩ := h
  exact ⟨m, os, by unfold sortWorld; rw [putRow_fin]⟩
theorem sw_grown {α : Type} [Inhabited α] {enc : α → Value} {w w' : World} {g off : Nat} {d : Array α} (h : SW enc w g off d w') : w.grownBy w' (some g) := by
  obtain ⟨m, os, rfl⟩ := h
  refine ⟨rfl, rfl, rfl, by unfold sortWorld; simp [Sort.putRow, Sort.mapBlock, Sort.ahead], fun k hk hne => ?_⟩
  unfold sortWorld
  rw [Sort.heap_grow_old _ _ (by simpa [Sort.putRow, Sort.mapBlock, Sort.ahead] using hk)]
  have : g ≠ k := fun e => hne (by rw [e])
  simp [Sort.putRow, Sort.mapBlock, Sort.ahead, Array.getElem?_modify, this]
/-- Sorted, all different: the ranking. -/
theorem rk_of {lt : Nat → Nat → Bool} (hw : Wk lt) {d' : Array (Fin n)} (hp : Sort.PermIn 0 n (Array.ofFn fun i : Fin n => i) d') (hs : Srt (fun x y : Fin n => tieB lt x.val y.val) 0 n d') : d'.toList.map (·.val) = rkL lt n := by
  have hsz : d'.size = n := by rw [hp.1]; simp
  refine IsRk.uniq (n := n) hw ⟨?_, ?_⟩ (rkL_ok hw n)
  · have h1 := hp.2.2
    have e1 : d'.extract 0 n = d' := Array.extract_eq_self_of_le (by omega)
    have e2 : (Array.ofFn fun i : Fin n => i).extract 0 n = Array.ofFn fun i : Fin n => i := Array.extract_eq_self_of_le (by simp)
    rw [e1, e2] at h1
    refine (h1.map (·.val)).trans ?_
    have e3 : (Array.ofFn fun i : Fin n => i).toList.map (·.val) = List.range n := by
      apply List.ext_getElem
      · simp
      · intro i h1 h2; simp
    rw [e3]
  · rw [List.pairwise_iff_getElem]
    intro i j hi hj hij
    simp only [List.length_map, Array.length_toList] at hi hj
    have := hs i j (Nat.zero_le _) hij (by omega)
    rw [getElem!_pos d' i (by omega), getElem!_pos d' j (by omega)] at this
    simpa using this
end
theorem tot_tie {n : Nat} {lt : Nat → Nat → Bool} (hw : Wk lt) : Tot (fun x y : Fin n => tieB lt x.val y.val) where
  irr _ := tie_irr hw _
  tr _ _ _ h1 h2 := tie_tr hw h1 h2
  tot _ _ h1 h2 := Fin.ext (tie_tot h1 h2)
theorem later_tie {n : Nat} [Inhabited (Fin n)] {lt : Nat → Nat → Bool} : Later2 (fun x y : Fin n => lt x.val y.val) (fun x y : Fin n => tieB lt x.val y.val) 0 n (Array.ofFn fun i : Fin n => i) := by
  intro t k _ h2 h3
  rw [getElem!_pos _ t (by simpa using h3), getElem!_pos _ k (by simp; omega)]
  simp only [Array.getElem_ofFn, tieB, show ¬ t < k by omega, decide_false, Bool.and_false, Bool.or_false]

noncomputable def slT : TypeInfo := (Try.prog.info? 31).get (by kernel_rfl)
noncomputable def slE : TypeInfo := (Try.prog.info? 2).get (by kernel_rfl)
theorem slK (n : Nat) (h2 : 2 ≤ n) : Lib.swapperK n slE 6 = 5 := by
  have a : slE.hasPointers = false := by kernel_rfl
  have b : slE.bytes = 8 := by kernel_rfl
  have c : (n == 0) = false := by simp; omega
  have d : (n == 1) = false := by simp; omega
  simp [Lib.swapperK, a, b, c, d]
theorem slK1 (n : Nat) (h : n ≤ 1) : ∃ k, Lib.swapperK n slE 6 = k ∧ k = n + 1 := ⟨_, rfl, by
  rcases Nat.le_one_iff_eq_zero_or_eq_one.1 h with rfl | rfl <;> simp [Lib.swapperK]⟩
end Go.Proofs.Ytjigkogopmebeaa
