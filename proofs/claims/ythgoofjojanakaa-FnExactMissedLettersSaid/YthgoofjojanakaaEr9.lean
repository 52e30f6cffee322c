/- Contracts: the least numbers of errors from all places of two texts on (the program). -/
import Derived.Test.YthgoofjojanakaaEr7
import Derived.Test.YthgoofjojanakaaEr2
namespace Go.Proofs.Ythgoofjojanakaa
open Go.RowKit Go.BigFrame
attribute [local go_sem] sub_cell sub_frozen drewN_setCell

/-- A matrix whose first p rows are made. -/
def MatP (ts ti : TypeId) (w : World) (G n m p : Nat) : Prop :=
  ∃ ρ : Nat → Nat, w.rowIs G ts (n + 1) (fun j => if j < p then .slice (some ⟨ρ j, 0, none⟩) (m + 1) (m + 1) else .slice none 0 0) ∧ (∀ j, j < p → G < ρ j ∧ w.rowIs (ρ j) ti (m + 1) (fun _ => .int .i64 0)) ∧ ∀ i j, i < j → j < p → ρ i < ρ j
/-- A matrix with all its rows; entry (j, k) is F j k. -/
def Mat (ts ti : TypeId) (w : World) (G n m : Nat) (F : Nat → Nat → Int) : Prop :=
  ∃ ρ : Nat → Nat, w.rowIs G ts (n + 1) (fun j => .slice (some ⟨ρ j, 0, none⟩) (m + 1) (m + 1)) ∧ (∀ j, j ≤ n → G < ρ j ∧ w.rowIs (ρ j) ti (m + 1) (fun k => .int .i64 (F j k))) ∧ ∀ i j, i ≤ n → j ≤ n → i ≠ j → ρ i ≠ ρ j
/-- What a matrix is read for. -/
def MatR (w : World) (G n m : Nat) (C : Nat → Nat → Int) : Prop :=
  G < w.heap.size ∧ ∀ j, j ≤ n → ∃ r, r < w.heap.size ∧ w.cell? ⟨G, j, none⟩ = some (.slice (some ⟨r, 0, none⟩) (m + 1) (m + 1)) ∧ ∀ k, k ≤ m → w.cell? ⟨r, k, none⟩ = some (.int .i64 (C j k))
section
variable {ts ti : TypeId} {w w' : World} {G n m p : Nat} {F C : Nat → Nat → Int}
theorem MatR.later (h : MatR w G n m C) (hb : Below w.heap.size w w') : MatR w' G n m C := by
  obtain ⟨h1, h2⟩ := h
  have := hb.size
  refine ⟨by omega, fun j hj => ?_⟩
  obtain ⟨r, a, b, c⟩ := h2 j hj
  exact ⟨r, by omega, (hb.cell (p := ⟨G, j, none⟩) h1).trans b, fun k hk => (hb.cell (p := ⟨r, k, none⟩) a).trans (c k hk)⟩
theorem Mtx.toR (h : Mtx ts ti w G n m C 0) : MatR w G n m C := by
  obtain ⟨ρ, h1, h2⟩ := h
  refine ⟨h1.lt, fun j hj => ⟨ρ j, (h2 j (by omega) hj).2.lt, ?_, fun k hk => (h2 j (by omega) hj).2.cell (by omega)⟩⟩
  have := h1.cell (i := j) (by omega)
  rw [if_pos (by omega)] at this
  exact this
theorem Mat.toR (h : Mat ts ti w G n m F) (hF : ∀ j k, j ≤ n → k ≤ m → F j k = C j k) : MatR w G n m C := by
  obtain ⟨ρ, h1, h2, _⟩ := h
  exact ⟨h1.lt, fun j hj => ⟨ρ j, (h2 j hj).2.lt, h1.cell (by omega), fun k hk => by rw [(h2 j hj).2.cell (by omega), hF j k hj hk]⟩⟩
theorem MatP.lt (h : MatP ts ti w G n m p) : G < w.heap.size := by obtain ⟨ρ, h1, _⟩ := h; exact h1.lt
theorem MatP.frozen (h : MatP ts ti w G n m p) (j : Nat) : w.frozen? ⟨G, j, none⟩ = false := by obtain ⟨ρ, h1, _⟩ := h; exact h1.frozen j
theorem MatP.old (h : MatP ts ti w G n m p) {j : Nat} (hj : j ≤ n) : ∃ v, w.cell? ⟨G, j, none⟩ = some v := by obtain ⟨ρ, h1, _⟩ := h; exact ⟨_, h1.cell (by omega)⟩
theorem MatP.start : MatP ts ti (w.alloc (.cells (madeCells (Value.cells (.slice none 0 0)) (n + 1)) ts)) w.heap.size n m 0 :=
  ⟨fun _ => 0, (rowIs_made (Value.cells (.slice none 0 0)) (n + 1) _).congr fun j _ => by rw [if_neg (by omega)]; simp [Value.cells, Nat.mod_one], fun j h => by omega, fun i j _ h => by omega⟩
theorem MatP.add (h : MatP ts ti w G n m p) (hp : p ≤ n) : MatP ts ti ((w.setCell ⟨G, p, none⟩ (.slice (some ⟨w.heap.size, 0, none⟩) (m + 1) (m + 1))).alloc (.cells (madeCells (Value.cells (.int .i64 0)) (m + 1)) ti)) G n m (p + 1) := by
  obtain ⟨ρ, h1, h2, h3⟩ := h
  have hG := h1.lt
  refine ⟨fun j => if j = p then w.heap.size else ρ j, ((h1.set p _).alloc _).congr fun j _ => ?_, fun j hj => ?_, fun i j hi hj => ?_⟩
  · by_cases e : j = p
    · subst e; simp
    · rw [if_neg e]
      dsimp only
      rw [if_neg e]
      by_cases e2 : j < p
      · rw [if_pos e2, if_pos (by omega)]
      · rw [if_neg e2, if_neg (by omega)]
  · dsimp only
    by_cases e : j = p
    · subst e
      rw [if_pos rfl]
      have hz : (w.setCell ⟨G, j, none⟩ (.slice (some ⟨w.heap.size, 0, none⟩) (m + 1) (m + 1))).heap.size = w.heap.size := by simp [World.setCell]
      have h4 := rowIs_made (w := w.setCell ⟨G, j, none⟩ (.slice (some ⟨w.heap.size, 0, none⟩) (m + 1) (m + 1))) (Value.cells (.int .i64 0)) (m + 1) ti
      rw [hz] at h4
      exact ⟨hG, h4.congr fun j _ => by simp [Value.cells, Nat.mod_one]⟩
    · rw [if_neg e]
      obtain ⟨a1, a2⟩ := h2 j (by omega)
      exact ⟨a1, (a2.setOther (by simp; omega) _).alloc _⟩
  · dsimp only
    have hi' : i < p := by omega
    rw [if_neg (by omega)]
    by_cases e : j = p
    · rw [if_pos e]
      exact (h2 i hi').2.lt
    · rw [if_neg e]
      exact h3 i j hi (by omega)
theorem MatP.done (h : MatP ts ti w G n m (n + 1)) : Mat ts ti w G n m (fun _ _ => 0) := by
  obtain ⟨ρ, h1, h2, h3⟩ := h
  refine ⟨ρ, h1.congr fun j hj => if_pos (by omega), fun j hj => h2 j (by omega), fun i j hi hj hne => ?_⟩
  rcases Nat.lt_or_gt_of_ne hne with h | h
  · exact Nat.ne_of_lt (h3 i j h (by omega))
  · exact Nat.ne_of_gt (h3 j i h (by omega))
theorem Mat.later (h : Mat ts ti w G n m F) (hb : Below w.heap.size w w') : Mat ts ti w' G n m F := by
  obtain ⟨ρ, h1, h2, h3⟩ := h
  exact ⟨ρ, h1.of_block (hb.block _ h1.lt), fun j hj => ⟨(h2 j hj).1, (h2 j hj).2.of_block (hb.block _ (h2 j hj).2.lt)⟩, h3⟩
theorem Mat.lt (h : Mat ts ti w G n m F) : G < w.heap.size := by obtain ⟨ρ, h1, _⟩ := h; exact h1.lt
theorem Mat.row (h : Mat ts ti w G n m F) {j : Nat} (hj : j ≤ n) : ∃ r, w.cell? ⟨G, j, none⟩ = some (.slice (some ⟨r, 0, none⟩) (m + 1) (m + 1)) ∧ G < r ∧ r < w.heap.size ∧ (∀ k, k ≤ m → w.cell? ⟨r, k, none⟩ = some (.int .i64 (F j k))) ∧ ∀ k, w.frozen? ⟨r, k, none⟩ = false := by
  obtain ⟨ρ, h1, h2, h3⟩ := h
  exact ⟨ρ j, h1.cell (by omega), (h2 j hj).1, (h2 j hj).2.lt, fun k hk => (h2 j hj).2.cell (by omega), fun k => (h2 j hj).2.frozen k⟩
theorem Mat.set {r j k : Nat} {v : Int} (h : Mat ts ti w G n m F) (hr : w.cell? ⟨G, j, none⟩ = some (.slice (some ⟨r, 0, none⟩) (m + 1) (m + 1))) (hj : j ≤ n) :
    Mat ts ti (w.setCell ⟨r, k, none⟩ (.int .i64 v)) G n m (fun j' k' => if j' = j ∧ k' = k then v else F j' k') := by
  obtain ⟨ρ, h1, h2, h3⟩ := h
  have e := h1.cell (i := j) (by omega)
  rw [e] at hr
  simp only [Option.some.injEq, Value.slice.injEq, Addr.mk.injEq, and_true] at hr
  subst hr
  refine ⟨ρ, h1.setOther (by have := (h2 j hj).1; simp; omega) _, fun i hi => ⟨(h2 i hi).1, ?_⟩, h3⟩
  by_cases e : i = j
  · subst e
    refine ((h2 i hi).2.set k _).congr fun k' _ => ?_
    by_cases e2 : k' = k
    · simp [e2]
    · simp [e2]
  · have h4 := h3 i j hi hj e
    refine ((h2 i hi).2.setOther (by simp; omega) _).congr fun k' _ => ?_
    simp [e]
end

/-- All entries behind (p, q) are reckoned. -/
def MDone (C F : Nat → Nat → Int) (n m i q : Nat) : Prop := ∀ j k, j ≤ n → k ≤ m → (i < j ∨ (j = i ∧ q ≤ k)) → F j k = C j k
theorem MDone.step {C F : Nat → Nat → Int} {n m i k : Nat} {v : Int} (h : MDone C F n m i (k + 1)) (hv : v = C i k) : MDone C (fun j' k' => if j' = i ∧ k' = k then v else F j' k') n m i k := by
  intro j k' hj hk hor
  dsimp only
  by_cases e : j = i ∧ k' = k
  · rw [if_pos e, hv, e.1, e.2]
  · rw [if_neg e]
    exact h j k' hj hk (by omega)
theorem MDone.up {C F : Nat → Nat → Int} {n m i : Nat} (h : MDone C F n m (i + 1) 0) : MDone C F n m i (m + 1) := fun j k hj hk hor => h j k hj hk (by omega)
def step5 (k : Nat) : UInt8 := ([43, 45, 61, 120, 126] : List UInt8).getD k 0
def bytes5 : Array Value := #[.int .u8 43, .int .u8 45, .int .u8 61, .int .u8 120, .int .u8 126]
theorem bytes5_at (k : Nat) (h : k < 5) : bytes5[k]? = some (.int .u8 ((step5 k).toNat : Int)) := by
  match k, h with
  | 0, _ => rfl
  | 1, _ => rfl
  | 2, _ => rfl
  | 3, _ => rfl
  | 4, _ => rfl
theorem steps5_take (k : Nat) (h : k < 5) : steps5.take (k + 1) = steps5.take k ++ [step5 k] := by
  match k, h with
  | 0, _ => rfl
  | 1, _ => rfl
  | 2, _ => rfl
  | 3, _ => rfl
  | 4, _ => rfl
theorem step5_mem (k : Nat) (h : k < 5) : step5 k ∈ steps5 := by
  match k, h with
  | 0, _ => decide
  | 1, _ => decide
  | 2, _ => decide
  | 3, _ => decide
  | 4, _ => decide
/-- The least of the first j steps. -/
def lsJ (w t : List UInt8) (j : Nat) : Int := lst cst w t (steps5.take j) (-1)
theorem lsJ_zero (w t : List UInt8) : lsJ w t 0 = -1 := rfl
theorem lsJ_no {w t : List UInt8} {j : Nat} (hj : j < 5) (ho : stO w t (step5 j) = false) : lsJ w t (j + 1) = lsJ w t j := by
  unfold lsJ
  rw [steps5_take j hj, lst_snoc, cand, ho]
  rfl
theorem lsJ_yes {w t : List UInt8} {j d q e : Nat} {v c : Int} (hj : j < 5) (ho : stO w t (step5 j) = true) (hd : stD (step5 j) = d) (hq : stK (step5 j) = q) (he : stE (step5 j) = e) (hv : lsJ w t j = v) (hc : cst (w.drop d) (t.drop q) = c) :
    lsJ w t (j + 1) = if v < 0 ∨ c + e < v then c + e else v := by
  unfold lsJ at *
  rw [steps5_take j hj, lst_snoc, hv, cand, ho, hd, hq, he, hc]
  rfl
theorem lsJ_bd (w t : List UInt8) (j : Nat) : -1 ≤ lsJ w t j := (lst_le w t _ (-1) (by omega)).1
theorem lsJ_end (w t : List UInt8) : cst w t = max (lsJ w t 5) 0 := cst_step w t
theorem stE_le (c : UInt8) : stE c ≤ 1 := by unfold stE; split <;> omega
theorem stDK_pos {w t : List UInt8} {c : UInt8} (h : stO w t c = true) : 1 ≤ stD c + stK c := by
  rcases stC c with rfl | rfl | rfl | rfl | rfl | ⟨_, _, _, _, _, e1, e2, e3, e4⟩
  · decide
  · decide
  · decide
  · decide
  · decide
  · rw [e4] at h; cases h
end Go.Proofs.Ythgoofjojanakaa
