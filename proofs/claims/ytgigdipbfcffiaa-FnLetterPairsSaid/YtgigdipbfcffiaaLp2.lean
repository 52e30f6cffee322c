/- Plain: tables of pairs and their sums; square tables in memory. -/
import Derived.Test.YtgigdipbfcffiaaIm
import Derived.Test.YtgigdipbfcffiaaZs
namespace Go.Proofs.Ytgigdipbfcffiaa
open Go.RowKit Go.BigFrame

/-- A table whose first p rows are made. -/
def MatP (ts ti : TypeId) (w : World) (G n m p : Nat) : Prop :=
  ∃ ρ : Nat → Nat, w.rowIs G ts n (fun j => if j < p then .slice (some ⟨ρ j, 0, none⟩) m m else .slice none 0 0) ∧ (∀ j, j < p → G < ρ j ∧ w.rowIs (ρ j) ti m (fun _ => .int .i64 0)) ∧ ∀ i j, i < j → j < p → ρ i < ρ j
/-- A table with all its rows; entry (j, k) is F j k. -/
def Mat (ts ti : TypeId) (w : World) (G n m : Nat) (F : Nat → Nat → Int) : Prop :=
  ∃ ρ : Nat → Nat, w.rowIs G ts n (fun j => .slice (some ⟨ρ j, 0, none⟩) m m) ∧ (∀ j, j < n → G < ρ j ∧ w.rowIs (ρ j) ti m (fun k => .int .i64 (F j k))) ∧ ∀ i j, i < n → j < n → i ≠ j → ρ i ≠ ρ j
section
variable {ts ti : TypeId} {w w' : World} {G n m p : Nat} {F C : Nat → Nat → Int}
theorem MatP.lt (h : MatP ts ti w G n m p) : G < w.heap.size := by obtain ⟨ρ, h1, _⟩ := h; exact h1.lt
theorem MatP.frozen (h : MatP ts ti w G n m p) (j : Nat) : w.frozen? ⟨G, j, none⟩ = false := by obtain ⟨ρ, h1, _⟩ := h; exact h1.frozen j
theorem MatP.old (h : MatP ts ti w G n m p) {j : Nat} (hj : j < n) : ∃ v, w.cell? ⟨G, j, none⟩ = some v := by obtain ⟨ρ, h1, _⟩ := h; exact ⟨_, h1.cell hj⟩
theorem MatP.start : MatP ts ti (w.alloc (.cells (madeCells (Value.cells (.slice none 0 0)) n) ts)) w.heap.size n m 0 :=
  ⟨fun _ => 0, (rowIs_made (Value.cells (.slice none 0 0)) n _).congr fun j _ => by rw [if_neg (by omega)]; simp [Value.cells, Nat.mod_one], fun j h => by omega, fun i j _ h => by omega⟩
theorem MatP.later (h : MatP ts ti w G n m p) (hb : Below w.heap.size w w') : MatP ts ti w' G n m p := by
  obtain ⟨ρ, h1, h2, h3⟩ := h
  exact ⟨ρ, h1.of_block (hb.block _ h1.lt), fun j hj => ⟨(h2 j hj).1, (h2 j hj).2.of_block (hb.block _ (h2 j hj).2.lt)⟩, h3⟩
theorem MatP.add (h : MatP ts ti w G n m p) : MatP ts ti ((w.setCell ⟨G, p, none⟩ (.slice (some ⟨w.heap.size, 0, none⟩) m m)).alloc (.cells (madeCells (Value.cells (.int .i64 0)) m) ti)) G n m (p + 1) := by
  obtain ⟨ρ, h1, h2, h3⟩ := h
  have hG := h1.lt
  refine ⟨fun j => if j = p then w.heap.size else ρ j, ((h1.set p _).alloc _).congr fun j _ => ?_, fun j hj => ?_, fun i j hi hj => ?_⟩
  · by_cases e : j = p
    · subst e; simp
    · rw [if_neg e]
      dsimp only
      rw [if_neg e]
      by_cases e2 : j < p
      · rw [if_pos e2, if_pos (by omega)]
      · rw [if_neg e2, if_neg (by omega)]
  · dsimp only
    by_cases e : j = p
    · subst e
      rw [if_pos rfl]
      have hz : (w.setCell ⟨G, j, none⟩ (.slice (some ⟨w.heap.size, 0, none⟩) m m)).heap.size = w.heap.size := by simp [World.setCell]
      have h4 := rowIs_made (w := w.setCell ⟨G, j, none⟩ (.slice (some ⟨w.heap.size, 0, none⟩) m m)) (Value.cells (.int .i64 0)) m ti
      rw [hz] at h4
      exact ⟨hG, h4.congr fun j _ => by simp [Value.cells, Nat.mod_one]⟩
    · rw [if_neg e]
      obtain ⟨a1, a2⟩ := h2 j (by omega)
      exact ⟨a1, (a2.setOther (by simp; omega) _).alloc _⟩
  · dsimp only
    have hi' : i < p := by omega
    rw [if_neg (by omega)]
    by_cases e : j = p
    · rw [if_pos e]
      exact (h2 i hi').2.lt
    · rw [if_neg e]
      exact h3 i j hi (by omega)
theorem MatP.done (h : MatP ts ti w G n m n) : Mat ts ti w G n m (fun _ _ => 0) := by
  obtain ⟨ρ, h1, h2, h3⟩ := h
  refine ⟨ρ, h1.congr fun j hj => if_pos hj, fun j hj => h2 j hj, fun i j hi hj hne => ?_⟩
  rcases Nat.lt_or_gt_of_ne hne with h | h
  · exact Nat.ne_of_lt (h3 i j h hj)
  · exact Nat.ne_of_gt (h3 j i h hi)
theorem Mat.later (h : Mat ts ti w G n m F) (hb : Below w.heap.size w w') : Mat ts ti w' G n m F := by
  obtain ⟨ρ, h1, h2, h3⟩ := h
  exact ⟨ρ, h1.of_block (hb.block _ h1.lt), fun j hj => ⟨(h2 j hj).1, (h2 j hj).2.of_block (hb.block _ (h2 j hj).2.lt)⟩, h3⟩
theorem Mat.lt (h : Mat ts ti w G n m F) : G < w.heap.size := by obtain ⟨ρ, h1, _⟩ := h; exact h1.lt
theorem Mat.row (h : Mat ts ti w G n m F) {j : Nat} (hj : j < n) : ∃ r, w.cell? ⟨G, j, none⟩ = some (.slice (some ⟨r, 0, none⟩) m m) ∧ G < r ∧ r < w.heap.size ∧ (∀ k, k < m → w.cell? ⟨r, k, none⟩ = some (.int .i64 (F j k))) ∧ ∀ k, w.frozen? ⟨r, k, none⟩ = false := by
  obtain ⟨ρ, h1, h2, h3⟩ := h
  exact ⟨ρ j, h1.cell hj, (h2 j hj).1, (h2 j hj).2.lt, fun k hk => (h2 j hj).2.cell hk, fun k => (h2 j hj).2.frozen k⟩
theorem Mat.set {r j k : Nat} {v : Int} (h : Mat ts ti w G n m F) (hr : w.cell? ⟨G, j, none⟩ = some (.slice (some ⟨r, 0, none⟩) m m)) (hj : j < n) :
    Mat ts ti (w.setCell ⟨r, k, none⟩ (.int .i64 v)) G n m (fun j' k' => if j' = j ∧ k' = k then v else F j' k') := by
  obtain ⟨ρ, h1, h2, h3⟩ := h
  have e := h1.cell (i := j) hj
  rw [e] at hr
  simp only [Option.some.injEq, Value.slice.injEq, Addr.mk.injEq, and_true] at hr
  subst hr
  refine ⟨ρ, h1.setOther (by have := (h2 j hj).1; simp; omega) _, fun i hi => ⟨(h2 i hi).1, ?_⟩, h3⟩
  by_cases e : i = j
  · subst e
    refine ((h2 i hi).2.set k _).congr fun k' _ => ?_
    by_cases e2 : k' = k
    · simp [e2]
    · simp [e2]
  · have h4 := h3 i j hi hj e
    refine ((h2 i hi).2.setOther (by simp; omega) _).congr fun k' _ => ?_
    simp [e]
end

/-- The table of the first k neighbours. -/
def pF (S T : List UInt8) : Nat → Nat → Nat → Int
  | 0 => fun _ _ => 0
  | k + 1 => match T[k]?, T[k + 1]? with
    | some a, some b => if a ∈ S ∧ b ∈ S then (fun i j => if i = posR S a ∧ j = posR S b then pF S T k (posR S a) (posR S b) + 1 else pF S T k i j) else pF S T k
    | _, _ => pF S T k
section
variable {S T : List UInt8} {k : Nat} {a b : UInt8}
theorem pF_hit (ha : T[k]? = some a) (hb : T[k + 1]? = some b) (h1 : a ∈ S) (h2 : b ∈ S) : pF S T (k + 1) = fun i j => if i = posR S a ∧ j = posR S b then pF S T k (posR S a) (posR S b) + 1 else pF S T k i j := by
  simp [pF, ha, hb, h1, h2]
theorem pF_miss (ha : T[k]? = some a) (hb : T[k + 1]? = some b) (h : ¬ (a ∈ S ∧ b ∈ S)) : pF S T (k + 1) = pF S T k := by
  simp only [pF, ha, hb, if_neg h]
theorem pF_bd (S T : List UInt8) : ∀ k i j, 0 ≤ pF S T k i j ∧ pF S T k i j ≤ k := by
  intro k
  induction k with
  | zero => intro i j; simp [pF]
  | succ k ih =>
    intro i j
    have h0 := ih i j
    simp only [pF]
    cases T[k]? with
    | none => dsimp only; omega
    | some a =>
      cases T[k + 1]? with
      | none => dsimp only; omega
      | some b =>
        dsimp only
        by_cases h : a ∈ S ∧ b ∈ S
        · rw [if_pos h]
          have h1 := ih (posR S a) (posR S b)
          split <;> omega
        · rw [if_neg h]
          omega
/-- The sum of a row, of the table. -/
def row4 (F : Nat → Nat → Int) (i : Nat) : Int := F i 0 + F i 1 + F i 2 + F i 3
def sum4 (F : Nat → Nat → Int) : Int := row4 F 0 + row4 F 1 + row4 F 2 + row4 F 3
theorem sum4_hit (F : Nat → Nat → Int) {p q : Nat} (hp : p < 4) (hq : q < 4) : sum4 (fun i j => if i = p ∧ j = q then F p q + 1 else F i j) = sum4 F + 1 := by
  have hp' : p = 0 ∨ p = 1 ∨ p = 2 ∨ p = 3 := by omega
  have hq' : q = 0 ∨ q = 1 ∨ q = 2 ∨ q = 3 := by omega
  rcases hp' with rfl | rfl | rfl | rfl <;> rcases hq' with rfl | rfl | rfl | rfl <;> simp [sum4, row4] <;> omega
/-- How many of the first k neighbours are no byte e. -/
def cntW (T : List UInt8) (e : UInt8) : Nat → Int
  | 0 => 0
  | k + 1 => match T[k]?, T[k + 1]? with
    | some a, some b => if b ≠ e ∧ a ≠ e then cntW T e k + 1 else cntW T e k
    | _, _ => cntW T e k
theorem cntW_hit {e : UInt8} (ha : T[k]? = some a) (hb : T[k + 1]? = some b) (h1 : b ≠ e) (h2 : a ≠ e) : cntW T e (k + 1) = cntW T e k + 1 := by simp [cntW, ha, hb, h1, h2]
theorem cntW_miss {e : UInt8} (ha : T[k]? = some a) (hb : T[k + 1]? = some b) (h : ¬ (b ≠ e ∧ a ≠ e)) : cntW T e (k + 1) = cntW T e k := by
  simp only [cntW, ha, hb, if_neg h]
theorem cntW_bd (T : List UInt8) (e : UInt8) (k : Nat) : 0 ≤ cntW T e k ∧ cntW T e k ≤ k := by
  induction k with
  | zero => simp [cntW]
  | succ k ih =>
    rw [cntW]
    split
    · split <;> omega
    · omega
theorem sum_cnt {e : UInt8} (h4 : S.length = 4) (hS : ∀ c ∈ T, (c ∈ S ↔ c ≠ e)) : ∀ k, k + 1 ≤ T.length ∨ k = 0 → sum4 (pF S T k) = cntW T e k := by
  intro k
  induction k with
  | zero => intro _; rfl
  | succ k ih =>
    intro hk
    have hk2 : k + 1 < T.length := by omega
    have ha := List.getElem?_eq_getElem (show k < T.length by omega)
    have hb := List.getElem?_eq_getElem hk2
    have h1 := hS _ (List.getElem_mem (show k < T.length by omega))
    have h2 := hS _ (List.getElem_mem hk2)
    have ih' := ih (by omega)
    by_cases h : T[k] ∈ S ∧ T[k + 1] ∈ S
    · rw [pF_hit ha hb h.1 h.2, cntW_hit ha hb (h2.1 h.2) (h1.1 h.1), sum4_hit _ (by have := posR_lt h.1; omega) (by have := posR_lt h.2; omega), ih']
    · rw [pF_miss ha hb h, cntW_miss ha hb (fun hc => h ⟨h1.2 hc.2, h2.2 hc.1⟩), ih']
end
end Go.Proofs.Ytgigdipbfcffiaa
