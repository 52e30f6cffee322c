/- Contracts: the matrix of the least errors (the reference). -/
import Derived.Test.YthgoofjojanakaaEr6
import Derived.Test.YthgoofjojanakaaI64
namespace Go.Proofs.Ythgoofjojanakaa
open Go.RowKit Go.BigFrame
attribute [local go_sem] sub_cell sub_frozen drewN_setCell

/-- A matrix in memory: the rows from p on. -/
def Mtx (ts ti : TypeId) (w : World) (G n m : Nat) (C : Nat → Nat → Int) (p : Nat) : Prop :=
  ∃ ρ : Nat → Nat, w.rowIs G ts (n + 1) (fun j => if p ≤ j then .slice (some ⟨ρ j, 0, none⟩) (m + 1) (m + 1) else .slice none 0 0) ∧ ∀ j, p ≤ j → j ≤ n → G < ρ j ∧ w.rowIs (ρ j) ti (m + 1) (fun k => .int .i64 (C j k))
section
variable {ts ti : TypeId} {w w' : World} {G n m p : Nat} {C : Nat → Nat → Int}
theorem Mtx.later (h : Mtx ts ti w G n m C p) (hb : Below w.heap.size w w') : Mtx ts ti w' G n m C p := by
  obtain ⟨ρ, h1, h2⟩ := h
  exact ⟨ρ, h1.of_block (hb.block _ h1.lt), fun j hj hn => ⟨(h2 j hj hn).1, (h2 j hj hn).2.of_block (hb.block _ (h2 j hj hn).2.lt)⟩⟩
theorem Mtx.lt (h : Mtx ts ti w G n m C p) : G < w.heap.size := by obtain ⟨ρ, h1, _⟩ := h; exact h1.lt
theorem Mtx.frozen (h : Mtx ts ti w G n m C p) (j : Nat) : w.frozen? ⟨G, j, none⟩ = false := by obtain ⟨ρ, h1, _⟩ := h; exact h1.frozen j
theorem Mtx.old (h : Mtx ts ti w G n m C p) {j : Nat} (hj : j ≤ n) : ∃ v, w.cell? ⟨G, j, none⟩ = some v := by obtain ⟨ρ, h1, _⟩ := h; exact ⟨_, h1.cell (by omega)⟩
theorem Mtx.row (h : Mtx ts ti w G n m C p) {j : Nat} (hp : p ≤ j) (hj : j ≤ n) : ∃ r, w.cell? ⟨G, j, none⟩ = some (.slice (some ⟨r, 0, none⟩) (m + 1) (m + 1)) ∧ ∀ k, k ≤ m → w.cell? ⟨r, k, none⟩ = some (.int .i64 (C j k)) := by
  obtain ⟨ρ, h1, h2⟩ := h
  refine ⟨ρ j, ?_, fun k hk => (h2 j hp hj).2.cell (by omega)⟩
  have := h1.cell (i := j) (by omega)
  rw [if_pos hp] at this
  exact this
theorem Mtx.add {R i : Nat} (h : Mtx ts ti w G n m C (i + 1)) (hb : Below w.heap.size w w') (hR : w'.rowIs R ti (m + 1) (fun k => .int .i64 (C i k))) (hRG : G < R) : Mtx ts ti (w'.setCell ⟨G, i, none⟩ (.slice (some ⟨R, 0, none⟩) (m + 1) (m + 1))) G n m C i := by
  obtain ⟨ρ, h1, h2⟩ := h.later hb
  refine ⟨fun j => if j = i then R else ρ j, (h1.set i _).congr fun j _ => ?_, fun j hj hn => ?_⟩
  · by_cases e : j = i
    · subst e; simp
    · rw [if_neg e]
      dsimp only
      rw [if_neg e]
      by_cases e2 : i ≤ j
      · rw [if_pos e2, if_pos (by omega)]
      · rw [if_neg e2, if_neg (by omega)]
  · dsimp only
    by_cases e : j = i
    · subst e
      rw [if_pos rfl]
      exact ⟨hRG, hR.setOther (by simp; omega) _⟩
    · rw [if_neg e]
      obtain ⟨a1, a2⟩ := h2 j (by omega) hn
      exact ⟨a1, a2.setOther (by simp; omega) _⟩
end
/-- One more entry of a row, from its end. -/
theorem row_add {w : World} {R m q : Nat} {ti : TypeId} {F : Nat → Int} (h : w.rowIs R ti (m + 1) (fun k => if q + 1 ≤ k then .int .i64 (F k) else .int .i64 0)) : (w.setCell ⟨R, q, none⟩ (.int .i64 (F q))).rowIs R ti (m + 1) (fun k => if q ≤ k then .int .i64 (F k) else .int .i64 0) := by
  refine (h.set q _).congr fun j _ => ?_
  by_cases e : j = q
  · subst e; simp
  · rw [if_neg e]
    by_cases e2 : q ≤ j
    · rw [if_pos e2, if_pos (by omega)]
    · rw [if_neg e2, if_neg (by omega)]
theorem row_done {w : World} {R m : Nat} {ti : TypeId} {F : Nat → Int} (h : w.rowIs R ti (m + 1) (fun k => if 0 ≤ k then .int .i64 (F k) else .int .i64 0)) : w.rowIs R ti (m + 1) (fun k => .int .i64 (F k)) := h.congr fun j _ => if_pos (by omega)

set_option maxHeartbeats 400000 in
theorem c_l00Min (a b : Int) (w : World) :
    Calls Try.prog 55 #[.int .i64 a, .int .i64 b] w fun e w' => e = .returned (.int .i64 (mn a b)) ∧ w = w' := by
  by_cases h : a < b
  · go_enter Try.func55, Try.ntmps55
    go_wp2_with fail
    go_returns
    exact ⟨by rw [mn, if_pos h]; rfl, rfl⟩
  · go_enter Try.func55, Try.ntmps55
    go_wp2_with fail
    go_returns
    exact ⟨by rw [mn, if_neg (by omega)]; rfl, rfl⟩

/-- The cost of the ends of two texts from i and k on. -/
def cC (W T : List UInt8) (i k : Nat) : Int := cst (W.drop i) (T.drop k)
theorem cC_bd (W T : List UInt8) (i k : Nat) (hW : W.length ≤ 60) (hT : T.length ≤ 60) : 0 ≤ cC W T i k ∧ cC W T i k ≤ 120 := by
  refine ⟨cst_nonneg _ _, Int.le_trans (cst_le _ _) ?_⟩
  simp only [List.length_drop]
  omega
theorem drop_at {l : List UInt8} {i : Nat} (h : i < l.length) : ∃ a, l.drop i = a :: l.drop (i + 1) ∧ ∀ (hh : i < (sb l).size), (sb l)[i]'hh = a := by
  refine ⟨l[i], by rw [List.drop_eq_getElem_cons h], fun hh => ?_⟩
  simp [sb, ByteArray.getElem_eq_getElem_data]
end Go.Proofs.Ythgoofjojanakaa
