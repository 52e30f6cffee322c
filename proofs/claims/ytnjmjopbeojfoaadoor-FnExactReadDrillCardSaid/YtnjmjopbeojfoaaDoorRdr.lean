/- A drill read from a text: the reference and the program agree. Plain. -/
import Derived.Test.YtnjmjopbeojfoaaDoorNum
import Derived.Test.YtnjmjopbeojfoaaDoorSpc
import Derived.Test.YtnjmjopbeojfoaaDoorDt
namespace Go.Proofs.YtnjmjopbeojfoaaDoor
open Go.RowKit

theorem splL_le {c : UInt8} : ∀ {l p : List UInt8}, p ∈ splL c l → p.length ≤ l.length := by
  intro l
  induction l with
  | nil => intro p hp; simp [splL] at hp; subst hp; simp
  | cons x l ih =>
    intro p hp
    simp only [splL] at hp
    split at hp
    · rcases List.mem_cons.1 hp with rfl | hp
      · simp
      · have := ih hp; simp; omega
    · cases hs : splL c l with
      | nil => exact absurd hs (splL_ne c l)
      | cons a r =>
        rw [hs] at hp
        rcases List.mem_cons.1 hp with rfl | hp
        · have := ih (p := a) (by rw [hs]; exact List.mem_cons_self ..)
          simp; exact this
        · have := ih (p := p) (by rw [hs]; exact List.mem_cons_of_mem _ hp)
          simp; omega
theorem wrdL_le {l p : List UInt8} (h : p ∈ wrdL l) : p.length ≤ l.length := splL_le (List.mem_filter.1 h).1
theorem numV_some {l : List UInt8} {n : Int} (h : numV l = some n) : Lib.itoa n = l ∧ l ≠ [] := by
  unfold numV at h
  split at h
  · rename_i h1
    split at h
    · rename_i h2
      simp only [Option.some.injEq] at h
      rw [← h]
      refine ⟨h2, fun e => ?_⟩
      rw [e] at h1
      simp [numD] at h1
    · cases h
  · cases h
theorem numV_bd {l : List UInt8} {n : Int} (h : numV l = some n) : -1000000000000000000 < n ∧ n < 1000000000000000000 := by
  unfold numV at h
  split at h
  · rename_i h1
    have hv := valD_18 h1.2.2 h1.2.1
    split at h
    · simp only [Option.some.injEq] at h
      rw [← h, numN]
      split <;> omega
    · cases h
  · cases h
/-- What a text says. -/
def rdV (l : List UInt8) : Option (ByteArray × ByteArray × Int) := match splL 32 l with
  | [a, b, c] => (numV c).bind fun n => if okDr (sb a, sb b, n) then some (sb a, sb b, n) else none
  | _ => none
/-- What the program finds. -/
def rdI (s : ByteArray) : Option (ByteArray × ByteArray × Int) := match wrdL (bl s) with
  | [a, b, c] => (numV c).bind fun n => if dtV (sb a) (sb b) n = s ∧ s.size ≠ 0 then some (sb a, sb b, n) else none
  | _ => none
theorem dtA_sb (a b : List UInt8) (n : Int) : dtA (sb a) (sb b) n = sb (a ++ 32 :: (b ++ 32 :: Lib.itoa n)) := by
  unfold dtA
  rw [show (⟨#[32]⟩ : ByteArray) = sb [32] from rfl, sb_apd, sb_apd, sb_apd, sb_apd]
  simp
theorem rdV_of {l a b c : List UInt8} {n : Int} (h : splL 32 l = [a, b, c]) (hn : numV c = some n) (ho : okDr (sb a, sb b, n) = true) : rdV l = some (sb a, sb b, n) := by
  simp [rdV, h, hn, ho]
theorem rdI_of {s : ByteArray} {a b c : List UInt8} {n : Int} (h : wrdL (bl s) = [a, b, c]) (hn : numV c = some n) (ho : dtV (sb a) (sb b) n = s) (h0 : s.size ≠ 0) : rdI s = some (sb a, sb b, n) := by
  simp only [rdI, h, hn, Option.bind_some]
  rw [if_pos ⟨ho, h0⟩]
theorem rdV_some {l : List UInt8} {x : ByteArray × ByteArray × Int} (h : rdV l = some x) : ∃ a b c n, splL 32 l = [a, b, c] ∧ numV c = some n ∧ okDr (sb a, sb b, n) = true ∧ x = (sb a, sb b, n) := by
  unfold rdV at h
  split at h
  · rename_i a b c hs
    obtain ⟨n, hn, h⟩ := Option.bind_eq_some_iff.1 h
    split at h
    · rename_i ho
      exact ⟨a, b, c, n, hs, hn, ho, (Option.some.inj h).symm⟩
    · cases h
  · cases h
theorem rdI_some {s : ByteArray} {x : ByteArray × ByteArray × Int} (h : rdI s = some x) : ∃ a b c n, wrdL (bl s) = [a, b, c] ∧ numV c = some n ∧ dtV (sb a) (sb b) n = s ∧ s.size ≠ 0 ∧ x = (sb a, sb b, n) := by
  unfold rdI at h
  split at h
  · rename_i a b c hs
    obtain ⟨n, hn, h⟩ := Option.bind_eq_some_iff.1 h
    split at h
    · rename_i ho
      exact ⟨a, b, c, n, hs, hn, ho.1, ho.2, (Option.some.inj h).symm⟩
    · cases h
  · cases h
theorem rd_to {s : ByteArray} {x : ByteArray × ByteArray × Int} (h : rdV (bl s) = some x) : rdI s = some x := by
  obtain ⟨a, b, c, n, hs, hn, ho, rfl⟩ := rdV_some h
  obtain ⟨hc, hc0⟩ := numV_some hn
  have hl := spl_three hs
  have ha : a ≠ [] := by
    intro e
    simp only [okDr, Bool.and_eq_true] at ho
    have := ho.2.1
    rw [e] at this
    simp [nameB, bl_sb] at this
  have hb : b ≠ [] := by
    intro e
    simp only [okDr, Bool.and_eq_true, decide_eq_true_eq] at ho
    have := ho.2.2.2.1
    rw [e, sb_size] at this
    simp at this
  refine rdI_of (wrd_of_spl hs ha hb hc0) hn ?_ ?_
  · rw [dtV, if_pos ho, dtA_sb, hc, ← hl, sb_bl]
  · rw [← bl_len, hl]; simp
theorem rd_from {s : ByteArray} {x : ByteArray × ByteArray × Int} (h : rdI s = some x) : rdV (bl s) = some x := by
  obtain ⟨a, b, c, n, hs, hn, hd, h0, rfl⟩ := rdI_some h
  obtain ⟨hc, hc0⟩ := numV_some hn
  have ho : okDr (sb a, sb b, n) = true := by
    cases ho : okDr (sb a, sb b, n)
    · rw [dtV, ho] at hd
      rw [← hd] at h0
      exact absurd rfl h0
    · rfl
  rw [dtV, if_pos ho, dtA_sb, hc] at hd
  have hl : bl s = a ++ 32 :: (b ++ 32 :: c) := by rw [← hd, bl_sb]
  refine rdV_of ?_ hn ho
  rw [hl]
  exact spl_mk (wrd_no (l := bl s) (by rw [hs]; simp)) (wrd_no (l := bl s) (by rw [hs]; simp)) (wrd_no (l := bl s) (by rw [hs]; simp))
theorem rd_eq (s : ByteArray) : rdI s = rdV (bl s) := by
  cases h : rdI s with
  | some x => exact (rd_from h).symm
  | none =>
    cases h2 : rdV (bl s) with
    | none => rfl
    | some y => rw [rd_to h2] at h; cases h
/-- The drill and whether there is one. -/
def rdT (o : Option (ByteArray × ByteArray × Int)) : Value := match o with
  | some (a, b, n) => .tuple #[.agg #[.string a, .string b, .int .i64 n], .bool true]
  | none => .tuple #[.agg #[.string ⟨#[]⟩, .string ⟨#[]⟩, .int .i64 0], .bool false]
end Go.Proofs.YtnjmjopbeojfoaaDoor
