/- Contracts: bytes that the laws are handed. -/
import Derived.Test.YtgigdipbfcffiaaSr
import Derived.Test.YtgigdipbfcffiaaCp
import Derived.Test.YtgigdipbfcffiaaOpen
namespace Go.Proofs.Ytgigdipbfcffiaa
open Go.RowKit Go.BigFrame Go.ChangeShapes Go.WideShapes
attribute [local go_sem] sub_cell sub_frozen drewN_setCell

/-- Bytes that are handed in. -/
def InB (w : World) (A : Option Addr) (n : Nat) : Prop := Bys w A n ∧ n ≤ maxLen
theorem bytesIn_of {H : Type} {enc : TypeId × Value → H} {w : World} {spare : Nat → Bool} {held : Bool} {A : Option Addr} {n c : Nat} {d : DataW H} {p : List MemPlace}
    (h : DataW.Trod enc Try.prog w 0 spare held 22 (.slice A n c) d p) : InB w A n := by
  obtain ⟨fuel, hf⟩ := h
  simp only [Value.cells] at hf
  obtain ⟨l, hl, hw, hn⟩ := sl_of_trod (fun z : Int => [Value.int .u8 z]) 1 (by omega) (fun z => 0 ≤ z ∧ z ≤ 255) Try.underlying22 (by kernel_rfl) (fun _ => rfl) (fun fuel cs y hy => by
    obtain ⟨z, hz, _, wz⟩ := DataW.trod_int Try.underlying5 hy
    refine ⟨z, hz.symm, ?_⟩
    simp [Lit.wf] at wz
    have m1 : IntKind.u8.min = 0 := rfl
    have m2 : IntKind.u8.max = 255 := rfl
    omega) hf
  refine ⟨?_, hn⟩
  obtain ⟨h1, h2, h3⟩ := hl
  rcases Nat.eq_zero_or_pos n with h0 | h0
  · exact .inl h0
  · rcases h3.2 with h4 | ⟨b, o, e, hlt, hc⟩
    · omega
    · refine .inr ⟨b, o, e, hlt, fun k hk => ?_⟩
      have hk2 : k < l.length := by omega
      have h5 := hc k (.int .u8 l[k]) (by
        have h7 := flat_get (f := fun z : Int => [Value.int .u8 z]) (sz := 1) (fun _ => rfl) (List.getElem?_eq_getElem hk2) (j := 0) rfl
        simpa using h7)
      have h6 := hw l[k] (List.getElem_mem hk2)
      refine ⟨l[k].toNat, by omega, ?_⟩
      rw [show ((l[k].toNat : Nat) : Int) = l[k] by omega]
      exact h5
set_option maxHeartbeats 400000 in
theorem c_a2Long (A B : Option Addr) (n c m d : Nat) (r : Bool) (w : World) (h : (decide (3000 < n) || decide (3000 < m)) = r) :
    Calls Try.prog 6 #[.slice A n c, .slice B m d] w fun e w' => e = .returned (.bool r) ∧ w = w' := by
  subst h
  by_cases h1 : 3000 < n <;> by_cases h2 : 3000 < m
  all_goals
    have g1 : ((3000 : Int) < n) = (3000 < n) := by simp; omega
    have g2 : ((3000 : Int) < m) = (3000 < m) := by simp; omega
    go_enter Try.func6, Try.ntmps6
    go_wp2_with fail
    go_ret
    simp [*]
set_option maxHeartbeats 1000000 in
theorem c_a2At (A : Option Addr) (n c k : Nat) (N : Int) (w : World) (h : Bys w A n) (hN : 1 ≤ N) (hN2 : N ≤ 1000) (hn : n ≤ 3000) (hk : k ≤ 1000) :
    Calls Try.prog 8 #[.slice A n c, .int .i64 (k : Int), .int .i64 N] w fun e w' => ∃ x : Int, e = .returned (.int .i64 x) ∧ 0 ≤ x ∧ x < N ∧ w = w' := by
  by_cases hlt : k < n
  · rcases h with h0 | ⟨b, o, rfl, hb, hc⟩
    · omega
    obtain ⟨v, hv, hcv⟩ := hc k hlt
    have hm1 := Int.emod_nonneg (v : Int) (show N ≠ 0 by omega)
    have hm2 := Int.emod_lt_of_pos (v : Int) (show 0 < N by omega)
    have hne : (N == 0) = false := beq_eq_false_iff_ne.2 (by omega)
    have hI : (k : Int) < n := by omega
    have hI0 : (0 : Int) ≤ (k : Int) := by omega
    have hN1 : ¬ N < 1 := by omega
    have hI1 : ¬ (n : Int) ≤ k := by omega
    clear hc
    go_enter Try.func8, Try.ntmps8
    go_wp2_with fail
    go_returns
    exact ⟨_, rfl, hm1, hm2, rfl⟩
  · have hI : ¬ (k : Int) < n := by omega
    have hI1 : (n : Int) ≤ k := by omega
    go_enter Try.func8, Try.ntmps8
    go_wp2_with fail
    go_returns
    exact ⟨_, rfl, by omega, by omega, rfl⟩
end Go.Proofs.Ytgigdipbfcffiaa
