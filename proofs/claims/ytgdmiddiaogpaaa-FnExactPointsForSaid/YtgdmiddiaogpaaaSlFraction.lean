/- Slices of Fraction: mirrors, comparison, marks. -/
import Derived.Test.YtgdmiddiaogpaaaMem
import Derived.Test.YtgdmiddiaogpaaaOpen
import Derived.Test.YtgdmiddiaogpaaaGc
namespace Go.Proofs.Ytgdmiddiaogpaaa
open Go.RowKit Go.BigFrame
attribute [local go_sem] sub_cell sub_frozen drewN_setCell

abbrev TFraction := Int × Int
/-- The cells of a Fraction. -/
def fractionC (x : TFraction) : List Value := [.int .i64 x.1, .int .i64 x.2]
theorem fractionC_len (x : TFraction) : (fractionC x).length = 2 := rfl
def fractionW (x : TFraction) : Nat := 0

/-- In a later world wr: the cells of element k. -/
theorem fraction_at {w wr : World} {A : Option Addr} {n k : Nat} {l : List TFraction} (h : Sl fractionC w w.heap.size 2 A n l) (hb : Below w.heap.size w wr) (hk : k < n) :
    ∃ b o u0 u1, A = some ⟨b, o, none⟩ ∧ b < wr.heap.size ∧ b < w.heap.size ∧ l[k]? = some (u0, u1) ∧ wr.cell? ⟨b, o + k * 2, none⟩ = some (.int .i64 u0) ∧ wr.cell? ⟨b, o + k * 2 + 1, none⟩ = some (.int .i64 u1) := by
  obtain ⟨b, o, ⟨u0, u1⟩, hA, hlt, hx, hc⟩ := h.at_ hk
  have := hb.size
  refine ⟨b, o, u0, u1, hA, by omega, hlt, hx, ?_, ?_⟩
  · exact (hb.cell (p := ⟨b, o + k * 2, none⟩) hlt).trans (hc 0 _ rfl)
  · exact (hb.cell (p := ⟨b, o + k * 2 + 1, none⟩) hlt).trans (hc 1 _ rfl)

/-- .. where the slice's place is known. -/
theorem fraction_atB {w wr : World} {b o n k : Nat} {l : List TFraction} (h : Sl fractionC w w.heap.size 2 (some ⟨b, o, none⟩) n l) (hb : Below w.heap.size w wr) (hk : k < n) :
    ∃ u0 u1, b < wr.heap.size ∧ b < w.heap.size ∧ l[k]? = some (u0, u1) ∧ wr.cell? ⟨b, o + k * 2, none⟩ = some (.int .i64 u0) ∧ wr.cell? ⟨b, o + k * 2 + 1, none⟩ = some (.int .i64 u1) := by
  obtain ⟨b', o', u0, u1, hA, r⟩ := fraction_at h hb hk
  simp only [Option.some.injEq, Addr.mk.injEq, and_true] at hA
  obtain ⟨rfl, rfl⟩ := hA
  exact ⟨u0, u1, r⟩





set_option maxHeartbeats 1000000 in
theorem c_eqFractionS (A B : Option Addr) (n c d : Nat) (l : List TFraction) (w : World) (ha : Sl fractionC w w.heap.size 2 A n l) (hb : Sl fractionC w w.heap.size 2 B n l) (hn : n ≤ 4611686018427387904) :
    Calls Try.prog 50 #[.slice A n c, .slice B n d] w fun r w' => r = .returned (.bool true) ∧ Below w.heap.size w w' := by
  go_enter Try.func50, Try.ntmps50
  go_wp2_with fail
  go_loopw [5] (fun i wr => ∃ k : Nat, k ≤ n ∧ i = .int .i64 k ∧ Below w.heap.size w wr) (fun i _ => n - (intOf i).toNat)
  case atStart => exact ⟨0, Nat.zero_le _, rfl, Below.refl _ _⟩
  case round =>
    obtain ⟨k, hk, rfl, hB⟩ := hrel
    by_cases hlt : k < n
    · obtain ⟨b, o, u0, u1, rfl, hb1, hb2, hx, c0, c1⟩ := fraction_at ha hB hlt
      obtain ⟨b', o', u0', u1', rfl, hb1', hb2', hx', c0', c1'⟩ := fraction_at hb hB hlt
      rw [hx] at hx'
      simp only [Option.some.injEq, Prod.mk.injEq] at hx'
      obtain ⟨rfl, rfl⟩ := hx'
      have hz := hB.size
      clear ha hb hx
      go_wp2_with fail
      refine wp_region_below (by kernel_rfl) (by kernel_rfl) ?_
      repeat (go_big_quiet_step ((go_at_call 78; refine qBg (c_eqFraction _ _ _) (by simp) ?_; intro w_ h_; (first | exact h_ | exact h_.below))))
      refine wpQuiet_nil ?_
      intro _ hw'
      obtain ⟨⟨w9, hb9⟩, hw''⟩ := hw'
      subst hw''
      have hB1 := hB.trans (hb9.mono hz)
      go_wp2_with fail
      go_roundw
      case rel => exact ⟨k + 1, by omega, by go_num, hB1⟩
      case measure => simp [intOf]; omega
    · go_wp2_with fail
      go_ret
      exact ⟨rfl, hB⟩

theorem info_Fraction : (Try.prog.info? 96).map (fun i => (i.zero, i.size, i.bytes)) = some (some (.agg #[.int .i64 0, .int .i64 0]), 2, 16) := by kernel_rfl

/-- Row g is filled up to element k. -/
theorem fraction_fill {w : World} {g : Nat} {e : TypeId} {m k : Nat} {z : Nat → Value} {l : List TFraction} {u0 u1} (hx : l[k]? = some (u0, u1))
    (h : w.rowIs g e m (fun i => if i < k * 2 then (flat fractionC l)[i]?.getD undef else z i)) :
    (((w.setCell ⟨g, k * 2, none⟩ (.int .i64 u0)).setCell ⟨g, k * 2 + 1, none⟩ (.int .i64 u1))).rowIs g e m (fun i => if i < (k + 1) * 2 then (flat fractionC l)[i]?.getD undef else z i) := by
  have e0 := flat_get (f := fractionC) fractionC_len (j := 0) hx rfl
  have e1 := flat_get (f := fractionC) fractionC_len (j := 1) hx rfl
  refine ((h.set _ _).set _ _).congr fun i _ => ?_
  by_cases h1 : i = k * 2 + 1
  · subst h1; rw [if_pos rfl, if_pos (by omega), e1]; rfl
  rw [if_neg h1]
  by_cases h0 : i = k * 2
  · subst h0; rw [if_pos rfl, if_pos (by omega), show (flat fractionC l)[k * 2]? = _ from e0]; rfl
  rw [if_neg h0]
  by_cases hk : i < k * 2
  · rw [if_pos hk, if_pos (by omega)]
  · rw [if_neg hk, if_neg (by omega)]


open Go.ChangeShapes Go.WideShapes Go.Deep
def InFraction (w : World) (A : Option Addr) (n : Nat) (l : List TFraction) : Prop :=
  Sl fractionC w w.heap.size 2 A n l ∧ (∀ x ∈ l, wf64 x.1 ∧ wf64 x.2) ∧ n ≤ maxLen
/-- What marks a Fraction that is element i of a row, counted from k0 on. -/
def fractionM (k0 : Nat) (i : Nat) : TFraction := (((k0 + i * 2 + 0 : Nat) : Int), ((k0 + i * 2 + 1 : Nat) : Int))
def fractionMs (k0 n : Nat) : List TFraction := (List.range n).map (fractionM k0)
theorem fractionMs_len (k0 n : Nat) : (fractionMs k0 n).length = n := by simp [fractionMs]
theorem fractionMs_get {k0 n i : Nat} {x : TFraction} (h : (fractionMs k0 n)[i]? = some x) : x = fractionM k0 i := by
  simp only [fractionMs, List.getElem?_map, Option.map_eq_some_iff] at h
  obtain ⟨j, hj, rfl⟩ := h
  rcases Nat.lt_or_ge i n with h | h
  · rw [List.getElem?_range h] at hj
    simp only [Option.some.injEq] at hj
    rw [hj]
  · rw [List.getElem?_eq_none (by simpa using h)] at hj
    cases hj
theorem fractionMs_at {k0 n i : Nat} (h : i < n) : (fractionMs k0 n)[i]? = some (fractionM k0 i) := by simp [fractionMs, h]

end Go.Proofs.Ytgdmiddiaogpaaa
