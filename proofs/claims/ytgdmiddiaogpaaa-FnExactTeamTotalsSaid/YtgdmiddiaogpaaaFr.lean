/- Slices of Fraction: mirrors, comparison, marks. -/
import Derived.Test.YtgdmiddiaogpaaaMem
import Derived.Test.YtgdmiddiaogpaaaOpen
import Derived.Test.YtgdmiddiaogpaaaGc
import Derived.Test.YtgdmiddiaogpaaaMk
import Derived.Test.YtgdmiddiaogpaaaLo
import Derived.Test.YtgdmiddiaogpaaaRw
namespace Go.Proofs.Ytgdmiddiaogpaaa
open Go.RowKit Go.BigFrame
attribute [local go_sem] sub_cell sub_frozen drewN_setCell

abbrev TFraction := Int × Int
/-- The cells of a Fraction. -/
def fractionC (x : TFraction) : List Value := [.int .i64 x.1, .int .i64 x.2]
theorem fractionC_len (x : TFraction) : (fractionC x).length = 2 := rfl
def fractionW (x : TFraction) : Nat := 0

/-- In a later world wr: the cells of element k. -/
theorem fraction_at {w wr : World} {A : Option Addr} {n k : Nat} {l : List TFraction} (h : Sl fractionC w w.heap.size 2 A n l) (hb : Below w.heap.size w wr) (hk : k < n) :
    ∃ b o u0 u1, A = some ⟨b, o, none⟩ ∧ b < wr.heap.size ∧ b < w.heap.size ∧ l[k]? = some (u0, u1) ∧ wr.cell? ⟨b, o + k * 2, none⟩ = some (.int .i64 u0) ∧ wr.cell? ⟨b, o + k * 2 + 1, none⟩ = some (.int .i64 u1) := by
  obtain ⟨b, o, ⟨u0, u1⟩, hA, hlt, hx, hc⟩ := h.at_ hk
  have := hb.size
  refine ⟨b, o, u0, u1, hA, by omega, hlt, hx, ?_, ?_⟩
  · exact (hb.cell (p := ⟨b, o + k * 2, none⟩) hlt).trans (hc 0 _ rfl)
  · exact (hb.cell (p := ⟨b, o + k * 2 + 1, none⟩) hlt).trans (hc 1 _ rfl)

/-- .. where the slice's place is known. -/
theorem fraction_atB {w wr : World} {b o n k : Nat} {l : List TFraction} (h : Sl fractionC w w.heap.size 2 (some ⟨b, o, none⟩) n l) (hb : Below w.heap.size w wr) (hk : k < n) :
    ∃ u0 u1, b < wr.heap.size ∧ b < w.heap.size ∧ l[k]? = some (u0, u1) ∧ wr.cell? ⟨b, o + k * 2, none⟩ = some (.int .i64 u0) ∧ wr.cell? ⟨b, o + k * 2 + 1, none⟩ = some (.int .i64 u1) := by
  obtain ⟨b', o', u0, u1, hA, r⟩ := fraction_at h hb hk
  simp only [Option.some.injEq, Addr.mk.injEq, and_true] at hA
  obtain ⟨rfl, rfl⟩ := hA
  exact ⟨u0, u1, r⟩





set_option maxHeartbeats 1000000 in
theorem c_eqFractionS (A B : Option Addr) (n c d : Nat) (l : List TFraction) (w : World) (ha : Sl fractionC w w.heap.size 2 A n l) (hb : Sl fractionC w w.heap.size 2 B n l) (hn : n ≤ 4611686018427387904) :
    Calls Try.prog 50 #[.slice A n c, .slice B n d] w fun r w' => r = .returned (.bool true) ∧ Below w.heap.size w w' := by
  go_enter Try.func50, Try.ntmps50
  go_wp2_with fail
  go_loopw [5] (fun i wr => ∃ k : Nat, k ≤ n ∧ i = .int .i64 k ∧ Below w.heap.size w wr) (fun i _ => n - (intOf i).toNat)
  case atStart => exact ⟨0, Nat.zero_le _, rfl, Below.refl _ _⟩
  case round =>
    obtain ⟨k, hk, rfl, hB⟩ := hrel
    by_cases hlt : k < n
    · obtain ⟨b, o, u0, u1, rfl, hb1, hb2, hx, c0, c1⟩ := fraction_at ha hB hlt
      obtain ⟨b', o', u0', u1', rfl, hb1', hb2', hx', c0', c1'⟩ := fraction_at hb hB hlt
      rw [hx] at hx'
      simp only [Option.some.injEq, Prod.mk.injEq] at hx'
      obtain ⟨rfl, rfl⟩ := hx'
      have hz := hB.size
      clear ha hb hx
      go_wp2_with fail
      refine wp_region_below (by kernel_rfl) (by kernel_rfl) ?_
      repeat (go_big_quiet_step ((go_at_call 78; refine qBg (c_eqFraction _ _ _) (by simp) ?_; intro w_ h_; (first | exact h_ | exact h_.below))))
      refine wpQuiet_nil ?_
      intro _ hw'
      obtain ⟨⟨w9, hb9⟩, hw''⟩ := hw'
      subst hw''
      have hB1 := hB.trans (hb9.mono hz)
      go_wp2_with fail
      go_roundw
      case rel => exact ⟨k + 1, by omega, by go_num, hB1⟩
      case measure => simp [intOf]; omega
    · go_wp2_with fail
      go_ret
      exact ⟨rfl, hB⟩

theorem info_Fraction : (Try.prog.info? 96).map (fun i => (i.zero, i.size, i.bytes)) = some (some (.agg #[.int .i64 0, .int .i64 0]), 2, 16) := by kernel_rfl

/-- Row g is filled up to element k. -/
theorem fraction_fill {w : World} {g : Nat} {e : TypeId} {m k : Nat} {z : Nat → Value} {l : List TFraction} {u0 u1} (hx : l[k]? = some (u0, u1))
    (h : w.rowIs g e m (fun i => if i < k * 2 then (flat fractionC l)[i]?.getD undef else z i)) :
    (((w.setCell ⟨g, k * 2, none⟩ (.int .i64 u0)).setCell ⟨g, k * 2 + 1, none⟩ (.int .i64 u1))).rowIs g e m (fun i => if i < (k + 1) * 2 then (flat fractionC l)[i]?.getD undef else z i) := by
  have e0 := flat_get (f := fractionC) fractionC_len (j := 0) hx rfl
  have e1 := flat_get (f := fractionC) fractionC_len (j := 1) hx rfl
  refine ((h.set _ _).set _ _).congr fun i _ => ?_
  by_cases h1 : i = k * 2 + 1
  · subst h1; rw [if_pos rfl, if_pos (by omega), e1]; rfl
  rw [if_neg h1]
  by_cases h0 : i = k * 2
  · subst h0; rw [if_pos rfl, if_pos (by omega), show (flat fractionC l)[k * 2]? = _ from e0]; rfl
  rw [if_neg h0]
  by_cases hk : i < k * 2
  · rw [if_pos hk, if_pos (by omega)]
  · rw [if_neg hk, if_neg (by omega)]


open Go.ChangeShapes Go.WideShapes Go.Deep
def InFraction (w : World) (A : Option Addr) (n : Nat) (l : List TFraction) : Prop :=
  Sl fractionC w w.heap.size 2 A n l ∧ (∀ x ∈ l, wf64 x.1 ∧ wf64 x.2) ∧ n ≤ maxLen
/-- What marks a Fraction that is element i of a row, counted from k0 on. -/
def fractionM (k0 : Nat) (i : Nat) : TFraction := (((k0 + i * 2 + 0 : Nat) : Int), ((k0 + i * 2 + 1 : Nat) : Int))
def fractionMs (k0 n : Nat) : List TFraction := (List.range n).map (fractionM k0)
theorem fractionMs_len (k0 n : Nat) : (fractionMs k0 n).length = n := by simp [fractionMs]
theorem fractionMs_get {k0 n i : Nat} {x : TFraction} (h : (fractionMs k0 n)[i]? = some x) : x = fractionM k0 i := by
  simp only [fractionMs, List.getElem?_map, Option.map_eq_some_iff] at h
  obtain ⟨j, hj, rfl⟩ := h
  rcases Nat.lt_or_ge i n with h | h
  · rw [List.getElem?_range h] at hj
    simp only [Option.some.injEq] at hj
    rw [hj]
  · rw [List.getElem?_eq_none (by simpa using h)] at hj
    cases hj
theorem fractionMs_at {k0 n i : Nat} (h : i < n) : (fractionMs k0 n)[i]? = some (fractionM k0 i) := by simp [fractionMs, h]

end Go.Proofs.Ytgdmiddiaogpaaa
/- Slices of Fraction: marks of a row of the call's own; a row that holds its marks. -/
namespace Go.Proofs.Ytgdmiddiaogpaaa
open Go.RowKit Go.BigFrame
attribute [local go_sem] sub_cell sub_frozen drewN_setCell

theorem fractionMs_0 {k0 k n K : Nat} (h : k < n) (hK : K = k0 + k * 2) : (flat fractionC (fractionMs k0 n))[k * 2 + 0]?.getD undef = .int .i64 ((K + 0 : Nat) : Int) := by
  subst hK; rw [flat_get fractionC_len (fractionMs_at h) (j := 0) rfl]; rfl
theorem fractionMs_1 {k0 k n K : Nat} (h : k < n) (hK : K = k0 + k * 2) : (flat fractionC (fractionMs k0 n))[k * 2 + 1]?.getD undef = .int .i64 ((K + 1 : Nat) : Int) := by
  subst hK; rw [flat_get fractionC_len (fractionMs_at h) (j := 1) rfl]; rfl
set_option maxHeartbeats 2000000 in
/-- A row of the call's own is marked. -/
theorem c_markFractionS (base n c : Nat) (A : Option Addr) (l : List TFraction) (k0 : Nat) (w : World) (hn : l.length = n) (ha : w.ownsRow base 96 2 (.slice A n c) n (flat fractionC l)) (hn2 : n ≤ 1099511627) (hk0 : 0 < k0) (hk1 : k0 ≤ 1073741824) :
    Calls Try.prog 51 #[.slice A n c, .int .i64 k0] w fun r w' => r = .returned (.int .i64 ((k0 + n * 2 : Nat) : Int)) ∧ w'.ownsRow base 96 2 (.slice A n c) n (flat fractionC (fractionMs k0 n)) ∧ w.grownBy w' (Value.ownBlock (.slice A n c)) := by
  have hlen := ha.1
  rcases ha.2 with ⟨h1, h2⟩ | ⟨g, cap, cur, h1, hg, hh, hnc, hcm, hcs, htk⟩
  · simp only [Value.slice.injEq] at h1
    obtain ⟨rfl, rfl, rfl⟩ := h1
    clear ha hlen h2
    go_enter Try.func51, Try.ntmps51
    go_wp2_with fail
    go_loopw [1, 5] (fun q i wr => i = .int .i64 0 ∧ q = .int .i64 k0 ∧ w = wr) (fun _ _ _ => 0)
    case atStart => exact ⟨rfl, rfl, rfl⟩
    case round =>
      obtain ⟨rfl, rfl, rfl⟩ := hrel
      go_wp2_with fail
      go_ret
      exact ⟨by simp, ⟨by simp [fractionMs, flat], .inl ⟨rfl, rfl⟩⟩, grown_refl w _⟩
  · simp only [Value.slice.injEq, true_and] at h1
    obtain ⟨rfl, rfl⟩ := h1
    have hrow0 : w.rowIs g 96 (c * 2) (fun i => if i < 0 * 2 then (flat fractionC (fractionMs k0 n))[i]?.getD undef else cur[i]?.getD undef) := ⟨cur, hh, by omega, fun i hi => by
      have : i < cur.size := by omega
      simp [this]⟩
    have HH := Lib.hid (And.intro hg (And.intro hnc hcm))
    clear ha hlen hh hcs htk
    go_enter Try.func51, Try.ntmps51
    go_wp2_with fail
    go_loopw [1, 5] (fun q i wr => ∃ k K : Nat, k ≤ n ∧ i = .int .i64 k ∧ q = .int .i64 K ∧ K ≤ 1099511627776 ∧ 0 < K ∧ w.grownBy wr (some g) ∧ Hid (K = k0 + k * 2) ∧ wr.rowIs g 96 (c * 2) (fun i => if i < k * 2 then (flat fractionC (fractionMs k0 n))[i]?.getD undef else cur[i]?.getD undef)) (fun _ i _ => n - (intOf i).toNat)
    case atStart => exact ⟨0, k0, Nat.zero_le _, rfl, rfl, by omega, hk0, grown_refl w _, by show k0 = _; simp, hrow0⟩
    case round =>
      obtain ⟨k, K, hk, rfl, rfl, hK1, hK0, hB, HK, hrow⟩ := hrel
      by_cases hlt : k < n
      · have hk9 : K + 2 ≤ 1099511627776 := by have := HK.out; omega
        have hkc : k * 2 + 2 ≤ c * 2 := by omega
        have HR := Lib.hid hrow
        clear hrow hrow0
        obtain ⟨v0, r0⟩ : ∃ v, wr.cell? ⟨g, k * 2, none⟩ = some v := ⟨_, (HR.out).cell (by omega)⟩
        have f0 := (HR.out).frozen (k * 2)
        obtain ⟨v1, r1⟩ : ∃ v, wr.cell? ⟨g, k * 2 + 1, none⟩ = some v := ⟨_, (HR.out).cell (by omega)⟩
        have f1 := (HR.out).frozen (k * 2 + 1)
        go_wp2_with fail
        go_roundw
        case rel => exact ⟨k + 1, K + 2, by omega, by go_num, by go_num, hk9, by omega, (only_setCell ((only_setCell (hB) _ _)) _ _), by have := HK.out; show K + 2 = _; omega, ((row_step ((row_step (HR.out) (fractionMs_0 hlt HK.out))) (fractionMs_1 hlt HK.out))).congr fun i _ => by rw [show (k + 1) * 2 = k * 2 + 1 + 1 by omega]⟩
        case measure => simp [intOf]; omega
      · go_wp2_with fail
        go_ret
        obtain rfl : k = n := by omega
        obtain ⟨cs, h1, h2, h3⟩ := hrow
        have hfl := flat_length fractionC_len (fractionMs k0 k)
        rw [fractionMs_len] at hfl
        refine ⟨by rw [HK.out]; rfl, ⟨hfl, .inr ⟨g, c, cs, rfl, HH.out.1, h1, HH.out.2.1, HH.out.2.2, by omega, ?_⟩⟩, hB⟩
        apply List.ext_getElem?
        intro i
        rw [List.getElem?_take]
        by_cases hi : i < k * 2
        · have h4 := h3 i (by omega)
          dsimp only at h4
          rw [if_pos hi] at h4 ⊢
          rw [Array.getElem?_toList, h4, List.getElem?_eq_getElem (by omega)]
          rfl
        · rw [if_neg hi, List.getElem?_eq_none (by omega)]

theorem fractionM_eq {k0 k K : Nat} (hK : K = k0 + k * 2) : fractionM k0 k = (((K + 0 : Nat) : Int), ((K + 1 : Nat) : Int)) := by subst hK; rfl
set_option maxHeartbeats 2000000 in
theorem c_heldFractionS (A : Option Addr) (n c : Nat) (k0 : Nat) (w : World) (ha : Sl fractionC w w.heap.size 2 A n (fractionMs k0 n)) (hn : n ≤ 1099511627) (hk0 : 0 < k0) (hk1 : k0 ≤ 1073741824) :
    Calls Try.prog 52 #[.slice A n c, .int .i64 k0] w fun r w' => r = .returned (.int .i64 ((k0 + n * 2 : Nat) : Int)) ∧ Below w.heap.size w w' := by
  go_enter Try.func52, Try.ntmps52
  go_wp2_with fail
  go_loopw [1, 5] (fun q i wr => ∃ k K : Nat, k ≤ n ∧ i = .int .i64 k ∧ q = .int .i64 K ∧ Below w.heap.size w wr ∧ Hid (K = k0 + k * 2)) (fun _ i _ => n - (intOf i).toNat)
  case atStart => exact ⟨0, k0, Nat.zero_le _, rfl, rfl, Below.refl _ _, by show k0 = _; simp⟩
  case round =>
    obtain ⟨k, K, hk, rfl, rfl, hB, HK⟩ := hrel
    have hz := hB.size
    by_cases hlt : k < n
    · have hk9 : K + 2 ≤ 1099511627776 := by have := HK.out; omega
      have hK0 : 0 < K := by have := HK.out; omega
      obtain ⟨b, o, u0, u1, rfl, hb1, hb2, hx, c0, c1⟩ := fraction_at ha hB hlt
      have hx2 := fractionMs_get hx
      rw [fractionM_eq HK.out] at hx2
      simp only [Prod.mk.injEq] at hx2
      obtain ⟨rfl, rfl⟩ := hx2
      clear ha hx

      go_wp2_with fail
      go_roundw
      case rel => exact ⟨k + 1, K + 2, by omega, by go_num, by go_num, hB, by have := HK.out; show K + 2 = _; omega⟩
      case measure => simp [intOf]; omega
    · go_wp2_with fail
      go_ret
      obtain rfl : k = n := by omega
      exact ⟨by rw [HK.out]; rfl, hB⟩
/-- A row of the call's own, as a slice to be read. -/
theorem fraction_own {w : World} {base n c : Nat} {A : Option Addr} {e : TypeId} {l : List TFraction} (hl : l.length = n) (h : w.ownsRow base e 2 (.slice A n c) n (flat fractionC l)) : Sl fractionC w w.heap.size 2 A n l := ⟨hl, fractionC_len, Rd.of_own h⟩
theorem fraction_slOwn {w : World} {g n base : Nat} {e : TypeId} {l : List TFraction} (h : OwnSl fractionC w g e 2 l) (hl : l.length = n) (hb : base ≤ g) (hn : n ≤ maxLen) : w.ownsRow base e 2 (.slice (some ⟨g, 0, none⟩) n n) n (flat fractionC l) := by
  subst hl
  obtain ⟨_, cs, h1, h2, h3⟩ := h
  have hfl := flat_length fractionC_len l
  refine ⟨hfl, .inr ⟨g, l.length, cs, rfl, hb, h1, Nat.le_refl _, hn, by omega, ?_⟩⟩
  apply List.ext_getElem?
  intro i
  rw [List.getElem?_take]
  by_cases hi : i < l.length * 2
  · have h4 := h3 i hi
    rw [if_pos hi, Array.getElem?_toList, h4]
    have hlt : i < (flat fractionC l).length := by omega
    simp [List.getElem?_eq_getElem hlt]
  · rw [if_neg hi, List.getElem?_eq_none (by omega)]
end Go.Proofs.Ytgdmiddiaogpaaa
/- Rows of fractions of the call's own, made by make, written place by place; results of such rows. -/
namespace Go.Proofs.Ytgdmiddiaogpaaa
open Go.RowKit Go.BigFrame

/-- Cell i of a row of fractions. -/
def fz (l : List TFraction) (i : Nat) : Int := if i % 2 = 0 then (l.getD (i / 2) (0, 0)).1 else (l.getD (i / 2) (0, 0)).2
theorem fz_set {l : List TFraction} {k : Nat} (hk : k < l.length) (a b : Int) (i : Nat) : fz (l.set k (a, b)) i = if i = k * 2 + 1 then b else if i = k * 2 then a else fz l i := by
  unfold fz
  by_cases h : i / 2 = k
  · rw [h, List.getD_eq_getElem?_getD, List.getElem?_set_self hk]
    by_cases h2 : i % 2 = 0
    · rw [if_pos h2, if_neg (by omega), if_pos (by omega)]; rfl
    · rw [if_neg h2, if_pos (by omega)]; rfl
  · rw [List.getD_eq_getElem?_getD, List.getElem?_set_ne (fun e => h e.symm), if_neg (by omega : ¬ i = k * 2 + 1), if_neg (by omega : ¬ i = k * 2), List.getD_eq_getElem?_getD]
/-- Block g is a row of n fractions, the list l. -/
def RowF (w : World) (g n : Nat) (l : List TFraction) : Prop := l.length = n ∧ w.rowIs g 96 (n * 2) (fun i => .int .i64 (fz l i))
section
variable {w w' : World} {g n : Nat} {l : List TFraction}
theorem RowF.made (w : World) (n : Nat) : RowF (w.alloc (.cells (madeCells (Value.cells (.agg #[.int .i64 0, .int .i64 0])) (n * 2)) 96)) w.heap.size n (List.replicate n (0, 0)) :=
  ⟨by simp, (rowIs_made _ _ _).congr fun i hi => by
    have h0 : fz (List.replicate n (0, 0)) i = 0 := by
      have hd : (List.replicate n ((0, 0) : TFraction)).getD (i / 2) (0, 0) = (0, 0) := by
        rw [List.getD_eq_getElem?_getD, List.getElem?_replicate]; split <;> rfl
      simp only [fz, hd, ite_self]
    rw [h0]
    show (#[Value.int .i64 0, Value.int .i64 0] : Array Value)[i % 2]! = _
    rcases Nat.mod_two_eq_zero_or_one i with h | h <;> rw [h] <;> rfl⟩
theorem RowF.len (h : RowF w g n l) : l.length = n := h.1
theorem RowF.lt (h : RowF w g n l) : g < w.heap.size := h.2.lt
theorem RowF.cell0 (h : RowF w g n l) {i : Nat} (hi : i < n) : w.cell? ⟨g, i * 2, none⟩ = some (.int .i64 (l.getD i (0, 0)).1) := by
  have := h.2.cell (i := i * 2) (by omega)
  rw [this]; unfold fz; rw [if_pos (by omega), show i * 2 / 2 = i by omega]
theorem RowF.cell1 (h : RowF w g n l) {i : Nat} (hi : i < n) : w.cell? ⟨g, i * 2 + 1, none⟩ = some (.int .i64 (l.getD i (0, 0)).2) := by
  have := h.2.cell (i := i * 2 + 1) (by omega)
  rw [this]; unfold fz; rw [if_neg (by omega), show (i * 2 + 1) / 2 = i by omega]
theorem RowF.frozen (h : RowF w g n l) (i : Nat) : w.frozen? ⟨g, i, none⟩ = false := h.2.frozen i
theorem RowF.set (h : RowF w g n l) {k : Nat} (hk : k < n) (a b : Int) : RowF ((w.setCell ⟨g, k * 2, none⟩ (.int .i64 a)).setCell ⟨g, k * 2 + 1, none⟩ (.int .i64 b)) g n (l.set k (a, b)) := by
  refine ⟨by rw [List.length_set]; exact h.1, ((h.2.set _ _).set _ _).congr fun j hj => ?_⟩
  rw [fz_set (by rw [h.1]; exact hk)]
  by_cases h1 : j = k * 2 + 1
  · rw [if_pos h1, if_pos h1]
  rw [if_neg h1, if_neg h1]
  by_cases h2 : j = k * 2
  · rw [if_pos h2, if_pos h2]
  rw [if_neg h2, if_neg h2]
theorem RowF.block (h : RowF w g n l) (e : w'.heap[g]? = w.heap[g]?) : RowF w' g n l := ⟨h.1, h.2.of_block e⟩
theorem RowF.below {B : Nat} (h : RowF w g n l) (hb : Below B w w') (hg : g < B) : RowF w' g n l := h.block (hb.block g hg)
theorem RowF.later (h : RowF w g n l) (hb : Below w.heap.size w w') : RowF w' g n l := h.below hb h.lt
theorem RowF.alloc (h : RowF w g n l) (o : Obj) : RowF (w.alloc o) g n l := ⟨h.1, h.2.alloc o⟩
theorem RowF.far (h : RowF w g n l) {a : Addr} (ha : g ≠ a.block) (v : Value) : RowF (w.setCell a v) g n l := ⟨h.1, h.2.setOther ha v⟩
theorem RowF.own {base : Nat} (h : RowF w g n l) (hb : base ≤ g) (hn : n ≤ maxLen) : w.ownsRow base 96 2 (.slice (some ⟨g, 0, none⟩) n n) n (flat fractionC l) := by
  obtain ⟨hl, cs, h1, h2, h3⟩ := h
  have hfl := flat_length fractionC_len l
  rw [hl] at hfl
  refine ⟨hfl, .inr ⟨g, n, cs, rfl, hb, h1, Nat.le_refl _, hn, by omega, ?_⟩⟩
  apply List.ext_getElem?
  intro i
  rw [List.getElem?_take]
  by_cases hi : i < n * 2
  · have h4 := h3 i hi
    rw [if_pos hi, Array.getElem?_toList, h4]
    have hlt : i / 2 < l.length := by omega
    have hx : l[i / 2]? = some l[i / 2] := List.getElem?_eq_getElem hlt
    have hd : l.getD (i / 2) (0, 0) = l[i / 2] := by rw [List.getD_eq_getElem?_getD, hx]; rfl
    simp only [fz, hd]
    by_cases h2 : i % 2 = 0
    · have := flat_get (f := fractionC) fractionC_len (j := 0) hx rfl
      rw [show i / 2 * 2 + 0 = i by omega] at this
      rw [if_pos h2, this]
    · have := flat_get (f := fractionC) fractionC_len (j := 1) hx rfl
      rw [show i / 2 * 2 + 1 = i by omega] at this
      rw [if_neg h2, this]
  · rw [if_neg hi, List.getElem?_eq_none (by omega)]
end
theorem run_makeF (n : Nat) (hn : n ≤ 1048576) (w : World) : (Instr.makeSlice 57 (.int .i64 (n : Int)) (.int .i64 (n : Int))).run Try.prog w = .ok (.slice (some ⟨w.heap.size, 0, none⟩) n n) (w.alloc (.cells (madeCells (Value.cells (.agg #[.int .i64 0, .int .i64 0])) (n * 2)) 96)) :=
  run_make_any (P := Try.prog) 57 96 _ 2 16 Try.underlying57 info_Fraction .i64 .i64 n (by omega) (by omega) w
/-- A fresh row of fractions and a code. -/
def FracPost (zs : List TFraction) (code : Int) (w : World) (r : Ending) (w' : World) : Prop :=
  ∃ A c, r = .returned (.tuple #[.slice A zs.length c, .int .i64 code]) ∧ w'.ownsRow w.heap.size 96 2 (.slice A zs.length c) zs.length (flat fractionC zs) ∧ Below w.heap.size w w'
theorem FracPost.mk_ {zs : List TFraction} {code : Int} {w w' : World} {v : Value} {n : Nat} (hn : zs.length = n) (hown : w'.ownsRow w.heap.size 96 2 v n (flat fractionC zs)) (hb : Below w.heap.size w w') : FracPost zs code w (.returned (.tuple #[v, .int .i64 code])) w' := by
  subst hn
  obtain ⟨A, c, rfl⟩ := own_slice hown
  exact ⟨A, c, rfl, hown, hb⟩
theorem FracPost.err {code : Int} {w w' : World} (hb : Below w.heap.size w w') : FracPost [] code w (.returned (.tuple #[.slice none 0 0, .int .i64 code])) w' :=
  ⟨none, 0, rfl, ⟨rfl, .inl ⟨rfl, rfl⟩⟩, hb⟩
theorem c_lowestB (a b : Int) (w : World) (ha : 0 ≤ a) (ha2 : a ≤ 9000000000000000000) (hb : 1 ≤ b) (hb2 : b ≤ 9000000000000000000) :
    Calls Try.prog 80 #[.int .i64 a, .int .i64 b] w fun r w' => r = .returned (.agg #[.int .i64 (lowN a b), .int .i64 (lowD a b)]) ∧ Below w.heap.size w w' := by
  refine (c_lowest a b w ha ha2 hb hb2).mono ?_
  rintro r_ w' ⟨rfl, n, rfl⟩
  exact ⟨rfl, below_drewN ((Below.refl _ _).alloc (Nat.le_refl _) _) n⟩
theorem c_l02MakeB (a b : Int) (w : World) (ha : 0 ≤ a) (ha2 : a ≤ 9000000000000000000) (hb : 1 ≤ b) (hb2 : b ≤ 9000000000000000000) :
    Calls Try.prog 86 #[.int .i64 a, .int .i64 b] w fun r w' => r = .returned (.agg #[.int .i64 (lowN a b), .int .i64 (lowD a b)]) ∧ Below w.heap.size w w' := by
  refine (c_l02Make a b w ha ha2 hb hb2).mono ?_
  rintro r_ w' ⟨rfl, n, rfl⟩
  exact ⟨rfl, below_drewN ((Below.refl _ _).alloc (Nat.le_refl _) _) n⟩
end Go.Proofs.Ytgdmiddiaogpaaa
