/- Rows of fractions of the call's own, made by make, written place by place; results of such rows. -/
import Derived.Test.YtgdmiddiaogpaaaMkFraction
import Derived.Test.YtgdmiddiaogpaaaRw
namespace Go.Proofs.Ytgdmiddiaogpaaa
open Go.RowKit Go.BigFrame

/-- Cell i of a row of fractions. -/
def fz (l : List TFraction) (i : Nat) : Int := if i % 2 = 0 then (l.getD (i / 2) (0, 0)).1 else (l.getD (i / 2) (0, 0)).2
theorem fz_set {l : List TFraction} {k : Nat} (hk : k < l.length) (a b : Int) (i : Nat) : fz (l.set k (a, b)) i = if i = k * 2 + 1 then b else if i = k * 2 then a else fz l i := by
  unfold fz
  by_cases h : i / 2 = k
  · rw [h, List.getD_eq_getElem?_getD, List.getElem?_set_self hk]
    by_cases h2 : i % 2 = 0
    · rw [if_pos h2, if_neg (by omega), if_pos (by omega)]; rfl
    · rw [if_neg h2, if_pos (by omega)]; rfl
  · rw [List.getD_eq_getElem?_getD, List.getElem?_set_ne (fun e => h e.symm), if_neg (by omega : ¬ i = k * 2 + 1), if_neg (by omega : ¬ i = k * 2), List.getD_eq_getElem?_getD]
/-- Block g is a row of n fractions, the list l. -/
def RowF (w : World) (g n : Nat) (l : List TFraction) : Prop := l.length = n ∧ w.rowIs g 96 (n * 2) (fun i => .int .i64 (fz l i))
section
variable {w w' : World} {g n : Nat} {l : List TFraction}
theorem RowF.made (w : World) (n : Nat) : RowF (w.alloc (.cells (madeCells (Value.cells (.agg #[.int .i64 0, .int .i64 0])) (n * 2)) 96)) w.heap.size n (List.replicate n (0, 0)) :=
  ⟨by simp, (rowIs_made _ _ _).congr fun i hi => by
    have h0 : fz (List.replicate n (0, 0)) i = 0 := by
      have hd : (List.replicate n ((0, 0) : TFraction)).getD (i / 2) (0, 0) = (0, 0) := by
        rw [List.getD_eq_getElem?_getD, List.getElem?_replicate]; split <;> rfl
      simp only [fz, hd, ite_self]
    rw [h0]
    show (#[Value.int .i64 0, Value.int .i64 0] : Array Value)[i % 2]! = _
    rcases Nat.mod_two_eq_zero_or_one i with h | h <;> rw [h] <;> rfl⟩
theorem RowF.len (h : RowF w g n l) : l.length = n := h.1
theorem RowF.lt (h : RowF w g n l) : g < w.heap.size := h.2.lt
theorem RowF.cell0 (h : RowF w g n l) {i : Nat} (hi : i < n) : w.cell? ⟨g, i * 2, none⟩ = some (.int .i64 (l.getD i (0, 0)).1) := by
  have := h.2.cell (i := i * 2) (by omega)
  rw [this]; unfold fz; rw [if_pos (by omega), show i * 2 / 2 = i by omega]
theorem RowF.cell1 (h : RowF w g n l) {i : Nat} (hi : i < n) : w.cell? ⟨g, i * 2 + 1, none⟩ = some (.int .i64 (l.getD i (0, 0)).2) := by
  have := h.2.cell (i := i * 2 + 1) (by omega)
  rw [this]; unfold fz; rw [if_neg (by omega), show (i * 2 + 1) / 2 = i by omega]
theorem RowF.frozen (h : RowF w g n l) (i : Nat) : w.frozen? ⟨g, i, none⟩ = false := h.2.frozen i
theorem RowF.set (h : RowF w g n l) {k : Nat} (hk : k < n) (a b : Int) : RowF ((w.setCell ⟨g, k * 2, none⟩ (.int .i64 a)).setCell ⟨g, k * 2 + 1, none⟩ (.int .i64 b)) g n (l.set k (a, b)) := by
  refine ⟨by rw [List.length_set]; exact h.1, ((h.2.set _ _).set _ _).congr fun j hj => ?_⟩
  rw [fz_set (by rw [h.1]; exact hk)]
  by_cases h1 : j = k * 2 + 1
  · rw [if_pos h1, if_pos h1]
  rw [if_neg h1, if_neg h1]
  by_cases h2 : j = k * 2
  · rw [if_pos h2, if_pos h2]
  rw [if_neg h2, if_neg h2]
theorem RowF.block (h : RowF w g n l) (e : w'.heap[g]? = w.heap[g]?) : RowF w' g n l := ⟨h.1, h.2.of_block e⟩
theorem RowF.below {B : Nat} (h : RowF w g n l) (hb : Below B w w') (hg : g < B) : RowF w' g n l := h.block (hb.block g hg)
theorem RowF.later (h : RowF w g n l) (hb : Below w.heap.size w w') : RowF w' g n l := h.below hb h.lt
theorem RowF.alloc (h : RowF w g n l) (o : Obj) : RowF (w.alloc o) g n l := ⟨h.1, h.2.alloc o⟩
theorem RowF.far (h : RowF w g n l) {a : Addr} (ha : g ≠ a.block) (v : Value) : RowF (w.setCell a v) g n l := ⟨h.1, h.2.setOther ha v⟩
theorem RowF.own {base : Nat} (h : RowF w g n l) (hb : base ≤ g) (hn : n ≤ maxLen) : w.ownsRow base 96 2 (.slice (some ⟨g, 0, none⟩) n n) n (flat fractionC l) := by
  obtain ⟨hl, cs, h1, h2, h3⟩ := h
  have hfl := flat_length fractionC_len l
  rw [hl] at hfl
  refine ⟨hfl, .inr ⟨g, n, cs, rfl, hb, h1, Nat.le_refl _, hn, by omega, ?_⟩⟩
  apply List.ext_getElem?
  intro i
  rw [List.getElem?_take]
  by_cases hi : i < n * 2
  · have h4 := h3 i hi
    rw [if_pos hi, Array.getElem?_toList, h4]
    have hlt : i / 2 < l.length := by omega
    have hx : l[i / 2]? = some l[i / 2] := List.getElem?_eq_getElem hlt
    have hd : l.getD (i / 2) (0, 0) = l[i / 2] := by rw [List.getD_eq_getElem?_getD, hx]; rfl
    simp only [fz, hd]
    by_cases h2 : i % 2 = 0
    · have := flat_get (f := fractionC) fractionC_len (j := 0) hx rfl
      rw [show i / 2 * 2 + 0 = i by omega] at this
      rw [if_pos h2, this]
    · have := flat_get (f := fractionC) fractionC_len (j := 1) hx rfl
      rw [show i / 2 * 2 + 1 = i by omega] at this
      rw [if_neg h2, this]
  · rw [if_neg hi, List.getElem?_eq_none (by omega)]
end
theorem run_makeF (n : Nat) (hn : n ≤ 1048576) (w : World) : (Instr.makeSlice 57 (.int .i64 (n : Int)) (.int .i64 (n : Int))).run Try.prog w = .ok (.slice (some ⟨w.heap.size, 0, none⟩) n n) (w.alloc (.cells (madeCells (Value.cells (.agg #[.int .i64 0, .int .i64 0])) (n * 2)) 96)) :=
  run_make_any (P := Try.prog) 57 96 _ 2 16 Try.underlying57 info_Fraction .i64 .i64 n (by omega) (by omega) w
/-- A fresh row of fractions and a code. -/
def FracPost (zs : List TFraction) (code : Int) (w : World) (r : Ending) (w' : World) : Prop :=
  ∃ A c, r = .returned (.tuple #[.slice A zs.length c, .int .i64 code]) ∧ w'.ownsRow w.heap.size 96 2 (.slice A zs.length c) zs.length (flat fractionC zs) ∧ Below w.heap.size w w'
theorem FracPost.mk_ {zs : List TFraction} {code : Int} {w w' : World} {v : Value} {n : Nat} (hn : zs.length = n) (hown : w'.ownsRow w.heap.size 96 2 v n (flat fractionC zs)) (hb : Below w.heap.size w w') : FracPost zs code w (.returned (.tuple #[v, .int .i64 code])) w' := by
  subst hn
  obtain ⟨A, c, rfl⟩ := own_slice hown
  exact ⟨A, c, rfl, hown, hb⟩
theorem FracPost.err {code : Int} {w w' : World} (hb : Below w.heap.size w w') : FracPost [] code w (.returned (.tuple #[.slice none 0 0, .int .i64 code])) w' :=
  ⟨none, 0, rfl, ⟨rfl, .inl ⟨rfl, rfl⟩⟩, hb⟩
theorem c_lowestB (a b : Int) (w : World) (ha : 0 ≤ a) (ha2 : a ≤ 9000000000000000000) (hb : 1 ≤ b) (hb2 : b ≤ 9000000000000000000) :
    Calls Try.prog 80 #[.int .i64 a, .int .i64 b] w fun r w' => r = .returned (.agg #[.int .i64 (lowN a b), .int .i64 (lowD a b)]) ∧ Below w.heap.size w w' := by
  refine (c_lowest a b w ha ha2 hb hb2).mono ?_
  rintro r_ w' ⟨rfl, n, rfl⟩
  exact ⟨rfl, below_drewN ((Below.refl _ _).alloc (Nat.le_refl _) _) n⟩
theorem c_l02MakeB (a b : Int) (w : World) (ha : 0 ≤ a) (ha2 : a ≤ 9000000000000000000) (hb : 1 ≤ b) (hb2 : b ≤ 9000000000000000000) :
    Calls Try.prog 86 #[.int .i64 a, .int .i64 b] w fun r w' => r = .returned (.agg #[.int .i64 (lowN a b), .int .i64 (lowD a b)]) ∧ Below w.heap.size w w' := by
  refine (c_l02Make a b w ha ha2 hb hb2).mono ?_
  rintro r_ w' ⟨rfl, n, rfl⟩
  exact ⟨rfl, below_drewN ((Below.refl _ _).alloc (Nat.le_refl _) _) n⟩
end Go.Proofs.Ytgdmiddiaogpaaa
