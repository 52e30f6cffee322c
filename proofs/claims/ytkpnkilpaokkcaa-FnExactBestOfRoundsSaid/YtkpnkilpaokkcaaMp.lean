/- A set of texts, kept as a map from texts to bools that the call itself has made. Own lemmas over the library's maps. -/
import Derived.Test.YtkpnkilpaokkcaaSb
import Derived.Maps.Own
import Derived.StringKeys
import Derived.Maps.Views
import Derived.Maps.OwnSet
namespace Go.Proofs.Ytkpnkilpaokkcaa
open Go.RowKit Go.Maps Go.WideMaps

/-- The datum of a set of texts. -/
def setD : List ByteArray → DataW Unit
  | [] => .map []
  | s :: S => (setD S).put (.string s.data.toList) (.lit (.bool true))
theorem setD_map : ∀ S, IsMap (setD S)
  | [] => isMap_empty
  | _ :: S => (setD_map S).put _ _
theorem key_ne {s t : ByteArray} (h : s ≠ t) : (Lit.string s.data.toList) ≠ Lit.string t.data.toList := by
  intro e
  simp only [Lit.string.injEq] at e
  exact h (sb_ext e)
theorem setD_at (s : ByteArray) : ∀ S, (setD S).atKey (.string s.data.toList) (.lit (.bool false)) = .lit (.bool (decide (s ∈ S)))
  | [] => by rfl
  | t :: S => by
    unfold setD
    by_cases h : s = t
    · subst h
      rw [atKey_put_same (setD_map S) (by trivial)]
      simp
    · rw [atKey_put_other (key_ne h), setD_at s S]
      simp [h]
section
variable {P : Program} {t k e : TypeId} {w w' : World} {b : Nat} {S : List ByteArray}
/-- Block b is a map that holds just the texts S. -/
def TextSet (P : Program) (k e : TypeId) (w : World) (b : Nat) (S : List ByteArray) : Prop := w.ownsMap P k (plainElem P e) b S.length (setD S)
theorem TextSet.made (w : World) : TextSet P k e (w.alloc (.map #[] 0)) w.heap.size [] := World.ownsMap_made w P k _
theorem TextSet.lt (h : TextSet P k e w b S) : b < w.heap.size := World.ownsMap.lt h
theorem TextSet.grown {row : Option Nat} (h : TextSet P k e w b S) (hg : w.grownBy w' row) (hne : some b ≠ row) : TextSet P k e w' b S := World.ownsMap.kept h hg hne
theorem TextSet.alloc (h : TextSet P k e w b S) (o : Obj) : TextSet P k e (w.alloc o) b S := World.ownsMap.alloc h o
theorem TextSet.later (h : TextSet P k e w b S) (hb : Below w.heap.size w w') : TextSet P k e w' b S :=
  World.ownsMap.kept (row := none) h ⟨hb.os, hb.tape, hb.output, hb.size, fun k hk _ => hb.block k hk⟩ (by simp)
theorem bool_inv (he : P.underlying e = some .bool) {v : Value} {z : DataW Unit × List MemPlace} (h : plainElem P e v = some z) : ∃ x, v = .bool x ∧ z.1 = .lit (.bool x) := by
  unfold plainElem at h
  rw [he] at h
  cases v <;> simp at h
  subst h
  exact ⟨_, rfl, rfl⟩
/-- Asking for a text: no change, and a plain answer. -/
theorem TextSet.look (h : TextSet P k e w b S) (ht : P.underlying t = some (.map k e)) (hk : P.underlying k = some .string) (he : P.underlying e = some .bool) (hz : (zeroValue e).run P w = .ok (.bool false) w) {s : ByteArray} (hs : s.size ≤ maxLen) {r : Bool} (hr : decide (s ∈ S) = r) :
    (Instr.lookup t (.map (some b)) (.string s) false).run P w = .ok (.bool r) w := by
  obtain ⟨v, ps, h1, h2⟩ := World.ownsMap.lookup h (string_keyed hk) ht hz (zd := .lit (.bool false)) (zp := []) (plainElem_bool he false) (keyOf_string_mk hk hs)
  obtain ⟨x, rfl, hx⟩ := bool_inv he h2
  rw [setD_at] at hx
  simp only [DataW.lit.injEq, Lit.bool.injEq] at hx
  rw [h1, ← hx, hr]
end
/-- A store of a text, at the operation. -/
theorem wpList_textSet {P : Program} (w : World) {ops : Array Oper} {rest : List Oper} {o : Oper} {a : Act} {Q : Exit → Act → World → Prop}
    (hg : o.guard = none) (m x v : Operand) (t : TypeId) (hop : o.op = Op.mapUpdate t m x v)
    (k e : TypeId) (ht : P.underlying t = some (.map k e)) (hk : P.underlying k = some .string) (he : P.underlying e = some .bool) (b : Nat) (S : List ByteArray)
    (hm : a.eval m = .map (some b)) (h : TextSet P k e w b S) (hn : S.length < maxLen) (s : ByteArray) (hx : a.eval x = .string s) (hs : s.size ≤ maxLen) (hv : a.eval v = .bool true)
    (hK : ∀ w', TextSet P k e w' b (s :: S) → w.grownBy w' (some b) → wpList P ops Q rest (a.put o.dst undef) w') :
    wpList P ops Q (o :: rest) a w :=
  wpList_mapUpdate_own w hg m x v t hop k e (string_keyed hk) ht (plainElem P e) b S.length (setD S) hm h hn (.string s) (.bool true) (.string s.data.toList) hx hv (keyOf_string_mk hk hs) (.lit (.bool true)) [] (plainElem_bool he true) hK
theorem below_map {w w' : World} {B b : Nat} {a : World} (hb : Below B a w) (hg : w.grownBy w' (some b)) (hB : B ≤ b) (hBw : B ≤ w.heap.size) : Below B a w' :=
  hb.grown hg hBw fun k hk => by simp only [Option.some.injEq] at hk; omega
theorem cell_grown {w w' : World} {row : Option Nat} {p : Addr} (hg : w.grownBy w' row) (hp : p.block < w.heap.size) (hne : some p.block ≠ row) : w'.cell? p = w.cell? p := World.cell?_of_block (w := w) (hg.block p.block hp hne)
end Go.Proofs.Ytkpnkilpaokkcaa
