/- A map from keys to the order in which they came, kept by the call itself. Own lemmas over the library's maps. -/
import Derived.Test.YtkpnkilpaokkcaaSb
import Derived.Maps.Own
import Derived.StringKeys
import Derived.Maps.Views
import Derived.Maps.OwnSet
namespace Go.Proofs.Ytkpnkilpaokkcaa
open Go.RowKit Go.Maps Go.WideMaps

section
variable {α : Type}
/-- The datum; the newest key stands first. -/
def ixD (κ : α → Lit) : List α → DataW Unit
  | [] => .map []
  | s :: S => (ixD κ S).put (κ s) (.lit (.int .i64 (S.length : Int)))
/-- When a key came. -/
def posR [DecidableEq α] : List α → α → Nat
  | [], _ => 0
  | s :: S, k => if k = s then S.length else posR S k
theorem posR_lt [DecidableEq α] {S : List α} {k : α} (h : k ∈ S) : posR S k < S.length := by
  induction S with
  | nil => cases h
  | cons s S ih =>
    rw [posR]
    split
    · simp
    · rename_i hne
      have := ih (by rcases List.mem_cons.1 h with h | h; exact absurd h hne; exact h)
      simp; omega
theorem posR_get [DecidableEq α] {S : List α} {k : α} (h : k ∈ S) : S.reverse[posR S k]? = some k := by
  induction S with
  | nil => cases h
  | cons s S ih =>
    rw [posR, List.reverse_cons]
    split
    · rename_i e
      rw [List.getElem?_append_right (by simp)]
      simp [e]
    · rename_i hne
      have h1 : k ∈ S := by rcases List.mem_cons.1 h with h | h; exact absurd h hne; exact h
      have h2 := posR_lt h1
      rw [List.getElem?_append_left (by simpa using h2)]
      exact ih h1
theorem posR_none [DecidableEq α] {S : List α} {k : α} (h : k ∉ S) : posR S k = 0 := by
  induction S with
  | nil => rfl
  | cons s S ih =>
    rw [posR, if_neg (fun e => h (by simp [e]))]
    exact ih fun h1 => h (by simp [h1])
theorem ixD_map (κ : α → Lit) : ∀ S, IsMap (ixD κ S)
  | [] => isMap_empty
  | _ :: S => (ixD_map κ S).put _ _
theorem ixD_has [DecidableEq α] {κ : α → Lit} (hκ : ∀ a b, κ a = κ b → a = b) (hl : ∀ a, WideAt.IsKeyLit (κ a)) (k : α) : ∀ S, Maps.has (ixD κ S) (κ k) = decide (k ∈ S)
  | [] => by rfl
  | t :: S => by
    unfold ixD
    by_cases h : k = t
    · subst h
      rw [has_put_same (ixD_map κ S) (hl k)]
      simp
    · rw [has_put_other (fun e => h (hκ _ _ e)), ixD_has hκ hl k S]
      simp [h]
theorem ixD_at [DecidableEq α] {κ : α → Lit} (hκ : ∀ a b, κ a = κ b → a = b) (hl : ∀ a, WideAt.IsKeyLit (κ a)) (k : α) : ∀ S, (ixD κ S).atKey (κ k) (.lit (.int .i64 0)) = .lit (.int .i64 (posR S k : Nat))
  | [] => by rfl
  | t :: S => by
    unfold ixD
    rw [posR]
    by_cases h : k = t
    · subst h
      rw [atKey_put_same (ixD_map κ S) (hl k), if_pos rfl]
    · rw [atKey_put_other (fun e => h (hκ _ _ e)), ixD_at hκ hl k S, if_neg h]
end
section
variable {α : Type} {κ : α → Lit} {P : Program} {t k e : TypeId} {w w' : World} {b : Nat} {S : List α}
/-- Block b is a map that holds just the keys S, each with the number of those that came before it. -/
def IxMap (P : Program) (k e : TypeId) (κ : α → Lit) (w : World) (b : Nat) (S : List α) : Prop := w.ownsMap P k (plainElem P e) b S.length (ixD κ S)
theorem IxMap.made (w : World) : IxMap P k e κ (w.alloc (.map #[] 0)) w.heap.size [] := World.ownsMap_made w P k _
theorem IxMap.lt (h : IxMap P k e κ w b S) : b < w.heap.size := World.ownsMap.lt h
theorem IxMap.grown {row : Option Nat} (h : IxMap P k e κ w b S) (hg : w.grownBy w' row) (hne : some b ≠ row) : IxMap P k e κ w' b S := World.ownsMap.kept h hg hne
theorem IxMap.alloc (h : IxMap P k e κ w b S) (o : Obj) : IxMap P k e κ (w.alloc o) b S := World.ownsMap.alloc h o
theorem IxMap.setCell (h : IxMap P k e κ w b S) {a : Addr} (ha : b ≠ a.block) (u : Value) : IxMap P k e κ (w.setCell a u) b S := World.ownsMap.setCell h ha u
theorem IxMap.later (h : IxMap P k e κ w b S) (hb : Below w.heap.size w w') : IxMap P k e κ w' b S :=
  World.ownsMap.kept (row := none) h ⟨hb.os, hb.tape, hb.output, hb.size, fun k hk _ => hb.block k hk⟩ (by simp)
/-- Asking for a key, with 'ok'. -/
theorem IxMap.look [DecidableEq α] (hκ : ∀ a b, κ a = κ b → a = b) (hl : ∀ a, WideAt.IsKeyLit (κ a)) (h : IxMap P k e κ w b S) (K : Keyed P k) (ht : P.underlying t = some (.map k e)) (he : P.underlying e = some (.int .i64)) (hz : (zeroValue e).run P w = .ok (.int .i64 0) w) {key : Value} {a : α} (hkey : keyOf P k key = some (κ a)) {r : Bool} (hr : decide (a ∈ S) = r) :
    (Instr.lookup t (.map (some b)) key true).run P w = .ok (.tuple #[.int .i64 (posR S a : Nat), .bool r]) w := by
  obtain ⟨v, ps, h1, h2⟩ := World.ownsMap.look_ok h K ht hz (zd := .lit (.int .i64 0)) (zp := []) (plainElem_int he (by decide)) hkey
  obtain ⟨x, rfl, hx, _⟩ := plainElem_int_inv he h2
  rw [ixD_at hκ hl] at hx
  simp only [Prod.mk.injEq, DataW.lit.injEq, Lit.int.injEq, true_and] at hx
  rw [h1, ixD_has hκ hl, hr, ← hx.1]
/-- A new key, at the operation. -/
theorem wpList_ixMap (w : World) {ops : Array Oper} {rest : List Oper} {o : Oper} {a : Act} {Q : Exit → Act → World → Prop}
    (hg : o.guard = none) (m x v : Operand) (t : TypeId) (hop : o.op = Op.mapUpdate t m x v)
    (k e : TypeId) (K : Keyed P k) (ht : P.underlying t = some (.map k e)) (he : P.underlying e = some (.int .i64)) (b : Nat) (S : List α)
    (hm : a.eval m = .map (some b)) (h : IxMap P k e κ w b S) (hn : S.length < maxLen) (key : Value) (s : α) (hx : a.eval x = key) (hkey : keyOf P k key = some (κ s)) (hv : a.eval v = .int .i64 (S.length : Nat))
    (hK : ∀ w', IxMap P k e κ w' b (s :: S) → w.grownBy w' (some b) → wpList P ops Q rest (a.put o.dst undef) w') :
    wpList P ops Q (o :: rest) a w :=
  wpList_mapUpdate_own w hg m x v t hop k e K ht (plainElem P e) b S.length (ixD κ S) hm h hn key (.int .i64 (S.length : Nat)) (κ s) hx hv hkey (.lit (.int .i64 (S.length : Nat))) [] (plainElem_int he (by
    unfold maxLen at hn
    simp [Lit.wf, IntKind.min, IntKind.max, IntKind.signed, IntKind.bits]; omega)) hK
end
theorem below_mapI {w w' : World} {B b : Nat} {a : World} (hb : Below B a w) (hg : w.grownBy w' (some b)) (hB : B ≤ b) (hBw : B ≤ w.heap.size) : Below B a w' :=
  hb.grown hg hBw fun k hk => by simp only [Option.some.injEq] at hk; omega
/-- Keys that are bytes; keys that are texts. -/
def kB (c : UInt8) : Lit := .int .u8 (c.toNat : Int)
theorem kB_inj (a b : UInt8) (h : kB a = kB b) : a = b := by
  simp only [kB, Lit.int.injEq, true_and] at h
  exact UInt8.toNat_inj.1 (Int.natCast_inj.1 h)
theorem kB_key (a : UInt8) : WideAt.IsKeyLit (kB a) := by trivial
def kS (s : ByteArray) : Lit := .string s.data.toList
theorem kS_inj (a b : ByteArray) (h : kS a = kS b) : a = b := by
  simp only [kS, Lit.string.injEq] at h
  exact sb_ext h
theorem kS_key (a : ByteArray) : WideAt.IsKeyLit (kS a) := by trivial
theorem kB_of {P : Program} {k : TypeId} (hk : P.underlying k = some (.int .u8)) (c : UInt8) : keyOf P k (.int .u8 (c.toNat : Int)) = some (kB c) :=
  keyOf_int_mk hk (by
    have := UInt8.toNat_lt c
    simp [Lit.wf, IntKind.min, IntKind.max, IntKind.signed, IntKind.bits]; omega)
theorem kS_of {P : Program} {k : TypeId} (hk : P.underlying k = some .string) {s : ByteArray} (hs : s.size ≤ maxLen) : keyOf P k (.string s) = some (kS s) := keyOf_string_mk hk hs
end Go.Proofs.Ytkpnkilpaokkcaa
