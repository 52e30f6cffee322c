/- Slices in memory: what is read (Rd), what the call itself has made (rowIs). Own lemmas, no program in sight but its types. -/
import Derived.Test.YtkpnkilpaokkcaaTail
import Derived.Deep.OwnRows
import Derived.Deep.AppendLies
namespace Go.Proofs.Ytkpnkilpaokkcaa
open Go.RowKit

/-- The slice with address A and n elements of sz cells holds the cells xs; they lie below block B. -/
def Rd (w : World) (B sz : Nat) (A : Option Addr) (n : Nat) (xs : List Value) : Prop :=
  xs.length = n * sz ∧ (n = 0 ∨ ∃ b o, A = some ⟨b, o, none⟩ ∧ b < B ∧ ∀ i v, xs[i]? = some v → w.cell? ⟨b, o + i, none⟩ = some v)

section
variable {w w' : World} {B B' sz n : Nat} {A : Option Addr} {xs : List Value}
theorem Rd.at_ (h : Rd w B sz A n xs) (hn : 0 < n) : ∃ b o, A = some ⟨b, o, none⟩ ∧ b < B ∧ ∀ i v, xs[i]? = some v → w.cell? ⟨b, o + i, none⟩ = some v := by
  rcases h.2 with h0 | h1
  · omega
  · exact h1
theorem Rd.keep (h : Rd w B sz A n xs) (hk : ∀ p : Addr, p.block < B → w'.cell? p = w.cell? p) : Rd w' B sz A n xs := by
  refine ⟨h.1, ?_⟩
  rcases h.2 with h0 | ⟨b, o, h1, h2, h3⟩
  · exact .inl h0
  · exact .inr ⟨b, o, h1, h2, fun i v hv => (hk _ h2).trans (h3 i v hv)⟩
theorem Rd.below (h : Rd w B sz A n xs) (hb : Below B w w') : Rd w' B sz A n xs := h.keep fun _ hp => hb.cell hp
theorem Rd.more (h : Rd w B sz A n xs) (hB : B ≤ B') : Rd w B' sz A n xs := by
  refine ⟨h.1, ?_⟩
  rcases h.2 with h0 | ⟨b, o, h1, h2, h3⟩
  · exact .inl h0
  · exact .inr ⟨b, o, h1, by omega, h3⟩
/-- What was there when the call began is there later on, and below the new heap's size. -/
theorem Rd.later (h : Rd w w.heap.size sz A n xs) (hb : Below w.heap.size w w') : Rd w' w'.heap.size sz A n xs := (h.below hb).more hb.size
theorem Rd.of_row {e : TypeId} {g m : Nat} {f : Nat → Value} (h : w.rowIs g e m f) (hl : xs.length = n * sz) (hx : ∀ i v, xs[i]? = some v → i < m ∧ f i = v) : Rd w w.heap.size sz (some ⟨g, 0, none⟩) n xs :=
  ⟨hl, .inr ⟨g, 0, rfl, h.lt, fun i v hv => by
    obtain ⟨h1, h2⟩ := hx i v hv
    rw [Nat.zero_add, h.cell h1, h2]⟩⟩
theorem Rd.of_own {base : Nat} {e : TypeId} {c : Nat} (h : w.ownsRow base e sz (.slice A n c) n xs) : Rd w w.heap.size sz A n xs := by
  refine ⟨h.1, ?_⟩
  rcases Nat.eq_zero_or_pos n with h0 | h0
  · exact .inl h0
  · obtain ⟨g, cap, hv, _, hlt⟩ := h.form h0
    have hA : A = some ⟨g, 0, none⟩ := by injection hv
    subst hA
    refine .inr ⟨g, 0, rfl, hlt, fun i v hv => ?_⟩
    have := h.cells (g := g) rfl i v hv
    rw [Nat.zero_add]
    unfold Addr.add at this
    split at this
    · rename_i h0; subst h0; exact this
    · simpa using this
end

/-- The cells of a list of structs. -/
def flat {α : Type} (f : α → List Value) (l : List α) : List Value := l.flatMap f
theorem flat_length {α : Type} {f : α → List Value} {sz : Nat} (hf : ∀ x, (f x).length = sz) (l : List α) : (flat f l).length = l.length * sz := by
  induction l with
  | nil => simp [flat]
  | cons a l ih => simp only [flat, List.flatMap_cons, List.length_append, List.length_cons, hf] at *; rw [ih, Nat.succ_mul]; omega
theorem flat_get {α : Type} {f : α → List Value} {sz : Nat} (hf : ∀ x, (f x).length = sz) {l : List α} {k j : Nat} {x : α} {v : Value} (hx : l[k]? = some x) (hv : (f x)[j]? = some v) : (flat f l)[k * sz + j]? = some v := by
  have hj : j < sz := by rw [← hf x]; exact (List.getElem?_eq_some_iff.1 hv).1
  induction l generalizing k with
  | nil => simp at hx
  | cons a l ih =>
    simp only [flat, List.flatMap_cons]
    cases k with
    | zero =>
      simp at hx; subst hx
      rw [List.getElem?_append_left (by rw [hf]; omega)]
      simpa using hv
    | succ k =>
      rw [List.getElem?_append_right (by rw [hf, Nat.succ_mul]; omega), hf]
      have := ih (k := k) (by simpa using hx)
      simp only [flat] at this
      rw [← this]
      congr 1
      rw [Nat.succ_mul]; omega
theorem flat_getInv {α : Type} {f : α → List Value} {sz : Nat} (hf : ∀ x, (f x).length = sz) (l : List α) (i : Nat) {v : Value} (hv : (flat f l)[i]? = some v) :
    ∃ k j x, i = k * sz + j ∧ j < sz ∧ l[k]? = some x ∧ (f x)[j]? = some v := by
  induction l generalizing i with
  | nil => simp [flat] at hv
  | cons a l ih =>
    simp only [flat, List.flatMap_cons] at hv
    by_cases h : i < sz
    · rw [List.getElem?_append_left (by rw [hf]; exact h)] at hv
      exact ⟨0, i, a, by simp, h, rfl, hv⟩
    · rw [List.getElem?_append_right (by rw [hf]; omega), hf] at hv
      obtain ⟨k, j, x, h1, h2, h3, h4⟩ := ih (i - sz) hv
      exact ⟨k + 1, j, x, by rw [Nat.succ_mul]; omega, h2, by simpa using h3, h4⟩

/-- A slice of structs. -/
def Sl {α : Type} (f : α → List Value) (w : World) (B sz : Nat) (A : Option Addr) (n : Nat) (l : List α) : Prop :=
  l.length = n ∧ (∀ x, (f x).length = sz) ∧ Rd w B sz A n (flat f l)
section
variable {α : Type} {f : α → List Value} {w w' : World} {B B' sz n : Nat} {A : Option Addr} {l : List α}
theorem Sl.at_ (h : Sl f w B sz A n l) {k : Nat} (hk : k < n) : ∃ b o x, A = some ⟨b, o, none⟩ ∧ b < B ∧ l[k]? = some x ∧ ∀ j v, (f x)[j]? = some v → w.cell? ⟨b, o + (k * sz + j), none⟩ = some v := by
  obtain ⟨h1, hf, h2⟩ := h
  obtain ⟨b, o, hA, hb, hc⟩ := h2.at_ (by omega)
  have hl : k < l.length := by omega
  exact ⟨b, o, l[k], hA, hb, List.getElem?_eq_getElem hl, fun j v hv => hc _ v (flat_get hf (List.getElem?_eq_getElem hl) hv)⟩
theorem Sl.below (h : Sl f w B sz A n l) (hb : Below B w w') : Sl f w' B sz A n l := ⟨h.1, h.2.1, h.2.2.below hb⟩
theorem Sl.later (h : Sl f w w.heap.size sz A n l) (hb : Below w.heap.size w w') : Sl f w' w'.heap.size sz A n l := ⟨h.1, h.2.1, h.2.2.later hb⟩
theorem Sl.more (h : Sl f w B sz A n l) (hB : B ≤ B') : Sl f w B' sz A n l := ⟨h.1, h.2.1, h.2.2.more hB⟩
end

/-- A row that the call itself made, of sz cells an element: the cells of a list of structs. -/
def OwnSl {α : Type} (f : α → List Value) (w : World) (g : Nat) (e : TypeId) (sz : Nat) (l : List α) : Prop :=
  (∀ x, (f x).length = sz) ∧ w.rowIs g e (l.length * sz) (fun i => (flat f l)[i]?.getD undef)
section
variable {α : Type} {f : α → List Value} {w w' : World} {sz n g : Nat} {e : TypeId} {l : List α}
theorem OwnSl.sl (h : OwnSl f w g e sz l) : Sl f w w.heap.size sz (some ⟨g, 0, none⟩) l.length l := by
  refine ⟨rfl, h.1, Rd.of_row h.2 (flat_length h.1 l) fun i v hv => ⟨?_, by simp [hv]⟩⟩
  rw [← flat_length h.1 l]
  exact (List.getElem?_eq_some_iff.1 hv).1
theorem OwnSl.lt (h : OwnSl f w g e sz l) : g < w.heap.size := h.2.lt
theorem OwnSl.below {B : Nat} (h : OwnSl f w g e sz l) (hb : Below B w w') (hg : g < B) : OwnSl f w' g e sz l := ⟨h.1, h.2.of_block (hb.block g hg)⟩
theorem OwnSl.later (h : OwnSl f w g e sz l) (hb : Below w.heap.size w w') : OwnSl f w' g e sz l := h.below hb h.lt
end

theorem run_make_any {P : Program} (t e : TypeId) (z : Value) (size bytes : Nat) (ht : P.underlying t = some (.slice e)) (hinfo : (P.info? e).map (fun i => (i.zero, i.size, i.bytes)) = some (some z, size, bytes))
    (kl kc : IntKind) (n : Nat) (hbytes : bytes * n ≤ 281474976710656) (h63 : n ≤ 9223372036854775807) (w : World) :
    (Instr.makeSlice t (.int kl (n : Int)) (.int kc (n : Int))).run P w = .ok (.slice (some ⟨w.heap.size, 0, none⟩) n n) (w.alloc (.cells (madeCells z.cells (n * size)) e)) := by
  obtain ⟨i, hi, hzz⟩ := Option.map_eq_some_iff.1 hinfo
  simp only [Prod.mk.injEq] at hzz
  obtain ⟨hz, hs, hb⟩ := hzz
  have h : ((bytes * n : Nat) : Int) ≤ 281474976710656 := by omega
  rw [Int.natCast_mul] at h
  have hr := run_make (P := P) w t e i z ht hi hz kl kc n n (by omega) (by omega) (by rw [hb]; exact h) (by omega)
  simp only [Int.toNat_natCast, hs] at hr
  exact hr
theorem rowIs_made {w : World} (z : Array Value) (m : Nat) (t : TypeId) : (w.alloc (.cells (madeCells z m) t)).rowIs w.heap.size t m (fun i => z[i % z.size]!) := by
  have := World.rowIs_alloc w (madeCells z m) t (fun i => z[i % z.size]!) (fun i hi => by
    rw [size_madeCells] at hi
    simp [madeCells, hi])
  rwa [size_madeCells] at this

/-- 'out = append(out, x)': one element of one cell onto a row of the call's own. -/
theorem app1 {P : Program} {ops : Array Oper} {rest : List Oper} {o : Oper} {a : Act} {Q : Exit → Act → World → Prop} (hgd : o.guard = none) (s x : Operand) (t : TypeId)
    (ho : o.op = .call { callee := .builtin .append, args := #[s, x], argTypes := #[t, t] })
    (base : Nat) (e : TypeId) (z : Value) (bytes : Nat) (ht : P.underlying t = some (.slice e)) (hinfo : (P.info? e).map (fun i => (i.zero, i.size, i.bytes)) = some (some z, 1, bytes)) (hz1 : z.cells.size = 1)
    (W : World) (u : Value) (hu : u.oneCell' = true) (v : Value) (n : Nat) (xs : List Value) (hs : a.eval s = v) (hown : W.ownsRow base e 1 v n xs) (hx : a.eval x = .slice (some ⟨W.heap.size, 0, none⟩) 1 1)
    (h63 : n + 1 ≤ 1099511627776) (hbytes : bytes ≤ 64) (hbase : base ≤ W.heap.size)
    (h : ∀ v' w', w'.ownsRow base e 1 v' (n + 1) (xs ++ [u]) → Below base W w' → W.grownBy w' v.ownBlock → wpList P ops Q rest (a.put o.dst v') w') : wpList P ops Q (o :: rest) a (W.alloc (.cells #[u] e)) := by
  obtain ⟨i, hi, hzz⟩ := Option.map_eq_some_iff.1 hinfo
  simp only [Prod.mk.injEq] at hzz
  obtain ⟨hz, hs1, hb1⟩ := hzz
  have hmul : (n + 1) * bytes ≤ (n + 1) * 64 := Nat.mul_le_mul_left _ hbytes
  refine wpList_append_own (W.alloc (.cells #[u] e)) hgd s x t ho base e i z 1 bytes ht hi hz hs1 hb1 hz1 (by omega) v n xs hs (hown.alloc _) ⟨W.heap.size, 0, none⟩ 1 1 [u] hx rfl ?_ ?_ (by simp only [maxLen]; omega) (by omega) (by simp; omega) ?_
  · intro j q hj
    match j, hj with
    | 0, hj =>
      simp at hj; subst hj
      rw [show (⟨W.heap.size, 0, none⟩ : Addr).add 0 = ⟨W.heap.size, 0, none⟩ by simp [Addr.add]]
      simp [go_sem]
  · intro q hq
    simp at hq; subst hq; exact hu
  · intro v' w' h1 h2 _
    have h3 : W.grownBy w' v.ownBlock := ⟨h2.os, h2.tape, h2.output, Nat.le_trans (by simp) h2.size, fun k hk hne => (h2.block k (by simp; omega) hne).trans (Below.heap_alloc _ _ _ hk)⟩
    exact h v' w' h1 ((Below.refl _ _).grown h3 hbase fun k hk => (hown.lt k hk).1) h3
end Go.Proofs.Ytkpnkilpaokkcaa
