/- Lists of things with names: each is valid, and no name stands twice. No program in sight. -/
import Derived.Test.YtkpnkilpaokkcaaBt
import Derived.Test.YtkpnkilpaokkcaaSb
namespace Go.Proofs.Ytkpnkilpaokkcaa
open Go.RowKit
section
variable {α : Type} {ok : α → Bool} {nm : α → ByteArray} {l : List α} {k : Nat} {x : α}
/-- Element i is valid, and its name is new. -/
def okAt (ok : α → Bool) (nm : α → ByteArray) (l : List α) (i : Nat) : Bool := match l[i]? with | some x => ok x && decide (nm x ∉ (l.take i).map nm) | none => false
def listOk (ok : α → Bool) (nm : α → ByteArray) (l : List α) : Bool := allN (okAt ok nm l) l.length
theorem okAt_ok (hx : l[k]? = some x) (h : ok x = true) (hn : nm x ∉ (l.take k).map nm) : okAt ok nm l k = true := by simp only [okAt, hx, h, Bool.true_and]; exact decide_eq_true hn
theorem okAt_bad (hx : l[k]? = some x) (h : ok x = false) : okAt ok nm l k = false := by simp [okAt, hx, h]
theorem okAt_old (hx : l[k]? = some x) (hn : nm x ∈ (l.take k).map nm) : okAt ok nm l k = false := by simp only [okAt, hx, Bool.and_eq_false_iff]; exact .inr (decide_eq_false (fun h => h hn))
theorem lt_of_at (hx : l[k]? = some x) : k < l.length := (List.getElem?_eq_some_iff.1 hx).1
theorem listOk_bad (hx : l[k]? = some x) (h : okAt ok nm l k = false) : listOk ok nm l = false := allN_bad (lt_of_at hx) h
theorem listOk_end {n : Nat} (hl : l.length = n) (h : allN (okAt ok nm l) n = true) : listOk ok nm l = true := by subst hl; exact h
theorem listOk_at (h : listOk ok nm l = true) (hx : l[k]? = some x) : ok x = true := by
  have := allN_at h (lt_of_at hx)
  simp only [okAt, hx, Bool.and_eq_true] at this
  exact this.1
theorem listOk_mem (h : listOk ok nm l = true) (hx : x ∈ l) : ok x = true := by
  obtain ⟨k, hk⟩ := List.getElem?_of_mem hx
  exact listOk_at h hk
/-- The names so far, the last one first. -/
def nmsR (nm : α → ByteArray) (l : List α) (k : Nat) : List ByteArray := ((l.take k).map nm).reverse
theorem nmsR_zero (nm : α → ByteArray) (l : List α) : nmsR nm l 0 = [] := rfl
theorem nmsR_succ (hx : l[k]? = some x) : nmsR nm l (k + 1) = nm x :: nmsR nm l k := by simp [nmsR, List.take_add_one, hx]
theorem nmsR_mem {s : ByteArray} : s ∈ nmsR nm l k ↔ s ∈ (l.take k).map nm := by simp [nmsR]
theorem nmsR_len : (nmsR nm l k).length ≤ k := by simp [nmsR]; omega
theorem notin_succ {s : ByteArray} {q : Nat} (hx : l[q]? = some x) (h : s ∉ (l.take q).map nm) (hne : s ≠ nm x) : s ∉ (l.take (q + 1)).map nm := by
  rw [List.take_add_one, hx, List.map_append, List.mem_append]
  rintro (h1 | h1)
  · exact h h1
  · simp at h1; exact hne h1
theorem in_later {s : ByteArray} {q k : Nat} (hx : l[q]? = some x) (hq : q < k) (he : s = nm x) : s ∈ (l.take k).map nm := by
  subst he
  refine List.mem_map_of_mem (List.mem_of_getElem? (i := q) ?_)
  rw [List.getElem?_take, if_pos hq, hx]
end
theorem txt_eq {s t : ByteArray} (h : s = t) : (s.toList == t.toList) = true := by subst h; exact beq_self_eq_true _
theorem txt_ne {s t : ByteArray} (h : s ≠ t) : (s.toList == t.toList) = false := by
  rw [beq_eq_false_iff_ne]
  intro e
  rw [ByteArray.toList_eq, ByteArray.toList_eq] at e
  apply h
  cases s with | mk a => cases t with | mk b => cases a with | mk a => cases b with | mk b => simp at e; simp [e]
end Go.Proofs.Ytkpnkilpaokkcaa
