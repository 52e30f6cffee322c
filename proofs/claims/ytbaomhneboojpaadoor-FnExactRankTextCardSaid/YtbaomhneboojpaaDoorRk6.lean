/- Contracts: HeatsOf. -/
import Derived.Test.YtbaomhneboojpaaDoorRk5
import Derived.Test.YtbaomhneboojpaaDoorRw
namespace Go.Proofs.YtbaomhneboojpaaDoor
open Go.RowKit Go.BigFrame
attribute [local go_sem] sub_cell sub_frozen drewN_setCell

def heatN (h : Int) (k : Nat) : Int := if h ≤ (k : Int) % (2 * h) then 2 * h - 1 - (k : Int) % (2 * h) else (k : Int) % (2 * h)
theorem heatN_hi {h : Int} {k : Nat} (c : h ≤ (k : Int) % (2 * h)) : heatN h k = 2 * h - 1 - (k : Int) % (2 * h) := if_pos c
theorem heatN_lo {h : Int} {k : Nat} (c : ¬ h ≤ (k : Int) % (2 * h)) : heatN h k = (k : Int) % (2 * h) := if_neg c
def heatP (o : List Nat) (h : Int) : List (Nat × Int) := o.zipIdx.map fun p => (p.1, heatN h p.2)
theorem heatP_get {o : List Nat} {h : Int} {k p : Nat} (hp : o[k]? = some p) : (heatP o h)[k]? = some (p, heatN h k) := by
  simp [heatP, hp]
theorem heatP_len (o : List Nat) (h : Int) : (heatP o h).length = o.length := by simp [heatP]
def heatC (l : List TResult) (h : Int) : Int := if ressB l = true then (if betw h 1 10 = true then 0 else 2) else 1
def heatZ (l : List TResult) (h : Int) : List Int := if ressB l = true then (if betw h 1 10 = true then putAll (List.replicate l.length 0) (heatP (rkL (btr l) l.length) h) else []) else []
theorem heatZ_len (l : List TResult) (h : Int) : (heatZ l h).length ≤ 40 := by
  unfold heatZ
  split
  · rename_i h1
    split
    · rw [putAll_len, List.length_replicate]; exact ress_len h1
    · simp
  · simp
/-- Element k of a ranking that is read. -/
theorem rk_at {w : World} {base n c k : Nat} {B : Option Addr} {e : TypeId} {lt : Nat → Nat → Bool} (hw : Wk lt) (h : w.ownsRow base e 1 (.slice B n c) n ((zl (rkL lt n)).map (Value.int .i64))) (hk : k < n) :
    ∃ g p, B = some ⟨g, 0, none⟩ ∧ base ≤ g ∧ g < w.heap.size ∧ (rkL lt n)[k]? = some p ∧ p < n ∧ w.cell? ⟨g, k, none⟩ = some (.int .i64 p) := by
  have hl := (rkL_ok hw n).len
  obtain ⟨g, cap, hv, h1, h2⟩ := h.form (by omega)
  simp only [Value.slice.injEq, true_and] at hv
  obtain ⟨rfl, rfl⟩ := hv
  have hp : (rkL lt n)[k]? = some (rkL lt n)[k] := List.getElem?_eq_getElem (by omega)
  have hc := h.cells (g := g) rfl k (.int .i64 (rkL lt n)[k]) (by simp [zl, hp])
  rw [Addr.add_lit, Nat.zero_add] at hc
  exact ⟨g, _, rfl, h1, h2, hp, (rkL_ok hw n).lt_ (List.mem_of_getElem? hp), hc⟩

end Go.Proofs.YtbaomhneboojpaaDoor
