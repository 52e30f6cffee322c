/- Slices of int64 that came in: their mirrors; a mirror as a row of one's own. -/
import Derived.Test.YtajcdaclbammaaaI64
import Derived.Test.YtajcdaclbammaaaTw
import Derived.Test.YtajcdaclbammaaaOpen
namespace Go.Proofs.Ytajcdaclbammaaa
open Go.RowKit Go.BigFrame
attribute [local go_sem] sub_cell sub_frozen drewN_setCell

theorem ic_fill {w : World} {g : Nat} {e : TypeId} {m k : Nat} {z : Nat → Value} {l : List Int} {u : Int} (hx : l[k]? = some u)
    (h : w.rowIs g e m (fun i => if i < k then (flat ic l)[i]?.getD undef else z i)) :
    (w.setCell ⟨g, k, none⟩ (.int .i64 u)).rowIs g e m (fun i => if i < k + 1 then (flat ic l)[i]?.getD undef else z i) := by
  refine (h.set _ _).congr fun i _ => ?_
  by_cases h0 : i = k
  · subst h0
    rw [if_pos rfl, if_pos (by omega), flat_ic]
    simp [hx]
  rw [if_neg h0]
  by_cases hk : i < k
  · rw [if_pos hk, if_pos (by omega)]
  · rw [if_neg hk, if_neg (by omega)]
set_option maxHeartbeats 1000000 in
theorem c_toInt64S (A : Option Addr) (n c : Nat) (l : List Int) (w : World) (ha : Zs w A n l) (hn : n ≤ 1048576) :
    Calls Try.prog 15 #[.slice A n c] w fun r w' => r = .returned (.slice (some ⟨w.heap.size, 0, none⟩) n n) ∧ OwnSl ic w' w.heap.size 2 1 l ∧ Below w.heap.size w w' := by
  have hl := ha.1
  have hmk := run_make_any (P := Try.prog) 30 2 _ 1 8 Try.underlying30 info_int64 .i64 .i64 n (by omega) (by omega)
  simp only [Nat.mul_one] at hmk
  have HL := Lib.hid hl
  clear hl
  go_enter Try.func15, Try.ntmps15
  go_wp2_with fail
  go_loopw [4] (fun i wr => ∃ k : Nat, k ≤ n ∧ i = .int .i64 k ∧ Below w.heap.size w wr ∧ wr.rowIs w.heap.size 2 n (fun i => if i < k then (flat ic l)[i]?.getD undef else (Value.cells (.int .i64 0))[i % (Value.cells (.int .i64 0)).size]!)) (fun i _ => n - (intOf i).toNat)
  case atStart => exact ⟨0, Nat.zero_le _, rfl, by (repeat' (first | (with_reducible exact Below.refl _ _) | (with_reducible assumption) | (with_reducible refine below_drewN ?_ _) | (with_reducible refine Below.drew ?_) | (with_reducible refine Below.alloc ?_ ?_ _) | (with_reducible refine Below.setCell ?_ ?_ _) | go_size)), (rowIs_made _ _ _).congr fun i _ => (if_neg (by omega)).symm⟩
  case round =>
    obtain ⟨k, hk, rfl, hB, hrow⟩ := hrel
    by_cases hlt : k < n
    · obtain ⟨b, o, z, rfl, hb1, hb2, hx, c0⟩ := z_at ha hB hlt
      have hg := hrow.lt
      obtain ⟨v0, r0⟩ : ∃ v, wr.cell? ⟨w.heap.size, k, none⟩ = some v := ⟨_, hrow.cell (by omega)⟩
      have f0 := hrow.frozen k
      have HX := Lib.hid hx
      have HR := Lib.hid hrow
      clear ha hx hrow hmk
      go_wp2_with fail
      go_roundw
      case rel => exact ⟨k + 1, by omega, by go_num, by (repeat' (first | (with_reducible exact Below.refl _ _) | (with_reducible assumption) | (with_reducible refine below_drewN ?_ _) | (with_reducible refine Below.drew ?_) | (with_reducible refine Below.alloc ?_ ?_ _) | (with_reducible refine Below.setCell ?_ ?_ _) | go_size)), ic_fill HX.out HR.out⟩
      case measure => simp [intOf]; omega
    · go_wp2_with fail
      go_ret
      refine ⟨rfl, ⟨ic_len, ?_⟩, hB⟩
      rw [HL.out, Nat.mul_one]
      exact hrow.congr fun i hi => by rw [if_pos (by omega)]
theorem own_ne_row {w : World} {base n m sz g : Nat} {e e' : TypeId} {v : Value} {xs : List Value} {f : Nat → Value} (h : w.ownsRow base e sz v n xs) (hr : w.rowIs g e' m f) (hne : e ≠ e') : v.ownBlock ≠ some g := by
  intro hk
  rcases h.2 with ⟨rfl, _⟩ | ⟨g', cap, cur, rfl, _, hg, _⟩
  · simp [Value.ownBlock] at hk
  · simp only [Value.ownBlock, Option.some.injEq] at hk
    subst hk
    obtain ⟨cs, h1, _⟩ := hr
    rw [hg] at h1
    simp only [Option.some.injEq, Obj.cells.injEq] at h1
    exact hne h1.2.1
theorem own_ne_cells {w : World} {base n sz g : Nat} {e e' : TypeId} {v : Value} {xs : List Value} {C : Array Value} {fz : Nat × Nat} (h : w.ownsRow base e sz v n xs) (hr : w.heap[g]? = some (.cells C e' fz)) (hne : e ≠ e') : v.ownBlock ≠ some g := by
  intro hk
  rcases h.2 with ⟨rfl, _⟩ | ⟨g', cap, cur, rfl, _, hg, _⟩
  · simp [Value.ownBlock] at hk
  · simp only [Value.ownBlock, Option.some.injEq] at hk
    subst hk
    rw [hg] at hr
    simp only [Option.some.injEq, Obj.cells.injEq] at hr
    exact hne hr.2.1
theorem cells_grown {w w' : World} {row : Option Nat} {g : Nat} {o : Obj} (h : w.heap[g]? = some o) (hg : w.grownBy w' row) (hne : row ≠ some g) : w'.heap[g]? = some o :=
  (hg.block g (Array.getElem?_eq_some_iff.1 h).1 (fun e => hne e.symm)).trans h
theorem row_grown {w w' : World} {row : Option Nat} {g n : Nat} {e : TypeId} {f : Nat → Value} (h : w.rowIs g e n f) (hg : w.grownBy w' row) (hne : row ≠ some g) : w'.rowIs g e n f :=
  h.of_block (hg.block g h.lt (fun e => hne e.symm))
open Go.ChangeShapes Go.WideShapes Go.Deep
/-- A mirror of int64s, as a row of the call's own. -/
theorem OwnSl.own {w : World} {g n base : Nat} {e : TypeId} {l : List Int} (h : OwnSl ic w g e 1 l) (hl : l.length = n) (hb : base ≤ g) (hn : n ≤ maxLen) : w.ownsRow base e 1 (.slice (some ⟨g, 0, none⟩) n n) n (l.map (Value.int .i64)) := by
  subst hl
  obtain ⟨_, cs, h1, h2, h3⟩ := h
  rw [Nat.mul_one] at h2 h3
  refine ⟨by simp, .inr ⟨g, l.length, cs, rfl, hb, h1, Nat.le_refl _, hn, by omega, ?_⟩⟩
  apply List.ext_getElem?
  intro i
  simp only [List.getElem?_take, List.getElem?_map, Nat.mul_one]
  by_cases hi : i < l.length
  · have h4 := h3 i hi
    rw [flat_ic] at h4
    simp [hi] at h4 ⊢
    exact h4
  · simp [hi]
def InZ (w : World) (A : Option Addr) (n : Nat) (l : List Int) : Prop := Zs w A n l ∧ (∀ x ∈ l, wf64 x) ∧ n ≤ maxLen
theorem intsIn_of {H : Type} {enc : TypeId × Value → H} {w : World} {spare : Nat → Bool} {held : Bool} {A : Option Addr} {n c : Nat} {d : DataW H} {p : List MemPlace}
    (h : DataW.Trod enc Try.prog w 0 spare held 30 (.slice A n c) d p) : ∃ l, InZ w A n l := by
  obtain ⟨fuel, hf⟩ := h
  simp only [Value.cells] at hf
  exact sl_of_trod ic 1 (by omega) wf64 Try.underlying30 (by kernel_rfl) ic_len (fun fuel cs y hy => by
    obtain ⟨z, hz, _, wz⟩ := DataW.trod_int Try.underlying2 hy
    exact ⟨z, hz.symm, wf64_of wz⟩) hf
end Go.Proofs.Ytajcdaclbammaaa
