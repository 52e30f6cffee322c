/- Marks as texts; stores into a row, place by place. -/
import Derived.Test.YthgoofjojanakaaI64
import Derived.Test.YthgoofjojanakaaTw
import Derived.Test.YthgoofjojanakaaBy
import Derived.Laws.Rows
namespace Go.Proofs.Ythgoofjojanakaa
open Go.RowKit Go.BigFrame
attribute [local go_sem] sub_cell sub_frozen drewN_setCell

theorem sb_app (a b : List UInt8) : sb a ++ sb b = sb (a ++ b) := by
  apply sb_ext
  rw [bl_sb]
  simp [bl, sb]
theorem digA_step (q : Nat) (t : List UInt8) (h : 0 < q) : digA q t = digA (q / 10) (UInt8.ofNat (48 + q % 10) :: t) := by
  cases q with
  | zero => omega
  | succ q => rw [digA]
theorem digA_zero (t : List UInt8) : digA 0 t = t := by rw [digA]
theorem dig_toNat (q : Nat) : (UInt8.ofNat (48 + q % 10)).toNat = 48 + q % 10 := by
  rw [UInt8.toNat_ofNat_of_lt']
  have := Nat.mod_lt q (show 10 > 0 by omega)
  show _ < 256
  omega
/-- One byte as a text. -/
theorem conv_one (W : World) (d : UInt8) : (convert 51 9 (.slice (some ⟨W.heap.size, 0, none⟩) 1 1)).run Try.prog (W.alloc (.cells #[.int .u8 (d.toNat : Int)] 5)) = .ok (.string (sb [d])) (W.alloc (.cells #[.int .u8 (d.toNat : Int)] 5)) := by
  refine run_convert_bytes_back (P := Try.prog) _ 51 9 5 ⟨W.heap.size, 0, none⟩ 1 [d] Try.underlying51 Try.underlying5 Try.underlying9 fun j hj => ?_
  obtain rfl : j = 0 := by simpa using hj
  rw [Addr.add_lit]
  simp [go_sem]

/-- A store at the next place of a row that is filled. -/
theorem row_step {w : World} {g m j : Nat} {e : TypeId} {f z : Nat → Value} {v : Value} (h : w.rowIs g e m (fun i => if i < j then f i else z i)) (hv : f j = v) : (w.setCell ⟨g, j, none⟩ v).rowIs g e m (fun i => if i < j + 1 then f i else z i) := by
  refine (h.set _ _).congr fun i _ => ?_
  by_cases h0 : i = j
  · subst h0; rw [if_pos rfl, if_pos (by omega), hv]
  rw [if_neg h0]
  by_cases hk : i < j
  · rw [if_pos hk, if_pos (by omega)]
  · rw [if_neg hk, if_neg (by omega)]
theorem gb_below {w a b : World} {r : Option Nat} (h : w.grownBy a r) (hb : Below a.heap.size a b) : w.grownBy b r :=
  ⟨hb.os.trans h.os, hb.tape.trans h.tape, hb.output.trans h.output, Nat.le_trans h.size hb.size, fun k hk hne => (hb.block k (Nat.lt_of_lt_of_le hk h.size)).trans (h.block k hk hne)⟩
/-- Two rows of the call's own, the first one older: they share no block. -/
theorem own_sep {wi wj : World} {bX bY nX nY sX sY : Nat} {eX eY : TypeId} {vX vY : Value} {xX xY : List Value} (hX : wi.ownsRow bX eX sX vX nX xX) (hY : wj.ownsRow bY eY sY vY nY xY) (hle : wi.heap.size ≤ bY) : vX.ownBlock = none ∨ vX.ownBlock ≠ vY.ownBlock := by
  cases h : vX.ownBlock with
  | none => exact .inl rfl
  | some k =>
    right
    intro e
    have h1 := (hX.lt k h).2
    have h2 := (hY.lt k e.symm).1
    omega
theorem own_sep' {wi wj : World} {bX bY nX nY sX sY : Nat} {eX eY : TypeId} {vX vY : Value} {xX xY : List Value} (hX : wi.ownsRow bX eX sX vX nX xX) (hY : wj.ownsRow bY eY sY vY nY xY) (hle : wi.heap.size ≤ bY) : vY.ownBlock = none ∨ vY.ownBlock ≠ vX.ownBlock := by
  cases h : vY.ownBlock with
  | none => exact .inl rfl
  | some k =>
    right
    intro e
    have h1 := (hX.lt k e.symm).2
    have h2 := (hY.lt k h).1
    omega
end Go.Proofs.Ythgoofjojanakaa
