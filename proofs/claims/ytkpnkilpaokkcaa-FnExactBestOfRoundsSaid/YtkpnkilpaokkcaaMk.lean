/- Marks as texts; stores into a row, place by place. -/
import Derived.Test.YtkpnkilpaokkcaaI64
import Derived.Test.YtkpnkilpaokkcaaTw
import Derived.Test.YtkpnkilpaokkcaaBy
import Derived.Laws.Rows
namespace Go.Proofs.Ytkpnkilpaokkcaa
open Go.RowKit Go.BigFrame
attribute [local go_sem] sub_cell sub_frozen drewN_setCell

theorem sb_app (a b : List UInt8) : sb a ++ sb b = sb (a ++ b) := by
  apply sb_ext
  rw [bl_sb]
  simp [bl, sb]
theorem digA_step (q : Nat) (t : List UInt8) (h : 0 < q) : digA q t = digA (q / 10) (UInt8.ofNat (48 + q % 10) :: t) := by
  cases q with
  | zero => omega
  | succ q => rw [digA]
theorem digA_zero (t : List UInt8) : digA 0 t = t := by rw [digA]
theorem dig_toNat (q : Nat) : (UInt8.ofNat (48 + q % 10)).toNat = 48 + q % 10 := by
  rw [UInt8.toNat_ofNat_of_lt']
  have := Nat.mod_lt q (show 10 > 0 by omega)
  show _ < 256
  omega
/-- One byte as a text. -/
theorem conv_one (W : World) (d : UInt8) : (convert 54 9 (.slice (some ⟨W.heap.size, 0, none⟩) 1 1)).run Try.prog (W.alloc (.cells #[.int .u8 (d.toNat : Int)] 5)) = .ok (.string (sb [d])) (W.alloc (.cells #[.int .u8 (d.toNat : Int)] 5)) := by
  refine run_convert_bytes_back (P := Try.prog) _ 54 9 5 ⟨W.heap.size, 0, none⟩ 1 [d] Try.underlying54 Try.underlying5 Try.underlying9 fun j hj => ?_
  obtain rfl : j = 0 := by simpa using hj
  rw [Addr.add_lit]
  simp [go_sem]

set_option maxHeartbeats 1000000 in
theorem c_markText (k : Nat) (hk : 0 < k) (hk2 : k ≤ 1099511627776) (w : World) :
    Calls Try.prog 20 #[.int .i64 k] w fun r w' => r = .returned (.string (mtx k)) ∧ Below w.heap.size w w' := by
  have h0 : ¬ (k : Int) ≤ 0 := by omega
  have hkz : ¬ k = 0 := by omega
  go_enter Try.func20, Try.ntmps20
  go_wp2_with fail
  go_loopw [0, 3] (fun q s wr => ∃ (n : Nat) (t : List UInt8), q = .int .i64 n ∧ s = .string (sb t) ∧ t.length + n ≤ k ∧ Below w.heap.size w wr ∧ Hid (digA n t = digA k [])) (fun q _ _ => (intOf q).toNat)
  case atStart => exact ⟨k, [], rfl, rfl, by simp, Below.refl _ _, rfl⟩
  case round =>
    obtain ⟨n, t, rfl, rfl, hle, hB, hd⟩ := hrel
    have hz := hB.size
    by_cases hn : 0 < n
    · have hn0 : (0 : Int) < n := by omega
      have hst := digA_step n t hn
      have hdn := dig_toNat n
      generalize UInt8.ofNat (48 + n % 10) = d at hst hdn
      have HST : Hid (digA (n / 10) (d :: t) = digA k []) := hst.symm.trans hd.out
      have hcv : ∀ W : World, (convert 3 5 (.int .i64 (48 + (n : Int) % 10))).run Try.prog W = .ok (.int .u8 (d.toNat : Int)) W := by
        intro W
        have h5 : Try.prog.intKind 5 = .u8 := by kernel_rfl
        rw [run_convert_int (P := Try.prog) W 3 5 .i64 _ (by rw [Try.underlying3]; rfl) (by rw [h5]; exact Try.underlying5), h5, hdn]
        have e : IntKind.u8.wrap (48 + (n : Int) % 10) = ((48 + n % 10 : Nat) : Int) := by
          simp [IntKind.wrap, IntKind.signed, IntKind.bits]; omega
        rw [e]
      have hc1 := conv_one wr d
      have hap := sb_app [d] t
      have hl1 := sb_size [d]
      have hl2 := sb_size t
      clear hd hst hdn
      go_wp2_with fail
      go_roundw
      case rel => exact ⟨n / 10, d :: t, by go_num, rfl, by simp only [List.length_cons]; omega, hB.alloc hz _, HST⟩
      case measure => simp [intOf]; omega
    · obtain rfl : n = 0 := by omega
      have hl2 := sb_size t
      have hap := sb_app [109] t
      have hx : Hid (mtx k = sb (109 :: t)) := by
        show _ = _
        rw [mtx, mtxL, if_neg hkz, ← hd.out, digA_zero]; rfl
      clear hd
      go_wp2_with fail
      go_ret
      exact ⟨by rw [hx.out]; rfl, hB⟩
theorem c_markTextI (z : Int) (k : Nat) (hz : z = (k : Int)) (hk : 0 < k) (hk2 : k ≤ 1099511627776) (w : World) :
    Calls Try.prog 20 #[.int .i64 z] w fun r w' => r = .returned (.string (mtx k)) ∧ Below w.heap.size w w' := by subst hz; exact c_markText k hk hk2 w
/-- A store at the next place of a row that is filled. -/
theorem row_step {w : World} {g m j : Nat} {e : TypeId} {f z : Nat → Value} {v : Value} (h : w.rowIs g e m (fun i => if i < j then f i else z i)) (hv : f j = v) : (w.setCell ⟨g, j, none⟩ v).rowIs g e m (fun i => if i < j + 1 then f i else z i) := by
  refine (h.set _ _).congr fun i _ => ?_
  by_cases h0 : i = j
  · subst h0; rw [if_pos rfl, if_pos (by omega), hv]
  rw [if_neg h0]
  by_cases hk : i < j
  · rw [if_pos hk, if_pos (by omega)]
  · rw [if_neg hk, if_neg (by omega)]
theorem gb_below {w a b : World} {r : Option Nat} (h : w.grownBy a r) (hb : Below a.heap.size a b) : w.grownBy b r :=
  ⟨hb.os.trans h.os, hb.tape.trans h.tape, hb.output.trans h.output, Nat.le_trans h.size hb.size, fun k hk hne => (hb.block k (Nat.lt_of_lt_of_le hk h.size)).trans (h.block k hk hne)⟩
/-- Two rows of the call's own, the first one older: they share no block. -/
theorem own_sep {wi wj : World} {bX bY nX nY sX sY : Nat} {eX eY : TypeId} {vX vY : Value} {xX xY : List Value} (hX : wi.ownsRow bX eX sX vX nX xX) (hY : wj.ownsRow bY eY sY vY nY xY) (hle : wi.heap.size ≤ bY) : vX.ownBlock = none ∨ vX.ownBlock ≠ vY.ownBlock := by
  cases h : vX.ownBlock with
  | none => exact .inl rfl
  | some k =>
    right
    intro e
    have h1 := (hX.lt k h).2
    have h2 := (hY.lt k e.symm).1
    omega
theorem own_sep' {wi wj : World} {bX bY nX nY sX sY : Nat} {eX eY : TypeId} {vX vY : Value} {xX xY : List Value} (hX : wi.ownsRow bX eX sX vX nX xX) (hY : wj.ownsRow bY eY sY vY nY xY) (hle : wi.heap.size ≤ bY) : vY.ownBlock = none ∨ vY.ownBlock ≠ vX.ownBlock := by
  cases h : vY.ownBlock with
  | none => exact .inl rfl
  | some k =>
    right
    intro e
    have h1 := (hX.lt k e.symm).2
    have h2 := (hY.lt k h).1
    omega
end Go.Proofs.Ytkpnkilpaokkcaa
