/- Slices of strings that came in: their mirrors. -/
import Derived.Test.YthgoofjojanakaaMem
import Derived.Test.YthgoofjojanakaaOpen
import Derived.Test.YthgoofjojanakaaTw
import Derived.Test.YthgoofjojanakaaSb
namespace Go.Proofs.Ythgoofjojanakaa
open Go.RowKit Go.BigFrame
attribute [local go_sem] sub_cell sub_frozen drewN_setCell

/-- The cell of a text. -/
def txC (x : ByteArray) : List Value := [.string x]
theorem txC_len (x : ByteArray) : (txC x).length = 1 := rfl
theorem flat_tx (l : List ByteArray) : flat txC l = l.map Value.string := by
  induction l with
  | nil => rfl
  | cons a l ih => simp only [flat, List.flatMap_cons, List.map_cons] at *; rw [ih]; rfl
abbrev Ts (w : World) (A : Option Addr) (n : Nat) (l : List ByteArray) : Prop := Sl txC w w.heap.size 1 A n l
theorem tx_at {w wr : World} {A : Option Addr} {n k : Nat} {l : List ByteArray} (h : Ts w A n l) (hb : Below w.heap.size w wr) (hk : k < n) :
    ∃ b o u, A = some ⟨b, o, none⟩ ∧ b < wr.heap.size ∧ b < w.heap.size ∧ l[k]? = some u ∧ wr.cell? ⟨b, o + k, none⟩ = some (.string u) := by
  obtain ⟨b, o, u, hA, hlt, hx, hc⟩ := h.at_ hk
  have := hb.size
  refine ⟨b, o, u, hA, by omega, hlt, hx, ?_⟩
  have h0 := hc 0 _ rfl
  rw [Nat.mul_one, Nat.add_zero] at h0
  exact (hb.cell (p := ⟨b, o + k, none⟩) hlt).trans h0
/-- .. where the slice's place is known. -/
theorem tx_atB {w wr : World} {b o n k : Nat} {l : List ByteArray} (h : Ts w (some ⟨b, o, none⟩) n l) (hb : Below w.heap.size w wr) (hk : k < n) :
    ∃ u, b < wr.heap.size ∧ b < w.heap.size ∧ l[k]? = some u ∧ wr.cell? ⟨b, o + k, none⟩ = some (.string u) := by
  obtain ⟨b', o', u, hA, r⟩ := tx_at h hb hk
  simp only [Option.some.injEq, Addr.mk.injEq, and_true] at hA
  obtain ⟨rfl, rfl⟩ := hA
  exact ⟨u, r⟩
set_option maxHeartbeats 1000000 in
theorem c_szStringS (A : Option Addr) (n c : Nat) (l : List ByteArray) (left r : Int) (w : World) (ha : Ts w A n l) (hs : ∀ x ∈ l, x.size ≤ maxLen) (hn : n ≤ maxLen) (hl : 0 ≤ left) (hl2 : left ≤ 1048576) (h : szV (n + sumW ByteArray.size l) left = r) :
    Calls Try.prog 25 #[.slice A n c, .int .i64 left] w fun e w' => e = .returned (.int .i64 r) ∧ Below w.heap.size w w' := by
  subst h
  unfold maxLen at hn
  have HS := Lib.hid hs
  have HL := Lib.hid ha.1
  clear hs
  by_cases h : left - n < 0
  · rw [szV_neg (by omega)]
    go_enter Try.func25, Try.ntmps25
    go_wp2_with fail
    go_ret
    exact ⟨rfl, Below.refl _ _⟩
  · go_enter Try.func25, Try.ntmps25
    go_wp2_with fail
    go_loopw [1, 5] (fun q i wr => ∃ k : Nat, ∃ v : Int, k ≤ n ∧ i = .int .i64 k ∧ q = .int .i64 v ∧ 0 ≤ v ∧ v ≤ 1048576 ∧ Below w.heap.size w wr ∧ Hid (v = left - n - (sumW ByteArray.size (l.take k) : Nat))) (fun _ i _ => n - (intOf i).toNat)
    case atStart => exact ⟨0, left - n, Nat.zero_le _, rfl, rfl, by omega, by omega, Below.refl _ _, by show left - n = _; simp [sumW]⟩
    case round =>
      obtain ⟨k, v, hk, rfl, rfl, hv0, hv1, hB, hv⟩ := hrel
      have hz := hB.size
      by_cases hlt : k < n
      · obtain ⟨b, o, u, rfl, hb1, hb2, hx, c0⟩ := tx_at ha hB hlt
        have h1 := HS.out _ (List.mem_of_getElem? hx)
        unfold maxLen at h1
        have hst := sumW_step (f := ByteArray.size) hx
        have hst2 := sumW_le (f := ByteArray.size) l (k + 1)
        have HX := Lib.hid hx
        have HV := hv
        clear ha hx hv
        by_cases hq : v - (u.size : Int) < 0
        · have hfin : left - ((n + sumW ByteArray.size l : Nat) : Int) < 0 := by
            have e2 := HV.out
            omega
          have HF := Lib.hid hfin
          clear hst hst2 hfin
          go_wp2_with fail
          go_ret
          exact ⟨by rw [szV_neg HF.out]; rfl, hB⟩
        · have hq' : 0 ≤ v - (u.size : Int) := by omega
          have HST := Lib.hid hst
          clear hst hst2
          go_wp2_with fail
          go_roundw
          case rel => exact ⟨k + 1, v - (u.size : Int), by omega, by go_num, rfl, hq', by omega, hB, by have e1 := HST.out; have e2 := HV.out; show v - _ = _; omega⟩
          case measure => simp [intOf]; omega
      · go_wp2_with fail
        go_ret
        obtain rfl : k = n := by omega
        have e2 := hv.out
        rw [List.take_of_length_le (by rw [HL.out]; omega)] at e2
        exact ⟨by rw [szV_pos (by omega)]; exact ret_int (by omega), hB⟩
set_option maxHeartbeats 1000000 in
theorem c_eqStringS (A B : Option Addr) (n c d : Nat) (l : List ByteArray) (w : World) (ha : Ts w A n l) (hb : Ts w B n l) (hn : n ≤ 4611686018427387904) :
    Calls Try.prog 29 #[.slice A n c, .slice B n d] w fun r w' => r = .returned (.bool true) ∧ Below w.heap.size w w' := by
  go_enter Try.func29, Try.ntmps29
  go_wp2_with fail
  go_loopw [5] (fun i wr => ∃ k : Nat, k ≤ n ∧ i = .int .i64 k ∧ Below w.heap.size w wr) (fun i _ => n - (intOf i).toNat)
  case atStart => exact ⟨0, Nat.zero_le _, rfl, Below.refl _ _⟩
  case round =>
    obtain ⟨k, hk, rfl, hB⟩ := hrel
    by_cases hlt : k < n
    · obtain ⟨b, o, u, rfl, hb1, hb2, hx, c0⟩ := tx_at ha hB hlt
      obtain ⟨b', o', u', rfl, hb1', hb2', hx', c0'⟩ := tx_at hb hB hlt
      rw [hx] at hx'
      simp only [Option.some.injEq] at hx'
      subst hx'
      have hz := hB.size
      clear ha hb hx
      go_wp2_with fail
      refine wp_region_below (by kernel_rfl) (by kernel_rfl) ?_
      repeat (go_big_quiet_step (fail))
      refine wpQuiet_nil ?_
      intro _ hw'
      obtain ⟨⟨w9, hb9⟩, hw''⟩ := hw'
      subst hw''
      have hB1 := hB.trans (hb9.mono hz)
      go_wp2_with fail
      go_roundw
      case rel => exact ⟨k + 1, by omega, by go_num, hB1⟩
      case measure => simp [intOf]; omega
    · go_wp2_with fail
      go_ret
      exact ⟨rfl, hB⟩
theorem info_string : (Try.prog.info? 9).map (fun i => (i.zero, i.size, i.bytes)) = some (some (.string ByteArray.empty), 1, 16) := by kernel_rfl
theorem tx_fill {w : World} {g : Nat} {e : TypeId} {m k : Nat} {z : Nat → Value} {l : List ByteArray} {u : ByteArray} (hx : l[k]? = some u)
    (h : w.rowIs g e m (fun i => if i < k then (flat txC l)[i]?.getD undef else z i)) :
    (w.setCell ⟨g, k, none⟩ (.string u)).rowIs g e m (fun i => if i < k + 1 then (flat txC l)[i]?.getD undef else z i) := by
  refine (h.set _ _).congr fun i _ => ?_
  by_cases h0 : i = k
  · subst h0
    rw [if_pos rfl, if_pos (by omega), flat_tx]
    simp [hx]
  rw [if_neg h0]
  by_cases hk : i < k
  · rw [if_pos hk, if_pos (by omega)]
  · rw [if_neg hk, if_neg (by omega)]
set_option maxHeartbeats 1000000 in
theorem c_toStringS (A : Option Addr) (n c : Nat) (l : List ByteArray) (w : World) (ha : Ts w A n l) (hn : n ≤ 1048576) :
    Calls Try.prog 27 #[.slice A n c] w fun r w' => r = .returned (.slice (some ⟨w.heap.size, 0, none⟩) n n) ∧ OwnSl txC w' w.heap.size 9 1 l ∧ Below w.heap.size w w' := by
  have hl := ha.1
  have hmk := run_make_any (P := Try.prog) 36 9 _ 1 16 Try.underlying36 info_string .i64 .i64 n (by omega) (by omega)
  simp only [Nat.mul_one] at hmk
  have HL := Lib.hid hl
  clear hl
  go_enter Try.func27, Try.ntmps27
  go_wp2_with fail
  go_loopw [4] (fun i wr => ∃ k : Nat, k ≤ n ∧ i = .int .i64 k ∧ Below w.heap.size w wr ∧ wr.rowIs w.heap.size 9 n (fun i => if i < k then (flat txC l)[i]?.getD undef else (Value.cells (.string ByteArray.empty))[i % (Value.cells (.string ByteArray.empty)).size]!)) (fun i _ => n - (intOf i).toNat)
  case atStart => exact ⟨0, Nat.zero_le _, rfl, by (repeat' (first | (with_reducible exact Below.refl _ _) | (with_reducible assumption) | (with_reducible refine below_drewN ?_ _) | (with_reducible refine Below.drew ?_) | (with_reducible refine Below.alloc ?_ ?_ _) | (with_reducible refine Below.setCell ?_ ?_ _) | go_size)), (rowIs_made _ _ _).congr fun i _ => (if_neg (by omega)).symm⟩
  case round =>
    obtain ⟨k, hk, rfl, hB, hrow⟩ := hrel
    by_cases hlt : k < n
    · obtain ⟨b, o, u, rfl, hb1, hb2, hx, c0⟩ := tx_at ha hB hlt
      have hg := hrow.lt
      obtain ⟨v0, r0⟩ : ∃ v, wr.cell? ⟨w.heap.size, k, none⟩ = some v := ⟨_, hrow.cell (by omega)⟩
      have f0 := hrow.frozen k
      have HX := Lib.hid hx
      have HR := Lib.hid hrow
      clear ha hx hrow hmk
      go_wp2_with fail
      go_roundw
      case rel => exact ⟨k + 1, by omega, by go_num, by (repeat' (first | (with_reducible exact Below.refl _ _) | (with_reducible assumption) | (with_reducible refine below_drewN ?_ _) | (with_reducible refine Below.drew ?_) | (with_reducible refine Below.alloc ?_ ?_ _) | (with_reducible refine Below.setCell ?_ ?_ _) | go_size)), tx_fill HX.out HR.out⟩
      case measure => simp [intOf]; omega
    · go_wp2_with fail
      go_ret
      refine ⟨rfl, ⟨txC_len, ?_⟩, hB⟩
      rw [HL.out, Nat.mul_one]
      exact hrow.congr fun i hi => by rw [if_pos (by omega)]
open Go.ChangeShapes Go.WideShapes Go.Deep
def InTx (w : World) (A : Option Addr) (n : Nat) (l : List ByteArray) : Prop := Ts w A n l ∧ (∀ x ∈ l, x.size ≤ maxLen) ∧ n ≤ maxLen
theorem txs_of {H : Type} {enc : TypeId × Value → H} {w : World} {spare : Nat → Bool} {held : Bool} {A : Option Addr} {n c : Nat} {d : DataW H} {p : List MemPlace}
    (h : DataW.Trod enc Try.prog w 0 spare held 36 (.slice A n c) d p) : ∃ l, InTx w A n l := by
  obtain ⟨fuel, hf⟩ := h
  simp only [Value.cells] at hf
  exact sl_of_trod txC 1 (by omega) (fun x => x.size ≤ maxLen) Try.underlying36 (by kernel_rfl) txC_len (fun fuel cs y hy => by
    obtain ⟨z, hz, _, wz⟩ := DataW.trod_string Try.underlying9 hy
    exact ⟨z, hz.symm, wz⟩) hf
end Go.Proofs.Ythgoofjojanakaa
