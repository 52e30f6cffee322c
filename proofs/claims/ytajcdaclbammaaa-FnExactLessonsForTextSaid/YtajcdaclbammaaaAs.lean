/- Contract: impl.ascending, the marked bytes in their order. -/
import Derived.Test.YtajcdaclbammaaaSo
import Derived.Test.YtajcdaclbammaaaAr
import Derived.Test.YtajcdaclbammaaaBy
import Derived.Test.YtajcdaclbammaaaMem
namespace Go.Proofs.Ytajcdaclbammaaa
open Go.RowKit Go.BigFrame
attribute [local go_sem] sub_cell sub_frozen drewN_setCell

def memB (S : List UInt8) (c : UInt8) : Bool := decide (c ∈ S)
theorem srtN_yes {p : UInt8 → Bool} {k : Nat} (h : p (UInt8.ofNat k) = true) : srtN p (k + 1) = srtN p k ++ [UInt8.ofNat k] := by simp [srtN, h]
theorem srtN_no {p : UInt8 → Bool} {k : Nat} (h : p (UInt8.ofNat k) = false) : srtN p (k + 1) = srtN p k := by simp [srtN, h]
theorem srtN_len (p : UInt8 → Bool) {k : Nat} (hk : k ≤ 256) : (srtN p k).length ≤ k := by
  have := Rsg_len (srtN_rsg p k hk) (by omega)
  simp only [byZ, List.length_map] at this
  omega
/-- An int as a byte. -/
theorem conv_byte (k : Nat) (hk : k < 256) (W : World) : (convert 3 5 (.int .i64 (k : Int))).run Try.prog W = .ok (.int .u8 ((UInt8.ofNat k).toNat : Int)) W := by
  have h5 : Try.prog.intKind 5 = .u8 := by kernel_rfl
  rw [run_convert_int (P := Try.prog) W 3 5 .i64 _ (by rw [Try.underlying3]; rfl) (by rw [h5]; exact Try.underlying5), h5, u8_of k hk]
  have e : IntKind.u8.wrap (k : Int) = (k : Int) := by
    simp [IntKind.wrap, IntKind.signed, IntKind.bits]; omega
  rw [e]
set_option maxHeartbeats 4000000 in
theorem c_ascending (g : Nat) (S : List UInt8) (w : World) (h : w.rowIs g 63 256 (mk S)) :
    Calls Try.prog 45 #[.pointer (some ⟨g, 0, none⟩)] w fun r w' => r = .returned (.string (sb (srt (memB S)))) ∧ Below w.heap.size w w' := by
  have HR := Lib.hid h
  have hg := h.lt
  clear h
  go_enter Try.func45, Try.ntmps45
  go_wp2_with fail
  go_loopw [3, 4, 6] (fun v _ i wr => ∃ k : Nat, k ≤ 256 ∧ i = .int .i64 k ∧ Below w.heap.size w wr ∧ Hid (BRow wr w.heap.size v (srtN (memB S) k))) (fun _ _ i _ => 256 - (intOf i).toNat)
  case atStart => exact ⟨0, Nat.zero_le _, rfl, by (repeat' (first | (with_reducible exact Below.refl _ _) | (with_reducible assumption) | (with_reducible refine below_drewN ?_ _) | (with_reducible refine Below.drew ?_) | (with_reducible refine Below.alloc ?_ ?_ _) | (with_reducible refine Below.setCell ?_ ?_ _) | go_size)), BRow.made _⟩
  case round =>
    obtain ⟨k, hk, rfl, hB, hrow⟩ := hrel
    have hz := hB.size
    by_cases hlt : k < 256
    · have hR1 := HR.out.of_block (hB.block g hg)
      have r0 := hR1.cell hlt
      have hk2 := u8_of k hlt
      have e : mk S k = .bool (memB S (UInt8.ofNat k)) := by rw [← hk2, mk_byte, hk2]; rfl
      rw [e] at r0
      have hl := srtN_len (memB S) hk
      have hkI : (k : Int) < 256 := by omega
      have hg2 : g < wr.heap.size := by omega
      clear hR1 e
      cases hm : memB S (UInt8.ofNat k)
      · have E := Lib.hid (srtN_no hm)
        rw [hm] at r0
        clear hm hk2
        go_wp2_with fail
        go_roundw
        case rel => first | exact ⟨k + 1, by omega, by go_num, hB, by show BRow _ _ _ _; rw [E.out]; exact hrow.out⟩ | ((repeat apply Exists.intro); exact ⟨⟨k + 1, by omega, by go_num, hB, by show BRow _ _ _ _; rw [E.out]; exact hrow.out⟩, rfl⟩)
        case measure => simp [intOf]; omega
      · have E := Lib.hid (srtN_yes hm)
        rw [hm] at r0
        have hcv := conv_byte k hlt
        generalize UInt8.ofNat k = d at hcv E
        clear hm hk2
        go_wp2_with (at_builtin; refine app1 rfl (.tmp 14) (.tmp 17) _ rfl w.heap.size 5 _ 1 Try.underlying80 info_uint8 rfl _ _ rfl _ _ _ rfl hrow.out rfl (by omega) (by omega) hz ?_; intro v' w2 hown2 hb2 hg2; have HO2 := Lib.hid hown2; clear hown2)
        go_roundw
        case rel => first | exact ⟨k + 1, by omega, by go_num, hB.trans hb2, by show BRow _ _ _ _; rw [E.out]; exact BRow.snoc HO2.out⟩ | ((repeat apply Exists.intro); exact ⟨⟨k + 1, by omega, by go_num, hB.trans hb2, by show BRow _ _ _ _; rw [E.out]; exact BRow.snoc HO2.out⟩, rfl⟩)
        case measure => simp [intOf]; omega
    · obtain rfl : k = 256 := by omega
      have hconv := hrow.out.text
      clear hrow
      go_wp2_with fail
      go_ret
      exact ⟨rfl, hB⟩
end Go.Proofs.Ytajcdaclbammaaa
