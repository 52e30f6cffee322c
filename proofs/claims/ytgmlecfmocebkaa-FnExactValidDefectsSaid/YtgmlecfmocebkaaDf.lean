/- Contracts: defects and prices that are valid. -/
import Derived.Test.YtgmlecfmocebkaaSlDefect
import Derived.Test.YtgmlecfmocebkaaNm
import Derived.Test.YtgmlecfmocebkaaLo
import Derived.Test.YtgmlecfmocebkaaMp
import Derived.Test.YtgmlecfmocebkaaI64
namespace Go.Proofs.Ytgmlecfmocebkaa
open Go.RowKit Go.BigFrame
attribute [local go_sem] sub_cell sub_frozen drewN_setCell

def bitB (c : UInt8) : Bool := c == 48 || c == 49
def okDef (q : Nat) (x : TDefect) : Bool := (bl x.2.2).all bitB && (nameB (bl x.1) && (betw x.2.1 1 1000 && decide (x.2.2.size = q)))
def defsB (q : Nat) (l : List TDefect) : Bool := listOk (okDef q) (·.1) l && decide (l.length ≤ 10)
def pricesB (z : List Int) : Bool := z.all (betw · 1 100) && decide (z.length ≤ 6)
def vdefB (l : List TDefect) (z : List Int) : Bool := pricesB z && defsB z.length l
theorem bits_bad {q : Nat} {nm sg : ByteArray} {wt : Int} {k : Nat} {c : UInt8} (h : (bl sg)[k]? = some c) (hc : bitB c = false) : okDef q (nm, wt, sg) = false := by
  simp only [okDef, Bool.and_eq_false_iff]
  left
  rw [List.all_eq_false]
  exact ⟨c, List.mem_of_getElem? h, by simp [hc]⟩
theorem bits_end {sg : ByteArray} (h : ((bl sg).take sg.size).all bitB = true) : (bl sg).all bitB = true := by
  rwa [List.take_of_length_le (by rw [bl_len]; omega)] at h

set_option maxHeartbeats 2000000 in
theorem c_l23One (nm : ByteArray) (wt : Int) (sg : ByteArray) (q : Nat) (b o : Nat) (r : Bool) (h : okDef q (nm, wt, sg) = r) (w : World) (h0 : w.cell? ⟨b, o, none⟩ = some (.string nm)) (h1 : w.cell? ⟨b, o + 1, none⟩ = some (.int .i64 wt)) (h2 : w.cell? ⟨b, o + 2, none⟩ = some (.string sg)) (hn : nm.size ≤ maxLen) (hs : sg.size ≤ maxLen) :
    Calls Try.prog 70 #[.pointer (some ⟨b, o, none⟩), .int .i64 (q : Int)] w fun e w' => e = .returned (.bool r) ∧ w = w' := by
  subst h
  have HN := Lib.hid hn
  clear hn
  unfold maxLen at hs
  go_enter Try.func70, Try.ntmps70
  go_wp2_with fail
  go_loop [5] (fun i => ∃ k : Nat, k ≤ sg.size ∧ i = .int .i64 k ∧ Hid (((bl sg).take k).all bitB = true)) (fun i => sg.size - (intOf i).toNat)
  case atStart => exact ⟨0, Nat.zero_le _, rfl, rfl⟩
  case round =>
    obtain ⟨k, hk, rfl, hh⟩ := hrel
    by_cases hlt : k < sg.size
    · have hg := Lib.hid (bl_get sg k hlt)
      have q0 := u8_litn (a := sg[k]) (c := 48) (n := 48) rfl
      have q1 := u8_litn (a := sg[k]) (c := 49) (n := 49) rfl
      cases f0 : (sg[k] == 48) <;> rw [f0] at q0 <;> have F0 := Lib.hid f0 <;> clear f0
      · cases f1 : (sg[k] == 49) <;> rw [f1] at q1 <;> have F1 := Lib.hid f1 <;> clear f1
        · go_wp2_with fail
          go_ret
          exact ⟨by rw [bits_bad hg.out (by simp only [bitB, F0.out, F1.out]; rfl)]; rfl, rfl⟩
        · go_wp2_with fail
          go_round
          case rel => exact ⟨k + 1, by omega, by go_num, all_bytes hg.out hh.out (by simp only [bitB, F1.out, Bool.or_true])⟩
          case measure => simp [intOf]; omega
      · go_wp2_with fail
        go_round
        case rel => exact ⟨k + 1, by omega, by go_num, all_bytes hg.out hh.out (by simp only [bitB, F0.out, Bool.true_or])⟩
        case measure => simp [intOf]; omega
    · obtain rfl : k = sg.size := by omega
      have HB := Lib.hid (bits_end hh.out)
      cases g1 : nameB (bl nm)
      · have G1 := Lib.hid g1
        clear g1
        go_wp2_with (go_at_call 72; refine (c_sIsName _ _ G1.out _ HN.out).mono ?_; rintro e w' ⟨rfl, rfl⟩)
        go_ret
        exact ⟨by simp only [okDef, HB.out, G1.out]; rfl, rfl⟩
      · have G1 := Lib.hid g1
        clear g1
        cases g2 : betw wt 1 1000
        · have G2 := Lib.hid g2
          clear g2
          go_wp2_with (first | (go_at_call 72; refine (c_sIsName _ _ G1.out _ HN.out).mono ?_; rintro e w' ⟨rfl, rfl⟩) | (go_at_call 68; refine (c_l00In _ _ _ _ G2.out _).mono ?_; rintro e w' ⟨rfl, rfl⟩))
          go_ret
          exact ⟨by simp only [okDef, HB.out, G1.out, G2.out]; rfl, rfl⟩
        · have G2 := Lib.hid g2
          clear g2
          by_cases g3 : sg.size = q
          · have e3 : ((sg.size : Int) == (q : Int)) = true := by simp [g3]
            have G3 := Lib.hid g3
            clear g3
            go_wp2_with (first | (go_at_call 72; refine (c_sIsName _ _ G1.out _ HN.out).mono ?_; rintro e w' ⟨rfl, rfl⟩) | (go_at_call 68; refine (c_l00In _ _ _ _ G2.out _).mono ?_; rintro e w' ⟨rfl, rfl⟩))
            go_ret
            exact ⟨by simp only [okDef, HB.out, G1.out, G2.out, decide_eq_true G3.out]; rfl, rfl⟩
          · have e3 : ((sg.size : Int) == (q : Int)) = false := by simp; omega
            have G3 := Lib.hid g3
            clear g3
            go_wp2_with (first | (go_at_call 72; refine (c_sIsName _ _ G1.out _ HN.out).mono ?_; rintro e w' ⟨rfl, rfl⟩) | (go_at_call 68; refine (c_l00In _ _ _ _ G2.out _).mono ?_; rintro e w' ⟨rfl, rfl⟩))
            go_ret
            exact ⟨by simp only [okDef, HB.out, G1.out, G2.out, decide_eq_false G3.out]; rfl, rfl⟩
end Go.Proofs.Ytgmlecfmocebkaa
