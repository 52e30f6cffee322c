/- Contracts: names. -/
import Derived.Test.YtldhhbnochlmlaaDoorSb
import Derived.Test.YtldhhbnochlmlaaDoorBt
namespace Go.Proofs.YtldhhbnochlmlaaDoor
open Go.RowKit Go.BigFrame
attribute [local go_sem] sub_cell sub_frozen drewN_setCell

def smallB (c : UInt8) : Bool := decide ((97 : Int) ≤ c.toNat) && decide ((c.toNat : Int) ≤ 122)
def digB (c : UInt8) : Bool := decide ((48 : Int) ≤ c.toNat) && decide ((c.toNat : Int) ≤ 57)
def nmB (c : UInt8) : Bool := smallB c || (digB c || c == 45)
def nameB (l : List UInt8) : Bool := decide (l.length ≤ 12) && (l.all nmB && match l with | [] => false | a :: _ => smallB a)
theorem smallB_yes {c : UInt8} (h : smallB c = true) : (97 : Int) ≤ c.toNat ∧ (c.toNat : Int) ≤ 122 := by
  simpa [smallB] using h
theorem smallB_no {c : UInt8} (h : smallB c = false) : (c.toNat : Int) < 97 ∨ (122 : Int) < c.toNat := by
  simp only [smallB, Bool.and_eq_false_iff, decide_eq_false_iff_not] at h
  omega
theorem smallB_ok {c : UInt8} (h : (97 : Int) ≤ c.toNat) (h2 : (c.toNat : Int) ≤ 122) : smallB c = true := by simp [smallB, h, h2]
theorem nameB_nil {s : ByteArray} (h : s.size = 0) : nameB (bl s) = false := by
  have : bl s = [] := List.eq_nil_of_length_eq_zero (by rw [bl_len, h])
  rw [this]; rfl
theorem nameB_long {s : ByteArray} (h : (12 : Int) < (s.size : Int)) : nameB (bl s) = false := by
  have h1 := bl_len s
  simp only [nameB, Bool.and_eq_false_iff, decide_eq_false_iff_not]
  omega
theorem nameB_head {l : List UInt8} {c : UInt8} (h : l[0]? = some c) (hc : smallB c = false) : nameB l = false := by
  cases l with
  | nil => rfl
  | cons a l =>
    simp at h
    subst h
    simp [nameB, hc]
theorem nameB_bad {l : List UInt8} {k : Nat} {c : UInt8} (h : l[k]? = some c) (hc : nmB c = false) : nameB l = false := by
  simp only [nameB, Bool.and_eq_false_iff]
  right; left
  rw [List.all_eq_false]
  exact ⟨c, List.mem_of_getElem? h, by simp [hc]⟩
theorem nameB_end {s : ByteArray} {c : UInt8} (h0 : (bl s)[0]? = some c) (hc : smallB c = true) (h12 : ¬ (12 : Int) < (s.size : Int)) (h : ((bl s).take s.size).all nmB = true) : nameB (bl s) = true := by
  have h1 := bl_len s
  rw [List.take_of_length_le (by omega)] at h
  generalize hl : bl s = l at *
  cases l with
  | nil => simp at h0
  | cons a l =>
    simp at h0
    subst h0
    simp only [nameB, h, hc, Bool.and_true, decide_eq_true_eq]
    omega
theorem nmB_no {c : UInt8} (h1 : smallB c = false) (h2 : digB c = false) (h3 : (c == 45) = false) : nmB c = false := by simp only [nmB, h1, h2, h3]; rfl

set_option maxHeartbeats 400000 in
theorem c_l01Digit (c : UInt8) (r : Bool) (h : digB c = r) (w : World) :
    Calls Tryd.prog 24 #[.int .u8 (c.toNat : Int)] w fun e w' => e = .returned (.bool r) ∧ w = w' := by
  subst h
  unfold digB
  by_cases h1 : (48 : Int) ≤ c.toNat <;> by_cases h2 : (c.toNat : Int) ≤ 57 <;>
  · go_enter Tryd.func24, Tryd.ntmps24
    go_wp2
    go_ret
    simp [*]
set_option maxHeartbeats 400000 in
theorem c_isDigit (c : UInt8) (r : Bool) (h : digB c = r) (w : World) :
    Calls Tryd.prog 26 #[.int .u8 (c.toNat : Int)] w fun e w' => e = .returned (.bool r) ∧ w = w' := by
  subst h
  unfold digB
  by_cases h1 : (48 : Int) ≤ c.toNat <;> by_cases h2 : (c.toNat : Int) ≤ 57 <;>
  · go_enter Tryd.func26, Tryd.ntmps26
    go_wp2
    go_ret
    simp [*]

attribute [local go_sem] mt_toList cons_beq_nil nil_beq_nil

end Go.Proofs.YtldhhbnochlmlaaDoor
