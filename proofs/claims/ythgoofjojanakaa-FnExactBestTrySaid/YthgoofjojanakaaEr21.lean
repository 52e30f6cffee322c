/- Contracts: the try with the fewest errors. -/
import Derived.Test.YthgoofjojanakaaEr12
import Derived.Test.YthgoofjojanakaaSt
namespace Go.Proofs.Ythgoofjojanakaa
open Go.RowKit Go.BigFrame
attribute [local go_sem] sub_cell sub_frozen drewN_setCell

def btyp (a : List UInt8) (l : List ByteArray) : Bool := (typB a && decide (l.length ≤ 12)) && l.all fun x => typB (bl x)
def btC (a : List UInt8) (l : List ByteArray) : Int := if btyp a l then (if l.length = 0 then 3 else 0) else 2
/-- The first of the numbers 0 .. k at which f is least. -/
def bstN (f : Nat → Int) : Nat → Nat
  | 0 => 0
  | k + 1 => if f (k + 1) < f (bstN f k) then k + 1 else bstN f k
theorem bstN_le (f : Nat → Int) (k : Nat) : bstN f k ≤ k := by
  induction k with
  | zero => exact Nat.le_refl _
  | succ k ih => rw [bstN]; split <;> omega
theorem bstN_hit {f : Nat → Int} {k : Nat} (h : f (k + 1) < f (bstN f k)) : bstN f (k + 1) = k + 1 := if_pos h
theorem bstN_miss {f : Nat → Int} {k : Nat} (h : ¬ f (k + 1) < f (bstN f k)) : bstN f (k + 1) = bstN f k := if_neg h
/-- The errors of try k. -/
def flN (a : List UInt8) (l : List ByteArray) (k : Nat) : Int := cst a (bl (l.getD k ⟨#[]⟩))
theorem flN_at {a : List UInt8} {l : List ByteArray} {k : Nat} {u : ByteArray} (h : l[k]? = some u) : flN a l k = cst a (bl u) := by
  rw [flN, List.getD_eq_getElem?_getD, h]; rfl
def btA (a : List UInt8) (l : List ByteArray) : Int := if btC a l = 0 then bstN (flN a l) (l.length - 1) else 0
theorem bt_bad {a : List UInt8} {l : List ByteArray} {v : Int} (h : btC a l = v) (hv : v ≠ 0) : btA a l = 0 := by rw [btA, h, if_neg hv]
theorem bt_ok {a : List UInt8} {l : List ByteArray} (h : btC a l = 0) : btA a l = bstN (flN a l) (l.length - 1) := by rw [btA, h, if_pos rfl]
theorem all_step {p : ByteArray → Bool} {l : List ByteArray} {k : Nat} {u : ByteArray} (h : l[k]? = some u) : (l.take (k + 1)).all p = ((l.take k).all p && p u) := by
  rw [List.take_add_one, h, List.all_append]; simp
theorem all_bad {p : ByteArray → Bool} {l : List ByteArray} {k : Nat} {u : ByteArray} (h : l[k]? = some u) (hp : p u = false) : l.all p = false := by
  rw [List.all_eq_false]
  exact ⟨u, List.mem_of_getElem? h, by simp [hp]⟩
set_option maxRecDepth 20000 in
set_option maxHeartbeats 8000000 in
theorem c_iBestTry (a : ByteArray) (A : Option Addr) (n c : Nat) (l : List ByteArray) (w : World) (hs : Ts w A n l) (ha : a.size ≤ maxLen) (hl : ∀ x ∈ l, x.size ≤ maxLen) (hn : n ≤ 1048576) :
    Calls Try.prog 28 #[.string a, .slice A n c] w fun e w' => e = .returned (.tuple #[.int .i64 (btA (bl a) l), .int .i64 (btC (bl a) l)]) ∧ Below w.heap.size w w' := by
  have hln := hs.1
  cases t1 : typB (bl a)
  · have hC : btC (bl a) l = 2 := by simp [btC, btyp, t1]
    rw [bt_bad hC (by decide), hC]
    have T1 := Lib.hid t1
    clear hC t1 hs hl
    go_enter Try.func28, Try.ntmps28
    go_wp2_with (go_at_call 43; refine (c_isTyped a _ T1.out _ ha).mono ?_; rintro r_ w' ⟨rfl, rfl⟩)
    go_returns
    exact ⟨rfl, Below.refl _ _⟩
  by_cases h12 : n ≤ 12
  rotate_left
  · have hC : btC (bl a) l = 2 := by simp [btC, btyp, hln, h12]
    rw [bt_bad hC (by decide), hC]
    have T1 := Lib.hid t1
    have h12' : (12 : Int) < n := by omega
    clear hC t1 hs hl
    go_enter Try.func28, Try.ntmps28
    go_wp2_with (go_at_call 43; refine (c_isTyped a _ T1.out _ ha).mono ?_; rintro r_ w' ⟨rfl, rfl⟩)
    go_returns
    exact ⟨rfl, Below.refl _ _⟩
  have n1 := typB_len t1
  have T1 := Lib.hid t1
  have h12' : ¬ (12 : Int) < n := by omega
  have HL := Lib.hid hl
  have HLN := Lib.hid hln
  have HB : Hid (btyp (bl a) l = l.all fun x => typB (bl x)) := by show _ = _; simp [btyp, t1, hln, h12]
  clear hl t1 hln
  go_enter Try.func28, Try.ntmps28
  go_wp2_with (go_at_call 43; refine (c_isTyped a _ T1.out _ ha).mono ?_; rintro r_ w' ⟨rfl, rfl⟩)
  go_loop [23] (fun i => ∃ k : Nat, k ≤ n ∧ i = .int .i64 k ∧ Hid ((l.take k).all (fun x => typB (bl x)) = true)) (fun i => n - (intOf i).toNat)
  case atStart => exact ⟨0, Nat.zero_le _, rfl, by show List.all _ _ = _; simp⟩
  case round =>
    obtain ⟨k, hk, rfl, hall⟩ := hrel
    by_cases hlt : k < n
    · obtain ⟨b, o, u, rfl, hb1, hb2, hx, c0⟩ := tx_at hs (Below.refl _ _) hlt
      have hu := HL.out _ (List.mem_of_getElem? hx)
      cases g : typB (bl u)
      · have hC : btC (bl a) l = 2 := by simp [btC, HB.out, all_bad (p := fun x => typB (bl x)) hx g]
        have HC := Lib.hid hC
        have G := Lib.hid g
        clear hC g hx hs hall
        go_wp2_with (go_at_call 43; refine (c_isTyped u _ G.out _ hu).mono ?_; rintro r_ w' ⟨rfl, rfl⟩)
        go_returns
        exact ⟨by rw [bt_bad HC.out (by decide), HC.out]; rfl, Below.refl _ _⟩
      · have hst := Lib.hid (all_step (p := fun x => typB (bl x)) hx)
        have G := Lib.hid g
        clear g hx hs
        go_wp2_with (go_at_call 43; refine (c_isTyped u _ G.out _ hu).mono ?_; rintro r_ w' ⟨rfl, rfl⟩)
        go_round
        case rel => exact ⟨k + 1, by omega, by go_num, by have h9 := hst.out; rw [hall.out, G.out] at h9; exact h9⟩
        case measure => simp [intOf]; omega
    · obtain rfl : k = n := by omega
      have hA := hall.out
      rw [List.take_of_length_le (by rw [HLN.out]; omega)] at hA
      have HT : Hid (∀ x ∈ l, typB (bl x) = true) := fun x hx => List.all_eq_true.1 hA x hx
      have HC : Hid (btC (bl a) l = if k = 0 then 3 else 0) := by show _ = _; simp only [btC, HB.out, hA, HLN.out]; rfl
      have HK : Hid (l.length = k) := HLN.out
      clear hall hA HB
      go_wp2_with fail
      go_loopw [8, 9, 33] (fun x y i wr => ∃ q : Nat, ∃ p e : Int, q ≤ k ∧ i = .int .i64 q ∧ x = .int .i64 p ∧ y = .int .i64 e ∧ Below w.heap.size w wr ∧ Hid ((q = 0 ∧ p = -1 ∧ e = 0) ∨ ∃ j : Nat, q = j + 1 ∧ p = (bstN (flN (bl a) l) j : Nat) ∧ e = flN (bl a) l (bstN (flN (bl a) l) j))) (fun _ _ i _ => k - (intOf i).toNat)
      case atStart => exact ⟨0, -1, 0, Nat.zero_le _, rfl, rfl, rfl, Below.refl _ _, .inl ⟨rfl, rfl, rfl⟩⟩
      case round =>
        obtain ⟨q, p, e, hq, rfl, rfl, rfl, hB, hinv⟩ := hrel
        by_cases hlt : q < k
        · obtain ⟨b, o, u, rfl, hb1, hb2, hx, c0⟩ := tx_at hs hB hlt
          have n2 := typB_len (HT.out _ (List.mem_of_getElem? hx))
          have C := Lib.hid (costs_i a u n1 n2)
          have hf := flN_at (a := bl a) hx
          have e0 := cst_nonneg (bl a) (bl u)
          have e1 := cst_le (bl a) (bl u)
          obtain ⟨z, hz⟩ : ∃ z, cst (bl a) (bl u) = z := ⟨_, rfl⟩
          rw [hz] at hf e0 e1
          have HZ := Lib.hid hz
          have HF := Lib.hid hf
          rw [bl_len, bl_len] at e1
          rcases hinv.out with ⟨hq0, rfl, rfl⟩ | ⟨j, rfl, hp, he⟩
          · have HQ := Lib.hid hq0
            clear hx hz hf hinv hq0
            go_wp2_with (go_at_call 44; refine (C.out _).mono ?_; rintro r_ w1 ⟨rfl, hR, hb1⟩; obtain ⟨r, k0, k1⟩ := hR.first; rw [cC_first, HZ.out] at k1; clear hR; have hB1 := later hb1 (w := w) hB)
            go_roundw
            case rel => exact ⟨q + 1, (q : Int), z, by omega, by go_num, rfl, rfl, hB1, .inr ⟨0, by have := HQ.out; omega, by have := HQ.out; subst this; rfl, by have h8 := HF.out; rw [HQ.out] at h8; exact h8.symm⟩⟩
            case measure => simp [intOf]; omega
          · have HP := Lib.hid hp
            have HE := Lib.hid he
            have hp0 : 0 ≤ p := by omega
            have hp1 : ¬ p < 0 := by omega
            clear hx hz hf hinv hp he
            by_cases hlt2 : z < e
            · have HN := Lib.hid (bstN_hit (f := flN (bl a) l) (k := j) (by rw [HF.out, ← HE.out]; exact hlt2))
              go_wp2_with (go_at_call 44; refine (C.out _).mono ?_; rintro r_ w1 ⟨rfl, hR, hb1⟩; obtain ⟨r, k0, k1⟩ := hR.first; rw [cC_first, HZ.out] at k1; clear hR; have hB1 := later hb1 (w := w) hB)
              go_roundw
              case rel => exact ⟨j + 1 + 1, ((j + 1 : Nat) : Int), z, by omega, by go_num, by go_num, rfl, hB1, .inr ⟨j + 1, rfl, by rw [HN.out], by rw [HN.out, HF.out]⟩⟩
              case measure => simp [intOf]; omega
            · have HN := Lib.hid (bstN_miss (f := flN (bl a) l) (k := j) (by rw [HF.out, ← HE.out]; exact hlt2))
              go_wp2_with (go_at_call 44; refine (C.out _).mono ?_; rintro r_ w1 ⟨rfl, hR, hb1⟩; obtain ⟨r, k0, k1⟩ := hR.first; rw [cC_first, HZ.out] at k1; clear hR; have hB1 := later hb1 (w := w) hB)
              go_roundw
              case rel => exact ⟨j + 1 + 1, p, e, by omega, by go_num, rfl, rfl, hB1, .inr ⟨j + 1, rfl, by rw [HN.out]; exact HP.out, by rw [HN.out]; exact HE.out⟩⟩
              case measure => simp [intOf]; omega
        · obtain rfl : q = k := by omega
          rcases hinv.out with ⟨rfl, rfl, rfl⟩ | ⟨j, rfl, hp, he⟩
          · have hC := HC.out
            rw [if_pos rfl] at hC
            have HC2 := Lib.hid hC
            clear hinv hC
            go_wp2_with fail
            go_returns
            exact ⟨by rw [bt_bad HC2.out (by decide), HC2.out]; rfl, hB⟩
          · have hC := HC.out
            rw [if_neg (by omega)] at hC
            have HC2 := Lib.hid hC
            have HA : Hid (btA (bl a) l = p) := by show _ = _; rw [bt_ok hC, HK.out, hp]; rfl
            have hp1 : ¬ p < 0 := by omega
            clear hinv hC hp he
            go_wp2_with fail
            go_returns
            exact ⟨by rw [HA.out, HC2.out]; rfl, hB⟩
end Go.Proofs.Ythgoofjojanakaa
