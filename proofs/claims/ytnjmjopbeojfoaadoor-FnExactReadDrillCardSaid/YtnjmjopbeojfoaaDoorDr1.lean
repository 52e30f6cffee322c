/- Contracts: drills (the reference). -/
import Derived.Test.YtnjmjopbeojfoaaDoorSlDrill
import Derived.Test.YtnjmjopbeojfoaaDoorNm
import Derived.Test.YtnjmjopbeojfoaaDoorLo
import Derived.Test.YtnjmjopbeojfoaaDoorIx
import Derived.Test.YtnjmjopbeojfoaaDoorMp
namespace Go.Proofs.YtnjmjopbeojfoaaDoor
open Go.RowKit Go.BigFrame
attribute [local go_sem] sub_cell sub_frozen drewN_setCell

/-- Byte i of a text stands there first. -/
def newAt (l : List UInt8) (i : Nat) : Bool := match l[i]? with | some c => decide (c ∉ l.take i) | none => false
def distB (l : List UInt8) : Bool := allN (newAt l) l.length
theorem newAt_eq {l : List UInt8} {i : Nat} {c : UInt8} (h : l[i]? = some c) : newAt l i = decide (c ∉ l.take i) := by simp [newAt, h]
theorem distB_bad {l : List UInt8} {i : Nat} {c : UInt8} (h : l[i]? = some c) (hc : c ∈ l.take i) : distB l = false :=
  allN_bad (List.getElem?_eq_some_iff.1 h).1 (by rw [newAt_eq h, decide_eq_false (fun h => h hc)])
theorem newAt_yes {l : List UInt8} {i : Nat} {c : UInt8} (h : l[i]? = some c) (hc : c ∉ l.take i) : newAt l i = true := by rw [newAt_eq h, decide_eq_true hc]
theorem idx_new {l : List UInt8} {i : Nat} {c : UInt8} (h : l[i]? = some c) (hc : c ∉ l.take i) : idxA l c 0 = i := by
  rw [idx_at 0 h fun j hj he => hc (List.mem_of_getElem? (i := j) (by rw [List.getElem?_take, if_pos hj, he]))]
  omega
theorem idx_old {l : List UInt8} {i : Nat} {c : UInt8} (hc : c ∈ l.take i) : idxA l c 0 ≠ i := by
  obtain ⟨j, hj⟩ := List.getElem?_of_mem hc
  rw [List.getElem?_take] at hj
  split at hj
  · have := idx_le 0 hj
    omega
  · cases hj
/-- A drill that is valid. -/
def okDr (x : TDrill) : Bool := distB (bl x.2.1) && (nameB (bl x.1) && (textB 33 8 (bl x.2.1) && (decide (0 < x.2.1.size) && betw x.2.2 1 600)))

attribute [local go_sem] mt_toList cons_beq_nil nil_beq_nil
set_option maxHeartbeats 4000000 in
theorem c_l21One (nm ls : ByteArray) (mi : Int) (r : Bool) (h : okDr (nm, ls, mi) = r) (w : World) (hn : nm.size ≤ maxLen) (hs : ls.size ≤ maxLen) :
    Calls Tryd.prog 12 #[.agg #[.string nm, .string ls, .int .i64 mi]] w fun e w' => e = .returned (.bool r) ∧ Below w.heap.size w w' := by
  subst h
  have HS := Lib.hid hs
  have HN := Lib.hid hn
  unfold maxLen at hs
  clear hn
  go_enter Tryd.func12, Tryd.ntmps12
  go_wp2_with fail
  go_loopw [3] (fun i wr => ∃ k nd : Nat, k ≤ ls.size ∧ i = .int .i64 k ∧ wr = (w.alloc (.cells #[.string nm, .string ls, .int .i64 mi] 26)).drewN nd ∧ Hid (allN (newAt (bl ls)) k = true)) (fun i _ => ls.size - (intOf i).toNat)
  case atStart => exact ⟨0, 0, Nat.zero_le _, rfl, rfl, rfl⟩
  case round =>
    obtain ⟨k, nd, hk, rfl, rfl, hn⟩ := hrel
    by_cases hlt : k < ls.size
    · have hg := Lib.hid (bl_get ls k hlt)
      have hlt4 : (k : Int) < ls.size := by omega
      have hlt5 : (0 : Int) ≤ (k : Int) := by omega
      by_cases hc : ls[k] ∈ (bl ls).take k
      · have hne1 : (idxA (bl ls) ls[k] 0 != (k : Int)) = true := by rw [bne_iff_ne]; exact idx_old hc
        have HC := Lib.hid hc
        clear hc
        go_wp2_with fail
        go_quiet ((go_at_call 20; exact q1 (c_l05Index ls _ _ HS.out)))
        go_wp2_with fail
        go_ret
        exact ⟨by simp only [okDr, distB_bad hg.out HC.out]; rfl, by (repeat' (first | (with_reducible exact Below.refl _ _) | (with_reducible assumption) | (with_reducible refine below_drewN ?_ _) | (with_reducible refine Below.drew ?_) | (with_reducible refine Below.alloc ?_ ?_ _) | (with_reducible refine Below.setCell ?_ ?_ _) | go_size))⟩
      · have hne1 : (idxA (bl ls) ls[k] 0 != (k : Int)) = false := by rw [idx_new hg.out hc]; simp
        have HC := Lib.hid hc
        clear hc
        go_wp2_with fail
        go_quiet ((go_at_call 20; exact q1 (c_l05Index ls _ _ HS.out)))
        go_wp2_with fail
        go_roundw
        case rel => exact ⟨k + 1, _, by omega, by go_num, rfl, allN_succ hn.out (newAt_yes hg.out HC.out)⟩
        case measure => simp [intOf]; omega
    · obtain rfl : k = ls.size := by omega
      have HD : Hid (distB (bl ls) = true) := by show allN _ _ = true; rw [bl_len]; exact hn.out
      clear hn
      cases g1 : nameB (bl nm) <;> have G1 := Lib.hid g1 <;> clear g1
      · go_wp2_with (go_at_call 21; refine (c_sIsName _ _ G1.out _ HN.out).mono ?_; rintro e w' ⟨rfl, rfl⟩)
        go_ret
        exact ⟨by simp only [okDr, HD.out, G1.out]; rfl, by (repeat' (first | (with_reducible exact Below.refl _ _) | (with_reducible assumption) | (with_reducible refine below_drewN ?_ _) | (with_reducible refine Below.drew ?_) | (with_reducible refine Below.alloc ?_ ?_ _) | (with_reducible refine Below.setCell ?_ ?_ _) | go_size))⟩
      cases g2 : textB 33 8 (bl ls) <;> have G2 := Lib.hid g2 <;> clear g2
      · go_wp2_with (first | (go_at_call 21; refine (c_sIsName _ _ G1.out _ HN.out).mono ?_; rintro e w' ⟨rfl, rfl⟩) | (go_at_call 22; refine (c_l17Text _ _ _ G2.out _ HS.out).mono ?_; rintro e w' ⟨rfl, rfl⟩))
        go_ret
        exact ⟨by simp only [okDr, HD.out, G1.out, G2.out]; rfl, by (repeat' (first | (with_reducible exact Below.refl _ _) | (with_reducible assumption) | (with_reducible refine below_drewN ?_ _) | (with_reducible refine Below.drew ?_) | (with_reducible refine Below.alloc ?_ ?_ _) | (with_reducible refine Below.setCell ?_ ?_ _) | go_size))⟩
      by_cases g3 : 0 < ls.size
      rotate_left
      · have hT := toList_nil (s := ls) (by omega)
        have G3 := Lib.hid g3
        clear g3
        go_wp2_with (first | (go_at_call 21; refine (c_sIsName _ _ G1.out _ HN.out).mono ?_; rintro e w' ⟨rfl, rfl⟩) | (go_at_call 22; refine (c_l17Text _ _ _ G2.out _ HS.out).mono ?_; rintro e w' ⟨rfl, rfl⟩))
        go_ret
        exact ⟨by simp only [okDr, HD.out, G1.out, G2.out, decide_eq_false G3.out]; rfl, by (repeat' (first | (with_reducible exact Below.refl _ _) | (with_reducible assumption) | (with_reducible refine below_drewN ?_ _) | (with_reducible refine Below.drew ?_) | (with_reducible refine Below.alloc ?_ ?_ _) | (with_reducible refine Below.setCell ?_ ?_ _) | go_size))⟩
      obtain ⟨a, t, hT⟩ := toList_cons g3
      have G3 := Lib.hid g3
      clear g3
      cases g4 : betw mi 1 600 <;> have G4 := Lib.hid g4 <;> clear g4
      all_goals
        go_wp2_with (first | (go_at_call 21; refine (c_sIsName _ _ G1.out _ HN.out).mono ?_; rintro e w' ⟨rfl, rfl⟩) | (go_at_call 22; refine (c_l17Text _ _ _ G2.out _ HS.out).mono ?_; rintro e w' ⟨rfl, rfl⟩) | (go_at_call 23; refine (c_l00In _ _ _ _ G4.out _).mono ?_; rintro e w' ⟨rfl, rfl⟩))
        go_ret
        exact ⟨by simp only [okDr, HD.out, G1.out, G2.out, decide_eq_true G3.out, G4.out]; rfl, by (repeat' (first | (with_reducible exact Below.refl _ _) | (with_reducible assumption) | (with_reducible refine below_drewN ?_ _) | (with_reducible refine Below.drew ?_) | (with_reducible refine Below.alloc ?_ ?_ _) | (with_reducible refine Below.setCell ?_ ?_ _) | go_size))⟩

/-- Where a name stands first; -1 if nowhere. -/
def findI (l : List ByteArray) (s : ByteArray) : Int := if s ∈ l then ((l.findIdx (fun x => decide (x = s)) : Nat) : Int) else -1
theorem findI_at {l : List ByteArray} {s : ByteArray} {k : Nat} (h : l[k]? = some s) (hn : s ∉ l.take k) : findI l s = k := by
  have hk := (List.getElem?_eq_some_iff.1 h).1
  rw [findI, if_pos (List.mem_of_getElem? h)]
  congr 1
  rw [List.findIdx_eq hk]
  refine ⟨by rw [List.getElem?_eq_getElem hk] at h; simp [Option.some.inj h], fun j hj => ?_⟩
  simp only [decide_eq_false_iff_not]
  intro e
  exact hn (List.mem_of_getElem? (i := j) (by rw [List.getElem?_take, if_pos hj, List.getElem?_eq_getElem (by omega), e]))
theorem findI_no {l : List ByteArray} {s : ByteArray} (h : s ∉ l) : findI l s = -1 := if_neg h
theorem findI_yes {l : List ByteArray} {s : ByteArray} (h : s ∈ l) : 0 ≤ findI l s := by rw [findI, if_pos h]; omega
theorem Sl.take {α : Type} {f : α → List Value} {w : World} {B sz n k : Nat} {A : Option Addr} {l : List α} (h : Sl f w B sz A n l) (hk : k ≤ n) : Sl f w B sz A k (l.take k) := by
  obtain ⟨h1, hf, h2⟩ := h
  refine ⟨by simp; omega, hf, by rw [flat_length hf, List.length_take, Nat.min_eq_left (by omega)], ?_⟩
  rcases h2.2 with h0 | ⟨b, o, hA, hb, hc⟩
  · exact .inl (by omega)
  · refine .inr ⟨b, o, hA, hb, fun i v hv => hc i v ?_⟩
    have e : flat f l = flat f (l.take k) ++ flat f (l.drop k) := by
      simp only [flat]
      rw [← List.flatMap_append, List.take_append_drop]
    rw [e, List.getElem?_append_left (List.getElem?_eq_some_iff.1 hv).1]
    exact hv


def drsB (l : List TDrill) : Bool := listOk okDr (·.1) l && decide (l.length ≤ 10)
theorem drs_item {l : List TDrill} {k : Nat} {x : TDrill} (h : l[k]? = some x) (hx : okAt okDr (·.1) l k = false) : drsB l = false := by simp [drsB, listOk_bad h hx]
theorem drs_end {l : List TDrill} {n : Nat} (hl : l.length = n) (h : allN (okAt okDr (·.1) l) n = true) : drsB l = decide ((n : Int) ≤ 10) := by
  subst hl
  simp only [drsB, listOk, h, Bool.true_and]
  simp; omega
/-- The sizes of the texts of drills. -/
def DrSz (l : List TDrill) : Prop := ∀ x ∈ l, x.1.size ≤ maxLen ∧ x.2.1.size ≤ maxLen
end Go.Proofs.YtnjmjopbeojfoaaDoor
