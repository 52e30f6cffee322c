/- Contracts: drills (the reference). -/
import Derived.Test.YtnjmjopbeojfoaaSlDrill
import Derived.Test.YtnjmjopbeojfoaaNm
import Derived.Test.YtnjmjopbeojfoaaLo
import Derived.Test.YtnjmjopbeojfoaaIx
import Derived.Test.YtnjmjopbeojfoaaMp
namespace Go.Proofs.Ytnjmjopbeojfoaa
open Go.RowKit Go.BigFrame
attribute [local go_sem] sub_cell sub_frozen drewN_setCell

/-- Byte i of a text stands there first. -/
def newAt (l : List UInt8) (i : Nat) : Bool := match l[i]? with | some c => decide (c ∉ l.take i) | none => false
def distB (l : List UInt8) : Bool := allN (newAt l) l.length
theorem newAt_eq {l : List UInt8} {i : Nat} {c : UInt8} (h : l[i]? = some c) : newAt l i = decide (c ∉ l.take i) := by simp [newAt, h]
theorem distB_bad {l : List UInt8} {i : Nat} {c : UInt8} (h : l[i]? = some c) (hc : c ∈ l.take i) : distB l = false :=
  allN_bad (List.getElem?_eq_some_iff.1 h).1 (by rw [newAt_eq h, decide_eq_false (fun h => h hc)])
theorem newAt_yes {l : List UInt8} {i : Nat} {c : UInt8} (h : l[i]? = some c) (hc : c ∉ l.take i) : newAt l i = true := by rw [newAt_eq h, decide_eq_true hc]
theorem idx_new {l : List UInt8} {i : Nat} {c : UInt8} (h : l[i]? = some c) (hc : c ∉ l.take i) : idxA l c 0 = i := by
  rw [idx_at 0 h fun j hj he => hc (List.mem_of_getElem? (i := j) (by rw [List.getElem?_take, if_pos hj, he]))]
  omega
theorem idx_old {l : List UInt8} {i : Nat} {c : UInt8} (hc : c ∈ l.take i) : idxA l c 0 ≠ i := by
  obtain ⟨j, hj⟩ := List.getElem?_of_mem hc
  rw [List.getElem?_take] at hj
  split at hj
  · have := idx_le 0 hj
    omega
  · cases hj
/-- A drill that is valid. -/
def okDr (x : TDrill) : Bool := distB (bl x.2.1) && (nameB (bl x.1) && (textB 33 8 (bl x.2.1) && (decide (0 < x.2.1.size) && betw x.2.2 1 600)))

attribute [local go_sem] mt_toList cons_beq_nil nil_beq_nil
set_option maxHeartbeats 4000000 in
theorem c_l21One (nm ls : ByteArray) (mi : Int) (r : Bool) (h : okDr (nm, ls, mi) = r) (w : World) (hn : nm.size ≤ maxLen) (hs : ls.size ≤ maxLen) :
    Calls Try.prog 44 #[.agg #[.string nm, .string ls, .int .i64 mi]] w fun e w' => e = .returned (.bool r) ∧ Below w.heap.size w w' := by
  subst h
  have HS := Lib.hid hs
  have HN := Lib.hid hn
  unfold maxLen at hs
  clear hn
  go_enter Try.func44, Try.ntmps44
  go_wp2_with fail
  go_loopw [3] (fun i wr => ∃ k nd : Nat, k ≤ ls.size ∧ i = .int .i64 k ∧ wr = (w.alloc (.cells #[.string nm, .string ls, .int .i64 mi] 31)).drewN nd ∧ Hid (allN (newAt (bl ls)) k = true)) (fun i _ => ls.size - (intOf i).toNat)
  case atStart => exact ⟨0, 0, Nat.zero_le _, rfl, rfl, rfl⟩
  case round =>
    obtain ⟨k, nd, hk, rfl, rfl, hn⟩ := hrel
    by_cases hlt : k < ls.size
    · have hg := Lib.hid (bl_get ls k hlt)
      have hlt4 : (k : Int) < ls.size := by omega
      have hlt5 : (0 : Int) ≤ (k : Int) := by omega
      by_cases hc : ls[k] ∈ (bl ls).take k
      · have hne1 : (idxA (bl ls) ls[k] 0 != (k : Int)) = true := by rw [bne_iff_ne]; exact idx_old hc
        have HC := Lib.hid hc
        clear hc
        go_wp2_with fail
        go_quiet ((go_at_call 67; exact q1 (c_l05Index ls _ _ HS.out)))
        go_wp2_with fail
        go_ret
        exact ⟨by simp only [okDr, distB_bad hg.out HC.out]; rfl, by (repeat' (first | (with_reducible exact Below.refl _ _) | (with_reducible assumption) | (with_reducible refine below_drewN ?_ _) | (with_reducible refine Below.drew ?_) | (with_reducible refine Below.alloc ?_ ?_ _) | (with_reducible refine Below.setCell ?_ ?_ _) | go_size))⟩
      · have hne1 : (idxA (bl ls) ls[k] 0 != (k : Int)) = false := by rw [idx_new hg.out hc]; simp
        have HC := Lib.hid hc
        clear hc
        go_wp2_with fail
        go_quiet ((go_at_call 67; exact q1 (c_l05Index ls _ _ HS.out)))
        go_wp2_with fail
        go_roundw
        case rel => exact ⟨k + 1, _, by omega, by go_num, rfl, allN_succ hn.out (newAt_yes hg.out HC.out)⟩
        case measure => simp [intOf]; omega
    · obtain rfl : k = ls.size := by omega
      have HD : Hid (distB (bl ls) = true) := by show allN _ _ = true; rw [bl_len]; exact hn.out
      clear hn
      cases g1 : nameB (bl nm) <;> have G1 := Lib.hid g1 <;> clear g1
      · go_wp2_with (go_at_call 68; refine (c_sIsName _ _ G1.out _ HN.out).mono ?_; rintro e w' ⟨rfl, rfl⟩)
        go_ret
        exact ⟨by simp only [okDr, HD.out, G1.out]; rfl, by (repeat' (first | (with_reducible exact Below.refl _ _) | (with_reducible assumption) | (with_reducible refine below_drewN ?_ _) | (with_reducible refine Below.drew ?_) | (with_reducible refine Below.alloc ?_ ?_ _) | (with_reducible refine Below.setCell ?_ ?_ _) | go_size))⟩
      cases g2 : textB 33 8 (bl ls) <;> have G2 := Lib.hid g2 <;> clear g2
      · go_wp2_with (first | (go_at_call 68; refine (c_sIsName _ _ G1.out _ HN.out).mono ?_; rintro e w' ⟨rfl, rfl⟩) | (go_at_call 69; refine (c_l17Text _ _ _ G2.out _ HS.out).mono ?_; rintro e w' ⟨rfl, rfl⟩))
        go_ret
        exact ⟨by simp only [okDr, HD.out, G1.out, G2.out]; rfl, by (repeat' (first | (with_reducible exact Below.refl _ _) | (with_reducible assumption) | (with_reducible refine below_drewN ?_ _) | (with_reducible refine Below.drew ?_) | (with_reducible refine Below.alloc ?_ ?_ _) | (with_reducible refine Below.setCell ?_ ?_ _) | go_size))⟩
      by_cases g3 : 0 < ls.size
      rotate_left
      · have hT := toList_nil (s := ls) (by omega)
        have G3 := Lib.hid g3
        clear g3
        go_wp2_with (first | (go_at_call 68; refine (c_sIsName _ _ G1.out _ HN.out).mono ?_; rintro e w' ⟨rfl, rfl⟩) | (go_at_call 69; refine (c_l17Text _ _ _ G2.out _ HS.out).mono ?_; rintro e w' ⟨rfl, rfl⟩))
        go_ret
        exact ⟨by simp only [okDr, HD.out, G1.out, G2.out, decide_eq_false G3.out]; rfl, by (repeat' (first | (with_reducible exact Below.refl _ _) | (with_reducible assumption) | (with_reducible refine below_drewN ?_ _) | (with_reducible refine Below.drew ?_) | (with_reducible refine Below.alloc ?_ ?_ _) | (with_reducible refine Below.setCell ?_ ?_ _) | go_size))⟩
      obtain ⟨a, t, hT⟩ := toList_cons g3
      have G3 := Lib.hid g3
      clear g3
      cases g4 : betw mi 1 600 <;> have G4 := Lib.hid g4 <;> clear g4
      all_goals
        go_wp2_with (first | (go_at_call 68; refine (c_sIsName _ _ G1.out _ HN.out).mono ?_; rintro e w' ⟨rfl, rfl⟩) | (go_at_call 69; refine (c_l17Text _ _ _ G2.out _ HS.out).mono ?_; rintro e w' ⟨rfl, rfl⟩) | (go_at_call 45; refine (c_l00In _ _ _ _ G4.out _).mono ?_; rintro e w' ⟨rfl, rfl⟩))
        go_ret
        exact ⟨by simp only [okDr, HD.out, G1.out, G2.out, decide_eq_true G3.out, G4.out]; rfl, by (repeat' (first | (with_reducible exact Below.refl _ _) | (with_reducible assumption) | (with_reducible refine below_drewN ?_ _) | (with_reducible refine Below.drew ?_) | (with_reducible refine Below.alloc ?_ ?_ _) | (with_reducible refine Below.setCell ?_ ?_ _) | go_size))⟩

/-- Where a name stands first; -1 if nowhere. -/
def findI (l : List ByteArray) (s : ByteArray) : Int := if s ∈ l then ((l.findIdx (fun x => decide (x = s)) : Nat) : Int) else -1
theorem findI_at {l : List ByteArray} {s : ByteArray} {k : Nat} (h : l[k]? = some s) (hn : s ∉ l.take k) : findI l s = k := by
  have hk := (List.getElem?_eq_some_iff.1 h).1
  rw [findI, if_pos (List.mem_of_getElem? h)]
  congr 1
  rw [List.findIdx_eq hk]
  refine ⟨by rw [List.getElem?_eq_getElem hk] at h; simp [Option.some.inj h], fun j hj => ?_⟩
  simp only [decide_eq_false_iff_not]
  intro e
  exact hn (List.mem_of_getElem? (i := j) (by rw [List.getElem?_take, if_pos hj, List.getElem?_eq_getElem (by omega), e]))
theorem findI_no {l : List ByteArray} {s : ByteArray} (h : s ∉ l) : findI l s = -1 := if_neg h
theorem findI_yes {l : List ByteArray} {s : ByteArray} (h : s ∈ l) : 0 ≤ findI l s := by rw [findI, if_pos h]; omega
theorem Sl.take {α : Type} {f : α → List Value} {w : World} {B sz n k : Nat} {A : Option Addr} {l : List α} (h : Sl f w B sz A n l) (hk : k ≤ n) : Sl f w B sz A k (l.take k) := by
  obtain ⟨h1, hf, h2⟩ := h
  refine ⟨by simp; omega, hf, by rw [flat_length hf, List.length_take, Nat.min_eq_left (by omega)], ?_⟩
  rcases h2.2 with h0 | ⟨b, o, hA, hb, hc⟩
  · exact .inl (by omega)
  · refine .inr ⟨b, o, hA, hb, fun i v hv => hc i v ?_⟩
    have e : flat f l = flat f (l.take k) ++ flat f (l.drop k) := by
      simp only [flat]
      rw [← List.flatMap_append, List.take_append_drop]
    rw [e, List.getElem?_append_left (List.getElem?_eq_some_iff.1 hv).1]
    exact hv

set_option maxHeartbeats 1000000 in
theorem c_l21Find (A : Option Addr) (n c : Nat) (l : List TDrill) (s : ByteArray) (v : Int) (h : findI (l.map (·.1)) s = v) (w : World) (ha : Sl drillC w w.heap.size 3 A n l) (hn : n ≤ 1048576) :
    Calls Try.prog 55 #[.slice A n c, .string s] w fun e w' => e = .returned (.int .i64 v) ∧ w = w' := by
  subst h
  have HL := Lib.hid ha.1
  have HA := Lib.hid ha
  clear ha
  go_enter Try.func55, Try.ntmps55
  go_wp2_with fail
  go_loop [5] (fun i => ∃ k : Nat, k ≤ n ∧ i = .int .i64 k ∧ Hid (s ∉ (l.take k).map (·.1))) (fun i => n - (intOf i).toNat)
  case atStart => exact ⟨0, Nat.zero_le _, rfl, by show s ∉ _; simp⟩
  case round =>
    obtain ⟨k, hk, rfl, hnot⟩ := hrel
    by_cases hlt : k < n
    · obtain ⟨b, o, nm, ls, mi, rfl, hb1, hb2, hx, c0, c1, c2⟩ := drill_at HA.out (Below.refl _ _) hlt
      have HX := Lib.hid hx
      clear hx
      by_cases e : nm = s
      · have e1 := txt_eq e
        have E := Lib.hid e
        clear e
        go_wp2_with fail
        go_ret
        exact ⟨by rw [findI_at (k := k) (by rw [List.getElem?_map, HX.out]; simp [E.out]) (by rw [← List.map_take]; exact hnot.out)]; rfl, rfl⟩
      · have e1 := txt_ne e
        have E := Lib.hid e
        clear e
        go_wp2_with fail
        go_round
        case rel => exact ⟨k + 1, by omega, by go_num, notin_succ HX.out hnot.out (fun e => E.out e.symm)⟩
        case measure => simp [intOf]; omega
    · obtain rfl : k = n := by omega
      have h2 := hnot.out
      rw [List.take_of_length_le (by rw [HL.out]; omega)] at h2
      have H2 := Lib.hid h2
      clear hnot h2
      go_wp2_with fail
      go_ret
      exact ⟨by rw [findI_no H2.out]; rfl, rfl⟩

def drsB (l : List TDrill) : Bool := listOk okDr (·.1) l && decide (l.length ≤ 10)
theorem drs_item {l : List TDrill} {k : Nat} {x : TDrill} (h : l[k]? = some x) (hx : okAt okDr (·.1) l k = false) : drsB l = false := by simp [drsB, listOk_bad h hx]
theorem drs_end {l : List TDrill} {n : Nat} (hl : l.length = n) (h : allN (okAt okDr (·.1) l) n = true) : drsB l = decide ((n : Int) ≤ 10) := by
  subst hl
  simp only [drsB, listOk, h, Bool.true_and]
  simp; omega
/-- The sizes of the texts of drills. -/
def DrSz (l : List TDrill) : Prop := ∀ x ∈ l, x.1.size ≤ maxLen ∧ x.2.1.size ≤ maxLen
set_option maxHeartbeats 4000000 in
theorem c_l21Ok (A : Option Addr) (n c : Nat) (l : List TDrill) (r : Bool) (h : drsB l = r) (w : World) (ha : Sl drillC w w.heap.size 3 A n l) (hsz : DrSz l) (hn : n ≤ 1048576) (hc : n ≤ c) :
    Calls Try.prog 49 #[.slice A n c] w fun e w' => e = .returned (.bool r) ∧ Below w.heap.size w w' := by
  subst h
  have HL := Lib.hid ha.1
  have HA := Lib.hid ha
  have HSZ := Lib.hid hsz
  clear ha hsz
  go_enter Try.func49, Try.ntmps49
  go_wp2_with fail
  go_loopw [3] (fun i wr => ∃ k : Nat, k ≤ n ∧ i = .int .i64 k ∧ Below w.heap.size w wr ∧ Hid (allN (okAt okDr (·.1) l) k = true)) (fun i _ => n - (intOf i).toNat)
  case atStart => exact ⟨0, Nat.zero_le _, rfl, Below.refl _ _, rfl⟩
  case round =>
    obtain ⟨k, hk, rfl, hB, hok⟩ := hrel
    by_cases hlt : k < n
    · obtain ⟨b, o, nm, ls, mi, rfl, hb1, hb2, hx, c0, c1, c2⟩ := drill_at HA.out hB hlt
      have hs := HSZ.out _ (List.mem_of_getElem? hx)
      have hs1 := hs.1
      have hs2 := hs.2
      have HX := Lib.hid hx
      have hz := hB.size
      clear hx hs
      have HF := Lib.hid (fun (v : Int) (hv : findI ((l.take k).map (·.1)) nm = v) (W : World) (hW : Below wr.heap.size wr W) => c_l21Find (some ⟨b, o, none⟩) k c (l.take k) nm v hv W (((HA.out.later hB).later hW).take (by omega)) (by omega))
      cases g : okDr (nm, ls, mi) <;> have G := Lib.hid g <;> clear g
      · go_wp2_with fail
        refine wp_region_below (by kernel_rfl) (by kernel_rfl) ?_
        repeat (go_big_quiet_step ((go_at_call 44; refine qBg (c_l21One nm ls mi _ G.out _ hs1 hs2) (by simp) ?_; intro w_ h_; exact h_)))
        refine wpQuiet_nil ?_
        intro _ hw'
        obtain ⟨⟨w9, hb9⟩, hw''⟩ := hw'
        subst hw''
        have hB9 := later hb9 (w := w) hB
        go_wp2_with fail
        go_ret
        exact ⟨by rw [drs_item HX.out (okAt_bad HX.out G.out)]; rfl, hB9⟩
      · by_cases hi : nm ∈ (l.take k).map (·.1)
        · have hv := findI_yes hi
          have HI := Lib.hid hi
          clear hi
          obtain ⟨v, hv2⟩ : ∃ v, findI ((l.take k).map (·.1)) nm = v := ⟨_, rfl⟩
          rw [hv2] at hv
          have HV := Lib.hid hv2
          clear hv2
          go_wp2_with fail
          refine wp_region_below (by kernel_rfl) (by kernel_rfl) ?_
          repeat (go_big_quiet_step ((first | (go_at_call 44; refine qBg (c_l21One nm ls mi _ G.out _ hs1 hs2) (by simp) ?_; intro w_ h_; exact h_) | (go_at_call 55; refine qBg (HF.out v HV.out _ (Later.h _)) (by simp) ?_; intro w_ h_; subst h_; exact Below.refl _ _))))
          refine wpQuiet_nil ?_
          intro _ hw'
          obtain ⟨⟨w9, hb9⟩, hw''⟩ := hw'
          subst hw''
          have hB9 := later hb9 (w := w) hB
          go_wp2_with fail
          go_ret
          exact ⟨by rw [drs_item HX.out (okAt_old HX.out HI.out)]; rfl, hB9⟩
        · have HV := Lib.hid (findI_no hi)
          have HI := Lib.hid hi
          clear hi
          go_wp2_with fail
          refine wp_region_below (by kernel_rfl) (by kernel_rfl) ?_
          repeat (go_big_quiet_step ((first | (go_at_call 44; refine qBg (c_l21One nm ls mi _ G.out _ hs1 hs2) (by simp) ?_; intro w_ h_; exact h_) | (go_at_call 55; refine qBg (HF.out (-1) HV.out _ (Later.h _)) (by simp) ?_; intro w_ h_; subst h_; exact Below.refl _ _))))
          refine wpQuiet_nil ?_
          intro _ hw'
          obtain ⟨⟨w9, hb9⟩, hw''⟩ := hw'
          subst hw''
          have hB9 := later hb9 (w := w) hB
          go_wp2_with fail
          go_roundw
          case rel => exact ⟨k + 1, by omega, by go_num, hB9, allN_succ hok.out (okAt_ok HX.out G.out HI.out)⟩
          case measure => simp [intOf]; omega
    · obtain rfl : k = n := by omega
      have HE := Lib.hid (drs_end HL.out hok.out)
      go_wp2_with fail
      go_ret
      exact ⟨by rw [HE.out]; rfl, hB⟩
set_option maxHeartbeats 400000 in
theorem c_sValidDrills (A : Option Addr) (n c : Nat) (l : List TDrill) (r : Bool) (h : drsB l = r) (w : World) (ha : Sl drillC w w.heap.size 3 A n l) (hsz : DrSz l) (hn : n ≤ 1048576) (hc : n ≤ c) :
    Calls Try.prog 21 #[.slice A n c] w fun e w' => e = .returned (.bool r) ∧ Below w.heap.size w w' := by
  have C := Lib.hid (c_l21Ok A n c l r h w ha hsz hn hc)
  clear h ha hsz
  go_enter Try.func21, Try.ntmps21
  go_wp2_with (go_at_call 49; refine C.out.mono ?_; rintro r_ w1 ⟨rfl, hb1⟩)
  go_ret
  exact ⟨rfl, hb1⟩
end Go.Proofs.Ytnjmjopbeojfoaa
