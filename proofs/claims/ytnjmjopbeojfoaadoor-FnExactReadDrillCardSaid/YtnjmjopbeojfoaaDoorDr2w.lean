/- Contracts: drills (the program; a seat without a table of zero cells). -/
import Derived.Test.YtnjmjopbeojfoaaDoorDr1
import Derived.Test.YtnjmjopbeojfoaaDoorArw
namespace Go.Proofs.YtnjmjopbeojfoaaDoor
open Go.RowKit Go.BigFrame
attribute [local go_sem] sub_cell sub_frozen drewN_setCell

attribute [local go_sem] mt_toList cons_beq_nil nil_beq_nil
set_option maxHeartbeats 4000000 in
theorem c_validDrill (nm ls : ByteArray) (mi : Int) (r : Bool) (h : okDr (nm, ls, mi) = r) (w : World) (hn : nm.size ≤ maxLen) (hs : ls.size ≤ maxLen) :
    Calls Tryd.prog 14 #[.agg #[.string nm, .string ls, .int .i64 mi]] w fun e w' => e = .returned (.bool r) ∧ Below w.heap.size w w' := by
  subst h
  have HS := Lib.hid hs
  have HN := Lib.hid hn
  unfold maxLen at hs
  clear hn
  cases g1 : nameB (bl nm) <;> have G1 := Lib.hid g1 <;> clear g1
  · go_enter Tryd.func14, Tryd.ntmps14
    go_wp2_with (go_at_call 25; refine (c_iIsName _ _ G1.out _ HN.out).mono ?_; rintro e w' ⟨rfl, rfl⟩)
    go_ret
    exact ⟨by simp only [okDr, G1.out, Bool.false_and, Bool.and_false]; rfl, by (repeat' (first | (with_reducible exact Below.refl _ _) | (with_reducible assumption) | (with_reducible refine below_drewN ?_ _) | (with_reducible refine Below.drew ?_) | (with_reducible refine Below.alloc ?_ ?_ _) | (with_reducible refine Below.setCell ?_ ?_ _) | go_size))⟩
  by_cases g3 : 0 < ls.size
  rotate_left
  · have hT := toList_nil (s := ls) (by omega)
    have G3 := Lib.hid g3
    clear g3
    go_enter Tryd.func14, Tryd.ntmps14
    go_wp2_with (go_at_call 25; refine (c_iIsName _ _ G1.out _ HN.out).mono ?_; rintro e w' ⟨rfl, rfl⟩)
    go_ret
    exact ⟨by simp only [okDr, decide_eq_false G3.out, Bool.false_and, Bool.and_false]; rfl, by (repeat' (first | (with_reducible exact Below.refl _ _) | (with_reducible assumption) | (with_reducible refine below_drewN ?_ _) | (with_reducible refine Below.drew ?_) | (with_reducible refine Below.alloc ?_ ?_ _) | (with_reducible refine Below.setCell ?_ ?_ _) | go_size))⟩
  obtain ⟨a, t, hT⟩ := toList_cons g3
  have G3 := Lib.hid g3
  clear g3
  obtain ⟨u, hu⟩ : ∃ u, textB 33 8 (bl ls) = u := ⟨_, rfl⟩
  have C := Lib.hid (fun W => c_isText ls 33 8 u hu W HS.out)
  have G2 := Lib.hid hu
  clear hu
  cases u
  · go_enter Tryd.func14, Tryd.ntmps14
    go_wp2_with (first | (go_at_call 25; refine (c_iIsName _ _ G1.out _ HN.out).mono ?_; rintro e w' ⟨rfl, rfl⟩) | (go_at_call 26; refine (C.out _).mono ?_; rintro e w' ⟨rfl, rfl⟩))
    go_ret
    exact ⟨by simp only [okDr, G2.out, Bool.false_and, Bool.and_false]; rfl, by (repeat' (first | (with_reducible exact Below.refl _ _) | (with_reducible assumption) | (with_reducible refine below_drewN ?_ _) | (with_reducible refine Below.drew ?_) | (with_reducible refine Below.alloc ?_ ?_ _) | (with_reducible refine Below.setCell ?_ ?_ _) | go_size))⟩
  cases g4 : betw mi 1 600 <;> have G4 := Lib.hid g4 <;> clear g4
  · go_enter Tryd.func14, Tryd.ntmps14
    go_wp2_with (first | (go_at_call 25; refine (c_iIsName _ _ G1.out _ HN.out).mono ?_; rintro e w' ⟨rfl, rfl⟩) | (go_at_call 26; refine (C.out _).mono ?_; rintro e w' ⟨rfl, rfl⟩) | (go_at_call 27; refine (c_between _ _ _ _ G4.out _).mono ?_; rintro e w' ⟨rfl, rfl⟩))
    go_ret
    exact ⟨by simp only [okDr, G4.out, Bool.and_false]; rfl, by (repeat' (first | (with_reducible exact Below.refl _ _) | (with_reducible assumption) | (with_reducible refine below_drewN ?_ _) | (with_reducible refine Below.drew ?_) | (with_reducible refine Below.alloc ?_ ?_ _) | (with_reducible refine Below.setCell ?_ ?_ _) | go_size))⟩
  obtain ⟨Z, nZ, zZ, rZ, sZ, tZ⟩ := zeroBex
  have hst := tZ (w.alloc (.cells #[.string nm, .string ls, .int .i64 mi] 26))
  have hsz : (w.alloc (.cells #[.string nm, .string ls, .int .i64 mi] 26)).heap.size = w.heap.size + 1 := by simp
  rw [hsz] at hst
  have hst2 := sZ (w.alloc (.cells #[.string nm, .string ls, .int .i64 mi] 26))
  rw [hsz] at hst2
  clear hsz
  go_enter Tryd.func14, Tryd.ntmps14
  go_wp2_with (first | (go_at_call 25; refine (c_iIsName _ _ G1.out _ HN.out).mono ?_; rintro e w' ⟨rfl, rfl⟩) | (go_at_call 26; refine (C.out _).mono ?_; rintro e w' ⟨rfl, rfl⟩) | (go_at_call 27; refine (c_between _ _ _ _ G4.out _).mono ?_; rintro e w' ⟨rfl, rfl⟩))
  go_loopw [30] (fun i wr => ∃ k : Nat, k ≤ ls.size ∧ i = .int .i64 k ∧ Below (w.heap.size + 1) (w.alloc (.cells #[.string nm, .string ls, .int .i64 mi] 26)) wr ∧ Hid (wr.rowIs (w.heap.size + 1) 44 256 (mk ((bl ls).take k))) ∧ Hid (allN (newAt (bl ls)) k = true)) (fun i _ => ls.size - (intOf i).toNat)
  case atStart =>
    refine ⟨0, Nat.zero_le _, rfl, by (repeat' (first | (with_reducible exact Below.refl _ _) | (with_reducible assumption) | (with_reducible refine below_drewN ?_ _) | (with_reducible refine Below.drew ?_) | (with_reducible refine Below.alloc ?_ ?_ _) | (with_reducible refine Below.setCell ?_ ?_ _) | go_size)), ?_, rfl⟩
    have h := rZ (w.alloc (.cells #[.string nm, .string ls, .int .i64 mi] 26))
    simp only [World.size_alloc] at h
    exact h
  case round =>
    obtain ⟨k, hk, rfl, hB, hR, hn⟩ := hrel
    have c1 : wr.cell? ⟨w.heap.size, 1, none⟩ = some (.string ls) := (hB.cell (p := ⟨w.heap.size, 1, none⟩) (by simp)).trans (by simp [go_sem])
    have hB0 : Below w.heap.size w wr := ((Below.refl _ _).alloc (Nat.le_refl _) _).trans (hB.mono (by omega))
    by_cases hlt : k < ls.size
    · have hg := Lib.hid (bl_get ls k hlt)
      have hc256 := u8_lt ls[k]
      have r0 := hR.out.cell hc256
      have f0 := hR.out.frozen ls[k].toNat
      rw [mk_byte] at r0
      have hb2 := hR.out.lt
      by_cases hc : ls[k] ∈ (bl ls).take k
      · rw [decide_eq_true hc] at r0
        have HC := Lib.hid hc
        clear hc
        go_wp2_with fail
        go_ret
        exact ⟨by simp only [okDr, distB_bad hg.out HC.out, Bool.false_and]; rfl, hB0⟩
      · rw [decide_eq_false hc] at r0
        have HC := Lib.hid hc
        clear hc
        go_wp2_with fail
        go_roundw
        case rel => exact ⟨k + 1, by omega, by go_num, hB.setCell (by simp) _, by show World.rowIs _ _ _ _ (mk ((bl ls).take (k + 1))); rw [List.take_add_one, hg.out]; exact mk_set hR.out, allN_succ hn.out (newAt_yes hg.out HC.out)⟩
        case measure => simp [intOf]; omega
    · obtain rfl : k = ls.size := by omega
      have HD : Hid (distB (bl ls) = true) := by show allN _ _ = true; rw [bl_len]; exact hn.out
      go_wp2_with fail
      go_ret
      exact ⟨by simp only [okDr, HD.out, G1.out, G2.out, decide_eq_true G3.out, G4.out]; rfl, hB0⟩
end Go.Proofs.YtnjmjopbeojfoaaDoor
