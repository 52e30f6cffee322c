/- Contracts: drills (the program). -/
import Derived.Test.YtnjmjopbeojfoaaDr1
import Derived.Test.YtnjmjopbeojfoaaAr
namespace Go.Proofs.Ytnjmjopbeojfoaa
open Go.RowKit Go.BigFrame
attribute [local go_sem] sub_cell sub_frozen drewN_setCell

attribute [local go_sem] mt_toList cons_beq_nil nil_beq_nil
set_option maxHeartbeats 4000000 in
theorem c_validDrill (nm ls : ByteArray) (mi : Int) (r : Bool) (h : okDr (nm, ls, mi) = r) (w : World) (hn : nm.size ≤ maxLen) (hs : ls.size ≤ maxLen) :
    Calls Try.prog 46 #[.agg #[.string nm, .string ls, .int .i64 mi]] w fun e w' => e = .returned (.bool r) ∧ Below w.heap.size w w' := by
  subst h
  have HS := Lib.hid hs
  have HN := Lib.hid hn
  unfold maxLen at hs
  clear hn
  cases g1 : nameB (bl nm) <;> have G1 := Lib.hid g1 <;> clear g1
  · go_enter Try.func46, Try.ntmps46
    go_wp2_with (go_at_call 70; refine (c_iIsName _ _ G1.out _ HN.out).mono ?_; rintro e w' ⟨rfl, rfl⟩)
    go_ret
    exact ⟨by simp only [okDr, G1.out, Bool.false_and, Bool.and_false]; rfl, by (repeat' (first | (with_reducible exact Below.refl _ _) | (with_reducible assumption) | (with_reducible refine below_drewN ?_ _) | (with_reducible refine Below.drew ?_) | (with_reducible refine Below.alloc ?_ ?_ _) | (with_reducible refine Below.setCell ?_ ?_ _) | go_size))⟩
  by_cases g3 : 0 < ls.size
  rotate_left
  · have hT := toList_nil (s := ls) (by omega)
    have G3 := Lib.hid g3
    clear g3
    go_enter Try.func46, Try.ntmps46
    go_wp2_with (go_at_call 70; refine (c_iIsName _ _ G1.out _ HN.out).mono ?_; rintro e w' ⟨rfl, rfl⟩)
    go_ret
    exact ⟨by simp only [okDr, decide_eq_false G3.out, Bool.false_and, Bool.and_false]; rfl, by (repeat' (first | (with_reducible exact Below.refl _ _) | (with_reducible assumption) | (with_reducible refine below_drewN ?_ _) | (with_reducible refine Below.drew ?_) | (with_reducible refine Below.alloc ?_ ?_ _) | (with_reducible refine Below.setCell ?_ ?_ _) | go_size))⟩
  obtain ⟨a, t, hT⟩ := toList_cons g3
  have G3 := Lib.hid g3
  clear g3
  obtain ⟨u, hu⟩ : ∃ u, textB 33 8 (bl ls) = u := ⟨_, rfl⟩
  have C := Lib.hid (fun W => c_isText ls 33 8 u hu W HS.out)
  have G2 := Lib.hid hu
  clear hu
  cases u
  · go_enter Try.func46, Try.ntmps46
    go_wp2_with (first | (go_at_call 70; refine (c_iIsName _ _ G1.out _ HN.out).mono ?_; rintro e w' ⟨rfl, rfl⟩) | (go_at_call 66; refine (C.out _).mono ?_; rintro e w' ⟨rfl, rfl⟩))
    go_ret
    exact ⟨by simp only [okDr, G2.out, Bool.false_and, Bool.and_false]; rfl, by (repeat' (first | (with_reducible exact Below.refl _ _) | (with_reducible assumption) | (with_reducible refine below_drewN ?_ _) | (with_reducible refine Below.drew ?_) | (with_reducible refine Below.alloc ?_ ?_ _) | (with_reducible refine Below.setCell ?_ ?_ _) | go_size))⟩
  cases g4 : betw mi 1 600 <;> have G4 := Lib.hid g4 <;> clear g4
  · go_enter Try.func46, Try.ntmps46
    go_wp2_with (first | (go_at_call 70; refine (c_iIsName _ _ G1.out _ HN.out).mono ?_; rintro e w' ⟨rfl, rfl⟩) | (go_at_call 66; refine (C.out _).mono ?_; rintro e w' ⟨rfl, rfl⟩) | (go_at_call 42; refine (c_between _ _ _ _ G4.out _).mono ?_; rintro e w' ⟨rfl, rfl⟩))
    go_ret
    exact ⟨by simp only [okDr, G4.out, Bool.and_false]; rfl, by (repeat' (first | (with_reducible exact Below.refl _ _) | (with_reducible assumption) | (with_reducible refine below_drewN ?_ _) | (with_reducible refine Below.drew ?_) | (with_reducible refine Below.alloc ?_ ?_ _) | (with_reducible refine Below.setCell ?_ ?_ _) | go_size))⟩
  have hst := storeB (w.alloc (.cells #[.string nm, .string ls, .int .i64 mi] 31))
  have hsz : (w.alloc (.cells #[.string nm, .string ls, .int .i64 mi] 31)).heap.size = w.heap.size + 1 := by simp
  rw [hsz] at hst
  clear hsz
  go_enter Try.func46, Try.ntmps46
  go_wp2_with (first | (go_at_call 70; refine (c_iIsName _ _ G1.out _ HN.out).mono ?_; rintro e w' ⟨rfl, rfl⟩) | (go_at_call 66; refine (C.out _).mono ?_; rintro e w' ⟨rfl, rfl⟩) | (go_at_call 42; refine (c_between _ _ _ _ G4.out _).mono ?_; rintro e w' ⟨rfl, rfl⟩))
  go_loopw [30] (fun i wr => ∃ k : Nat, k ≤ ls.size ∧ i = .int .i64 k ∧ Below (w.heap.size + 1) (w.alloc (.cells #[.string nm, .string ls, .int .i64 mi] 31)) wr ∧ Hid (wr.rowIs (w.heap.size + 1) 85 256 (mk ((bl ls).take k))) ∧ Hid (allN (newAt (bl ls)) k = true)) (fun i _ => ls.size - (intOf i).toNat)
  case atStart =>
    refine ⟨0, Nat.zero_le _, rfl, by (repeat' (first | (with_reducible exact Below.refl _ _) | (with_reducible assumption) | (with_reducible refine below_drewN ?_ _) | (with_reducible refine Below.drew ?_) | (with_reducible refine Below.alloc ?_ ?_ _) | (with_reducible refine Below.setCell ?_ ?_ _) | go_size)), ?_, rfl⟩
    have h := rowB_new (w.alloc (.cells #[.string nm, .string ls, .int .i64 mi] 31))
    simp only [World.size_alloc] at h
    exact h
  case round =>
    obtain ⟨k, hk, rfl, hB, hR, hn⟩ := hrel
    have c1 : wr.cell? ⟨w.heap.size, 1, none⟩ = some (.string ls) := (hB.cell (p := ⟨w.heap.size, 1, none⟩) (by simp)).trans (by simp [go_sem])
    have hB0 : Below w.heap.size w wr := ((Below.refl _ _).alloc (Nat.le_refl _) _).trans (hB.mono (by omega))
    by_cases hlt : k < ls.size
    · have hg := Lib.hid (bl_get ls k hlt)
      have hc256 := u8_lt ls[k]
      have r0 := hR.out.cell hc256
      have f0 := hR.out.frozen ls[k].toNat
      rw [mk_byte] at r0
      have hb2 := hR.out.lt
      by_cases hc : ls[k] ∈ (bl ls).take k
      · rw [decide_eq_true hc] at r0
        have HC := Lib.hid hc
        clear hc
        go_wp2_with fail
        go_ret
        exact ⟨by simp only [okDr, distB_bad hg.out HC.out, Bool.false_and]; rfl, hB0⟩
      · rw [decide_eq_false hc] at r0
        have HC := Lib.hid hc
        clear hc
        go_wp2_with fail
        go_roundw
        case rel => exact ⟨k + 1, by omega, by go_num, hB.setCell (by simp) _, by show World.rowIs _ _ _ _ (mk ((bl ls).take (k + 1))); rw [List.take_add_one, hg.out]; exact mk_set hR.out, allN_succ hn.out (newAt_yes hg.out HC.out)⟩
        case measure => simp [intOf]; omega
    · obtain rfl : k = ls.size := by omega
      have HD : Hid (distB (bl ls) = true) := by show allN _ _ = true; rw [bl_len]; exact hn.out
      go_wp2_with fail
      go_ret
      exact ⟨by simp only [okDr, HD.out, G1.out, G2.out, decide_eq_true G3.out, G4.out]; rfl, hB0⟩
theorem zero_bool (w : World) : (zeroValue 4).run Try.prog w = .ok (.bool false) w := by kernel_rfl
set_option maxHeartbeats 4000000 in
theorem c_iValidDrills (A : Option Addr) (n c : Nat) (l : List TDrill) (r : Bool) (h : drsB l = r) (w : World) (ha : Sl drillC w w.heap.size 3 A n l) (hsz : DrSz l) (hn : n ≤ 1048576) :
    Calls Try.prog 23 #[.slice A n c] w fun e w' => e = .returned (.bool r) ∧ Below w.heap.size w w' := by
  subst h
  have HL := Lib.hid ha.1
  have HSZ := Lib.hid hsz
  have HA := Lib.hid ha
  clear hsz ha
  have hmm := @run_makeMap Try.prog
  go_enter Try.func23, Try.ntmps23
  go_wp2_with fail
  go_loopw [9] (fun i wr => ∃ p : Nat, p ≤ n ∧ i = .int .i64 p ∧ Below w.heap.size w wr ∧ Hid (TextSet Try.prog 9 4 wr w.heap.size (nmsR (·.1) l p)) ∧ Hid (allN (okAt okDr (·.1) l) p = true)) (fun i _ => n - (intOf i).toNat)
  case atStart => exact ⟨0, Nat.zero_le _, rfl, by (repeat' (first | (with_reducible exact Below.refl _ _) | (with_reducible assumption) | (with_reducible refine below_drewN ?_ _) | (with_reducible refine Below.drew ?_) | (with_reducible refine Below.alloc ?_ ?_ _) | (with_reducible refine Below.setCell ?_ ?_ _) | go_size)), TextSet.made _, rfl⟩
  case round =>
    clear hmm
    obtain ⟨p, hpn, rfl, hB, hS, hok⟩ := hrel
    have hz := hB.size
    have hzS := hS.out.lt
    by_cases hlt2 : p < n
    · obtain ⟨b, o, nm, ls, mi, rfl, hb1, hb2, hx, c0, c1, c2⟩ := drill_at HA.out hB hlt2
      have hs := HSZ.out _ (List.mem_of_getElem? hx)
      have hs1 := hs.1
      have hs2 := hs.2
      have HX := Lib.hid hx
      clear hx hs
      obtain ⟨u, hu⟩ : ∃ u, decide (nm ∈ nmsR (·.1) l p) = u := ⟨_, rfl⟩
      have HL2 := Lib.hid (fun (W : World) (hW : Below (wr.alloc (.cells #[.string nm, .string ls, .int .i64 mi] 31)).heap.size (wr.alloc (.cells #[.string nm, .string ls, .int .i64 mi] 31)) W) => ((hS.out.alloc _).later hW).look Try.underlying65 Try.underlying9 Try.underlying4 (zero_bool _) hs1 hu)
      have HS2 := Lib.hid (fun (W : World) (hW : Below (wr.alloc (.cells #[.string nm, .string ls, .int .i64 mi] 31)).heap.size (wr.alloc (.cells #[.string nm, .string ls, .int .i64 mi] 31)) W) => (hS.out.alloc (.cells #[.string nm, .string ls, .int .i64 mi] 31)).later hW)
      have HU := Lib.hid hu
      clear hu hS
      cases g1 : okDr (nm, ls, mi) <;> have G1 := Lib.hid g1 <;> clear g1
      · go_wp2_with (go_at_call 46; refine (c_validDrill nm ls mi _ G1.out _ hs1 hs2).mono ?_; rintro r_ w1 ⟨rfl, hb1⟩; have hB1 := later hb1 (w := w) (by (repeat' (first | (with_reducible exact Below.refl _ _) | (with_reducible assumption) | (with_reducible refine below_drewN ?_ _) | (with_reducible refine Below.drew ?_) | (with_reducible refine Below.alloc ?_ ?_ _) | (with_reducible refine Below.setCell ?_ ?_ _) | go_size))); clear hb1)
        go_ret
        exact ⟨by rw [drs_item HX.out (okAt_bad HX.out G1.out)]; rfl, hB1⟩
      cases u
      rotate_left
      · go_wp2_with (go_at_call 46; refine (c_validDrill nm ls mi _ G1.out _ hs1 hs2).mono ?_; rintro r_ w1 ⟨rfl, hb1⟩; have hB1 := later hb1 (w := w) (by (repeat' (first | (with_reducible exact Below.refl _ _) | (with_reducible assumption) | (with_reducible refine below_drewN ?_ _) | (with_reducible refine Below.drew ?_) | (with_reducible refine Below.alloc ?_ ?_ _) | (with_reducible refine Below.setCell ?_ ?_ _) | go_size))); have k0 : w1.cell? ⟨wr.heap.size, 0, none⟩ = some (.string nm) := (hb1.cell (p := ⟨wr.heap.size, 0, none⟩) (by simp)).trans (by simp [go_sem]); have hlook := HL2.out w1 hb1; clear hb1)
        go_ret
        exact ⟨by rw [drs_item HX.out (okAt_old HX.out (nmsR_mem.1 (of_decide_eq_true HU.out)))]; rfl, hB1⟩
      · have hlen : (nmsR (·.1) l p).length < maxLen := Nat.lt_of_le_of_lt nmsR_len (by unfold maxLen; omega)
        have HLEN := Lib.hid hlen
        clear hlen
        go_wp2_with (first | (go_at_call 46; refine (c_validDrill nm ls mi _ G1.out _ hs1 hs2).mono ?_; rintro r_ w1 ⟨rfl, hb1⟩; have hB1 := later hb1 (w := w) (by (repeat' (first | (with_reducible exact Below.refl _ _) | (with_reducible assumption) | (with_reducible refine below_drewN ?_ _) | (with_reducible refine Below.drew ?_) | (with_reducible refine Below.alloc ?_ ?_ _) | (with_reducible refine Below.setCell ?_ ?_ _) | go_size))); have k0 : w1.cell? ⟨wr.heap.size, 0, none⟩ = some (.string nm) := (hb1.cell (p := ⟨wr.heap.size, 0, none⟩) (by simp)).trans (by simp [go_sem]); have hlook := HL2.out w1 hb1; have HS1 := Lib.hid (HS2.out w1 hb1); clear hb1) | (at_mapUpdate; refine wpList_textSet _ rfl _ _ _ 65 rfl 9 4 Try.underlying65 Try.underlying9 Try.underlying4 w.heap.size _ rfl HS1.out HLEN.out nm rfl hs1 rfl ?_; intro w2 hS2 hg2; have hB2 := below_map hB1 hg2 (Nat.le_refl _) hB1.size))
        go_roundw
        case rel => exact ⟨p + 1, by omega, by go_num, hB2, by show TextSet _ _ _ _ _ (nmsR (·.1) l (p + 1)); rw [nmsR_succ HX.out]; exact hS2, allN_succ hok.out (okAt_ok HX.out G1.out (fun h => absurd (nmsR_mem.2 h) (of_decide_eq_false HU.out)))⟩
        case measure => simp [intOf]; omega
    · obtain rfl : p = n := by omega
      have HE := Lib.hid (drs_end HL.out hok.out)
      go_wp2_with fail
      go_ret
      exact ⟨by rw [HE.out]; rfl, hB⟩
end Go.Proofs.Ytnjmjopbeojfoaa
