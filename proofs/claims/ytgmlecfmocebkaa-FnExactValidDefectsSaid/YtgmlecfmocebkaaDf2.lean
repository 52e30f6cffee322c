/- Contracts: defects and prices that are valid (lists). -/
import Derived.Test.YtgmlecfmocebkaaDf
namespace Go.Proofs.Ytgmlecfmocebkaa
open Go.RowKit Go.BigFrame
attribute [local go_sem] sub_cell sub_frozen drewN_setCell

theorem vdef_price {l : List TDefect} {z : List Int} {k : Nat} {x : Int} (h : z[k]? = some x) (hx : betw x 1 100 = false) : vdefB l z = false := by
  have : pricesB z = false := by
    simp only [pricesB, Bool.and_eq_false_iff]
    left
    rw [List.all_eq_false]
    exact ⟨x, List.mem_of_getElem? h, by simp [hx]⟩
  simp [vdefB, this]
theorem vdef_item {l : List TDefect} {z : List Int} {k : Nat} {x : TDefect} {m : Nat} (hm : z.length = m) (h : l[k]? = some x) (hx : okAt (okDef m) (·.1) l k = false) : vdefB l z = false := by
  subst hm
  simp [vdefB, defsB, listOk_bad h hx]
theorem vdef_end {l : List TDefect} {z : List Int} {n m : Nat} (hl : l.length = n) (hm : z.length = m) (hp : (z.take m).all (betw · 1 100) = true) (h : allN (okAt (okDef m) (·.1) l) n = true) : vdefB l z = (decide ((n : Int) ≤ 10) && decide ((m : Int) ≤ 6)) := by
  subst hm hl
  rw [List.take_of_length_le (Nat.le_refl _)] at hp
  simp only [vdefB, pricesB, defsB, hp, listOk, h, Bool.true_and]
  rw [Bool.and_comm]
  congr 1 <;> simp <;> omega
theorem take_all {α : Type} {p : α → Bool} {l : List α} {k : Nat} {x : α} (hx : l[k]? = some x) (h : (l.take k).all p = true) (hv : p x = true) : (l.take (k + 1)).all p = true := by
  rw [List.take_add_one, hx, List.all_append, h]
  simpa using hv

set_option maxHeartbeats 4000000 in
theorem c_l23Ok (A B : Option Addr) (n c m d : Nat) (l : List TDefect) (z : List Int) (r : Bool) (h : vdefB l z = r) (w : World) (ha : Sl defectC w w.heap.size 3 A n l) (hb : Zs w B m z) (hsz : ∀ x ∈ l, x.1.size ≤ maxLen ∧ x.2.2.size ≤ maxLen) (hn : n ≤ 1048576) (hm : m ≤ 1048576) :
    Calls Try.prog 59 #[.slice A n c, .slice B m d] w fun e w' => e = .returned (.bool r) ∧ Below w.heap.size w w' := by
  subst h
  have HL := Lib.hid ha.1
  have HZ := Lib.hid hb.1
  have HSZ := Lib.hid hsz
  have HA := Lib.hid ha
  have HZS := Lib.hid hb
  clear hsz ha hb
  go_enter Try.func59, Try.ntmps59
  go_wp2_with fail
  go_loop [5] (fun i => ∃ k : Nat, k ≤ m ∧ i = .int .i64 k ∧ Hid ((z.take k).all (betw · 1 100) = true)) (fun i => m - (intOf i).toNat)
  case atStart => exact ⟨0, Nat.zero_le _, rfl, rfl⟩
  case round =>
    obtain ⟨k, hk, rfl, hp⟩ := hrel
    by_cases hlt : k < m
    · obtain ⟨b, o, x, rfl, hb1, hb2, hx, c0⟩ := z_at HZS.out (Below.refl _ _) hlt
      have HX := Lib.hid hx
      clear hx
      cases g : betw x 1 100 <;> have G := Lib.hid g <;> clear g
      · go_wp2_with (go_at_call 68; refine (c_l00In _ _ _ _ G.out _).mono ?_; rintro e w' ⟨rfl, rfl⟩)
        go_ret
        exact ⟨by rw [vdef_price HX.out G.out]; rfl, Below.refl _ _⟩
      · go_wp2_with (go_at_call 68; refine (c_l00In _ _ _ _ G.out _).mono ?_; rintro e w' ⟨rfl, rfl⟩)
        go_round
        case rel => exact ⟨k + 1, by omega, by go_num, take_all HX.out hp.out G.out⟩
        case measure => simp [intOf]; omega
    · obtain rfl : k = m := by omega
      go_wp2_with fail
      go_loopw [6] (fun i wr => ∃ p : Nat, p ≤ n ∧ i = .int .i64 p ∧ Below w.heap.size w wr ∧ Hid (allN (okAt (okDef k) (·.1) l) p = true)) (fun i _ => n - (intOf i).toNat)
      case atStart => exact ⟨0, Nat.zero_le _, rfl, Below.refl _ _, rfl⟩
      case round =>
        obtain ⟨p, hpn, rfl, hB, hok⟩ := hrel
        by_cases hlt2 : p < n
        · obtain ⟨b, o, nm, wt, sg, rfl, hb1, hb2, hx, c0, c1, c2⟩ := defect_at HA.out hB hlt2
          have hs := HSZ.out _ (List.mem_of_getElem? hx)
          have hs1 := hs.1
          have hs2 := hs.2
          have HX := Lib.hid hx
          clear hx hs
          cases g : okDef k (nm, wt, sg) <;> have G := Lib.hid g <;> clear g
          · go_wp2_with (go_at_call 70; refine (c_l23One nm wt sg k _ _ _ G.out _ c0 c1 c2 hs1 hs2).mono ?_; rintro e w' ⟨rfl, rfl⟩)
            go_ret
            exact ⟨by rw [vdef_item HZ.out HX.out (okAt_bad HX.out G.out)]; rfl, hB⟩
          · go_wp2_with (go_at_call 70; refine (c_l23One nm wt sg k _ _ _ G.out _ c0 c1 c2 hs1 hs2).mono ?_; rintro e w' ⟨rfl, rfl⟩)
            go_loopw [7] (fun y wr2 => ∃ q : Nat, q ≤ p ∧ y = .int .i64 q ∧ Below w.heap.size w wr2 ∧ Hid (nm ∉ (l.take q).map (·.1))) (fun y _ => p - (intOf y).toNat)
            case atStart => exact ⟨0, Nat.zero_le _, rfl, hB, by show nm ∉ _; simp⟩
            case round =>
              clear c0 c1 c2 hb1 hB
              obtain ⟨q, hq, rfl, hB, hnot⟩ := hrel
              by_cases hlt3 : q < p
              · obtain ⟨nm1, wt1, sg1, hb1, _, hx1, c0, _, _⟩ := defect_atB HA.out hB (k := q) (by omega)
                obtain ⟨nm2, wt2, sg2, _, _, hx2, c0', _, _⟩ := defect_atB HA.out hB hlt2
                rw [HX.out] at hx2
                simp only [Option.some.injEq, Prod.mk.injEq] at hx2
                obtain ⟨rfl, rfl, rfl⟩ := hx2
                have HX1 := Lib.hid hx1
                clear hx1
                by_cases e : nm1 = nm
                · have e1 := txt_eq e
                  have E := Lib.hid e
                  clear e
                  go_wp2_with fail
                  go_quiet (fail)
                  go_wp2_with fail
                  go_ret
                  exact ⟨by rw [vdef_item HZ.out HX.out (okAt_old HX.out (in_later HX1.out hlt3 E.out.symm))]; rfl, by (repeat' (first | (with_reducible exact Below.refl _ _) | (with_reducible assumption) | (with_reducible refine below_drewN ?_ _) | (with_reducible refine Below.drew ?_) | (with_reducible refine Below.alloc ?_ ?_ _) | (with_reducible refine Below.setCell ?_ ?_ _) | go_size))⟩
                · have e1 := txt_ne e
                  have E := Lib.hid e
                  clear e
                  go_wp2_with fail
                  go_quiet (fail)
                  go_wp2_with fail
                  go_roundw
                  case rel => exact ⟨q + 1, by omega, by go_num, by (repeat' (first | (with_reducible exact Below.refl _ _) | (with_reducible assumption) | (with_reducible refine below_drewN ?_ _) | (with_reducible refine Below.drew ?_) | (with_reducible refine Below.alloc ?_ ?_ _) | (with_reducible refine Below.setCell ?_ ?_ _) | go_size)), notin_succ HX1.out hnot.out (fun e => E.out e.symm)⟩
                  case measure => simp [intOf]; omega
              · obtain rfl : q = p := by omega
                go_wp2_with fail
                go_roundw
                case rel => exact ⟨q + 1, by omega, by go_num, hB, allN_succ hok.out (okAt_ok HX.out G.out hnot.out)⟩
                case measure => simp [intOf]; omega
        · obtain rfl : p = n := by omega
          have HE := Lib.hid (vdef_end HL.out HZ.out hp.out hok.out)
          by_cases e1 : (p : Int) ≤ 10
          · by_cases e2 : (k : Int) ≤ 6
            · have HE2 := Lib.hid (show vdefB l z = true by rw [HE.out, decide_eq_true e1, decide_eq_true e2]; rfl)
              go_wp2_with fail
              go_ret
              exact ⟨by rw [HE2.out]; rfl, hB⟩
            · have HE2 := Lib.hid (show vdefB l z = false by rw [HE.out, decide_eq_false e2, Bool.and_false])
              go_wp2_with fail
              go_ret
              exact ⟨by rw [HE2.out]; rfl, hB⟩
          · have HE2 := Lib.hid (show vdefB l z = false by rw [HE.out, decide_eq_false e1, Bool.false_and])
            go_wp2_with fail
            go_ret
            exact ⟨by rw [HE2.out]; rfl, hB⟩
set_option maxHeartbeats 400000 in
theorem c_sValidDefects (A B : Option Addr) (n c m d : Nat) (l : List TDefect) (z : List Int) (r : Bool) (h : vdefB l z = r) (w : World) (ha : Sl defectC w w.heap.size 3 A n l) (hb : Zs w B m z) (hsz : ∀ x ∈ l, x.1.size ≤ maxLen ∧ x.2.2.size ≤ maxLen) (hn : n ≤ 1048576) (hm : m ≤ 1048576) :
    Calls Try.prog 32 #[.slice A n c, .slice B m d] w fun e w' => e = .returned (.bool r) ∧ Below w.heap.size w w' := by
  have C := Lib.hid (c_l23Ok A B n c m d l z r h w ha hb hsz hn hm)
  clear h ha hb hsz
  go_enter Try.func32, Try.ntmps32
  go_wp2_with (go_at_call 59; refine C.out.mono ?_; rintro r_ w1 ⟨rfl, hb1⟩)
  go_ret
  exact ⟨rfl, hb1⟩

theorem vdef_lens {l : List TDefect} {z : List Int} {n m : Nat} (hl : l.length = n) (hm : z.length = m) (h : (6 : Int) < m ∨ (10 : Int) < n) : vdefB l z = false := by
  subst hm hl
  simp only [vdefB, pricesB, defsB, Bool.and_eq_false_iff, decide_eq_false_iff_not]
  omega
theorem zero_bool (w : World) : (zeroValue 4).run Try.prog w = .ok (.bool false) w := by kernel_rfl
set_option maxHeartbeats 4000000 in
theorem c_iValidDefects (A B : Option Addr) (n c m d : Nat) (l : List TDefect) (z : List Int) (r : Bool) (h : vdefB l z = r) (w : World) (ha : Sl defectC w w.heap.size 3 A n l) (hb : Zs w B m z) (hsz : ∀ x ∈ l, x.1.size ≤ maxLen ∧ x.2.2.size ≤ maxLen) (hn : n ≤ 1048576) (hm : m ≤ 1048576) :
    Calls Try.prog 35 #[.slice A n c, .slice B m d] w fun e w' => e = .returned (.bool r) ∧ Below w.heap.size w w' := by
  subst h
  have HL := Lib.hid ha.1
  have HZ := Lib.hid hb.1
  have HSZ := Lib.hid hsz
  have HA := Lib.hid ha
  have HZS := Lib.hid hb
  clear hsz ha hb
  by_cases h6 : (6 : Int) < m
  · have HV := Lib.hid (vdef_lens HL.out HZ.out (.inl h6))
    go_enter Try.func35, Try.ntmps35
    go_wp2_with fail
    go_ret
    exact ⟨by rw [HV.out]; rfl, Below.refl _ _⟩
  by_cases h10 : (10 : Int) < n
  · have HV := Lib.hid (vdef_lens HL.out HZ.out (.inr h10))
    go_enter Try.func35, Try.ntmps35
    go_wp2_with fail
    go_ret
    exact ⟨by rw [HV.out]; rfl, Below.refl _ _⟩
  have hmm := @run_makeMap Try.prog
  go_enter Try.func35, Try.ntmps35
  go_wp2_with fail
  go_loop [21] (fun i => ∃ k : Nat, k ≤ m ∧ i = .int .i64 k ∧ Hid ((z.take k).all (betw · 1 100) = true)) (fun i => m - (intOf i).toNat)
  case atStart => exact ⟨0, Nat.zero_le _, rfl, rfl⟩
  case round =>
    obtain ⟨k, hk, rfl, hp⟩ := hrel
    by_cases hlt : k < m
    · obtain ⟨b, o, x, rfl, hb1, hb2, hx, c0⟩ := z_at HZS.out (Below.refl _ _) hlt
      have HX := Lib.hid hx
      clear hx
      cases g : betw x 1 100 <;> have G := Lib.hid g <;> clear g
      · go_wp2_with (go_at_call 46; refine (c_between _ _ _ _ G.out _).mono ?_; rintro e w' ⟨rfl, rfl⟩)
        go_ret
        exact ⟨by rw [vdef_price HX.out G.out]; rfl, Below.refl _ _⟩
      · go_wp2_with (go_at_call 46; refine (c_between _ _ _ _ G.out _).mono ?_; rintro e w' ⟨rfl, rfl⟩)
        go_round
        case rel => exact ⟨k + 1, by omega, by go_num, take_all HX.out hp.out G.out⟩
        case measure => simp [intOf]; omega
    · obtain rfl : k = m := by omega
      go_wp2_with fail
      go_loopw [32] (fun i wr => ∃ p : Nat, p ≤ n ∧ i = .int .i64 p ∧ Below w.heap.size w wr ∧ Hid (TextSet Try.prog 9 4 wr w.heap.size (nmsR (·.1) l p)) ∧ Hid (allN (okAt (okDef k) (·.1) l) p = true)) (fun i _ => n - (intOf i).toNat)
      case atStart => exact ⟨0, Nat.zero_le _, rfl, by (repeat' (first | (with_reducible exact Below.refl _ _) | (with_reducible assumption) | (with_reducible refine below_drewN ?_ _) | (with_reducible refine Below.drew ?_) | (with_reducible refine Below.alloc ?_ ?_ _) | (with_reducible refine Below.setCell ?_ ?_ _) | go_size)), TextSet.made _, rfl⟩
      case round =>
        clear hmm
        obtain ⟨p, hpn, rfl, hB, hS, hok⟩ := hrel
        have hz := hB.size
        have hzS := hS.out.lt
        by_cases hlt2 : p < n
        · obtain ⟨b, o, nm, wt, sg, rfl, hb1, hb2, hx, c0, c1, c2⟩ := defect_at HA.out hB hlt2
          have hs := HSZ.out _ (List.mem_of_getElem? hx)
          have hs1 := hs.1
          have hs2 := hs.2
          have HX := Lib.hid hx
          clear hx hs
          obtain ⟨u, hu⟩ : ∃ u, decide (nm ∈ nmsR (·.1) l p) = u := ⟨_, rfl⟩
          have hlook := fun o => (hS.out.alloc o).look Try.underlying94 Try.underlying9 Try.underlying4 (zero_bool _) hs1 hu
          have HU := Lib.hid hu
          clear hu
          have hbad : okDef k (nm, wt, sg) = false → vdefB l z = false := fun h => vdef_item HZ.out HX.out (okAt_bad HX.out h)
          have HBAD := Lib.hid hbad
          clear hbad
          cases g1 : nameB (bl nm) <;> have G1 := Lib.hid g1 <;> clear g1
          · go_wp2_with (go_at_call 61; refine (c_iIsName _ _ G1.out _ hs1).mono ?_; rintro e w' ⟨rfl, rfl⟩)
            go_ret
            exact ⟨by rw [HBAD.out (by simp only [okDef, G1.out, Bool.false_and, Bool.and_false])]; rfl, by (repeat' (first | (with_reducible exact Below.refl _ _) | (with_reducible assumption) | (with_reducible refine below_drewN ?_ _) | (with_reducible refine Below.drew ?_) | (with_reducible refine Below.alloc ?_ ?_ _) | (with_reducible refine Below.setCell ?_ ?_ _) | go_size))⟩
          cases u
          rotate_left
          · go_wp2_with (go_at_call 61; refine (c_iIsName _ _ G1.out _ hs1).mono ?_; rintro e w' ⟨rfl, rfl⟩)
            go_ret
            exact ⟨by rw [vdef_item HZ.out HX.out (okAt_old HX.out (nmsR_mem.1 (of_decide_eq_true HU.out)))]; rfl, by (repeat' (first | (with_reducible exact Below.refl _ _) | (with_reducible assumption) | (with_reducible refine below_drewN ?_ _) | (with_reducible refine Below.drew ?_) | (with_reducible refine Below.alloc ?_ ?_ _) | (with_reducible refine Below.setCell ?_ ?_ _) | go_size))⟩
          cases g2 : betw wt 1 1000 <;> have G2 := Lib.hid g2 <;> clear g2
          · go_wp2_with (first | (go_at_call 61; refine (c_iIsName _ _ G1.out _ hs1).mono ?_; rintro e w' ⟨rfl, rfl⟩) | (go_at_call 46; refine (c_between _ _ _ _ G2.out _).mono ?_; rintro e w' ⟨rfl, rfl⟩))
            go_ret
            exact ⟨by rw [HBAD.out (by simp only [okDef, G2.out, Bool.false_and, Bool.and_false])]; rfl, by (repeat' (first | (with_reducible exact Below.refl _ _) | (with_reducible assumption) | (with_reducible refine below_drewN ?_ _) | (with_reducible refine Below.drew ?_) | (with_reducible refine Below.alloc ?_ ?_ _) | (with_reducible refine Below.setCell ?_ ?_ _) | go_size))⟩
          unfold maxLen at hs2
          by_cases g3 : sg.size = k
          rotate_left
          · have e3 : ((sg.size : Int) != (k : Int)) = true := by simp; omega
            have G3 := Lib.hid g3
            clear g3
            go_wp2_with (first | (go_at_call 61; refine (c_iIsName _ _ G1.out _ hs1).mono ?_; rintro e w' ⟨rfl, rfl⟩) | (go_at_call 46; refine (c_between _ _ _ _ G2.out _).mono ?_; rintro e w' ⟨rfl, rfl⟩))
            go_ret
            exact ⟨by rw [HBAD.out (by simp only [okDef, decide_eq_false G3.out, Bool.and_false])]; rfl, by (repeat' (first | (with_reducible exact Below.refl _ _) | (with_reducible assumption) | (with_reducible refine below_drewN ?_ _) | (with_reducible refine Below.drew ?_) | (with_reducible refine Below.alloc ?_ ?_ _) | (with_reducible refine Below.setCell ?_ ?_ _) | go_size))⟩
          · have e3 : ((sg.size : Int) != (k : Int)) = false := by simp [g3]
            have G3 := Lib.hid g3
            have hlen : (nmsR (·.1) l p).length < maxLen := Nat.lt_of_le_of_lt nmsR_len (by unfold maxLen; omega)
            have HLEN := Lib.hid hlen
            clear g3 hlen
            have HS := fun o => Lib.hid (hS.out.alloc o)
            clear hS
            go_wp2_with (first | (go_at_call 61; refine (c_iIsName _ _ G1.out _ hs1).mono ?_; rintro e w' ⟨rfl, rfl⟩) | (go_at_call 46; refine (c_between _ _ _ _ G2.out _).mono ?_; rintro e w' ⟨rfl, rfl⟩) | (at_mapUpdate; refine wpList_textSet _ rfl _ _ _ 94 rfl 9 4 Try.underlying94 Try.underlying9 Try.underlying4 w.heap.size _ rfl (HS _).out HLEN.out nm rfl hs1 rfl ?_; intro w1 hS1 hg1; have k2 : w1.cell? ⟨wr.heap.size, 2, none⟩ = some (.string sg) := (cell_grown hg1 (by simp) (by simp; omega)).trans (by simp [go_sem]); have hB1 := below_map (by (repeat' (first | (with_reducible exact Below.refl _ _) | (with_reducible assumption) | (with_reducible refine below_drewN ?_ _) | (with_reducible refine Below.drew ?_) | (with_reducible refine Below.alloc ?_ ?_ _) | (with_reducible refine Below.setCell ?_ ?_ _) | go_size)) : Below w.heap.size w _) hg1 (Nat.le_refl _) (by simp; omega)))
            go_loop [66] (fun i => ∃ j : Nat, j ≤ sg.size ∧ i = .int .i64 j ∧ Hid (((bl sg).take j).all bitB = true)) (fun i => sg.size - (intOf i).toNat)
            case atStart => exact ⟨0, Nat.zero_le _, rfl, rfl⟩
            case round =>
              obtain ⟨j, hj, rfl, hh⟩ := hrel
              by_cases hlt3 : j < sg.size
              · have hg := Lib.hid (bl_get sg j hlt3)
                have q0 := u8_litn (a := sg[j]) (c := 48) (n := 48) rfl
                have q1 := u8_litn (a := sg[j]) (c := 49) (n := 49) rfl
                cases f0 : (sg[j] == 48) <;> rw [f0] at q0 <;> have F0 := Lib.hid f0 <;> clear f0
                · cases f1 : (sg[j] == 49) <;> rw [f1] at q1 <;> have F1 := Lib.hid f1 <;> clear f1
                  · go_wp2_with fail
                    go_ret
                    exact ⟨by rw [HBAD.out (bits_bad hg.out (by simp only [bitB, F0.out, F1.out]; rfl))]; rfl, hB1⟩
                  · go_wp2_with fail
                    go_round
                    case rel => exact ⟨j + 1, by omega, by go_num, all_bytes hg.out hh.out (by simp only [bitB, F1.out, Bool.or_true])⟩
                    case measure => simp [intOf]; omega
                · go_wp2_with fail
                  go_round
                  case rel => exact ⟨j + 1, by omega, by go_num, all_bytes hg.out hh.out (by simp only [bitB, F0.out, Bool.true_or])⟩
                  case measure => simp [intOf]; omega
              · obtain rfl : j = sg.size := by omega
                go_wp2_with fail
                go_roundw
                case rel => exact ⟨p + 1, by omega, by go_num, hB1, by show TextSet _ _ _ _ _ (nmsR (·.1) l (p + 1)); rw [nmsR_succ HX.out]; exact hS1, allN_succ hok.out (okAt_ok HX.out (by simp only [okDef, bits_end hh.out, G1.out, G2.out, decide_eq_true G3.out]; rfl) (fun h => absurd (nmsR_mem.2 h) (of_decide_eq_false HU.out)))⟩
                case measure => simp [intOf]; omega
        · obtain rfl : p = n := by omega
          have HE := Lib.hid (show vdefB l z = true by rw [vdef_end HL.out HZ.out hp.out hok.out, decide_eq_true (by omega), decide_eq_true (by omega)]; rfl)
          go_wp2_with fail
          go_ret
          exact ⟨by rw [HE.out]; rfl, hB⟩
end Go.Proofs.Ytgmlecfmocebkaa
