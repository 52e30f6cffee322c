/- Contracts: the try with the fewest errors (the reference). -/
import Derived.Test.YthgoofjojanakaaEr21
import Derived.Test.YthgoofjojanakaaAq
import Derived.Deep.RegionHeld3
namespace Go.Proofs.Ythgoofjojanakaa
open Go.RowKit Go.BigFrame
attribute [local go_sem] sub_cell sub_frozen drewN_setCell

/-- A stronger condition may be kept from here on. -/
theorem wpAnyH_weak {P : Program} {md : Region.Mode} {ops : Array Oper} {Q : Exit → Act → World → Prop} {S S' : World → Prop} (h : ∀ w, S' w → S w) : ∀ {fuel : Nat} {listed : Array Bool} {a : Act} {w : World}, wpAnyH P md ops Q S' fuel listed a w → wpAnyH P md ops Q S fuel listed a w
  | 0, _, _, _, H => H
  | _ + 1, _, _, _, H => ⟨H.1, fun i hi => wpOp_mono (fun _ _ H' => ⟨h _ H'.1, wpAnyH_weak h H'.2⟩) (H.2 i hi)⟩
set_option maxRecDepth 20000 in
set_option maxHeartbeats 60000000 in
theorem c_sBestTry (a : ByteArray) (A : Option Addr) (n c : Nat) (l : List ByteArray) (w : World) (hs : Ts w A n l) (ha : a.size ≤ maxLen) (hl : ∀ x ∈ l, x.size ≤ maxLen) (hn : n ≤ 1048576) :
    Calls Try.prog 26 #[.string a, .slice A n c] w fun e w' => e = .returned (.tuple #[.int .i64 (btA (bl a) l), .int .i64 (btC (bl a) l)]) ∧ Below w.heap.size w w' := by
  have hln := hs.1
  by_cases hgood : typB (bl a) = true ∧ n ≤ 12
  rotate_left
  · have hC : btC (bl a) l = 2 := by
      rw [btC, btyp, if_neg]
      intro h9
      simp only [Bool.and_eq_true, decide_eq_true_eq] at h9
      exact hgood ⟨h9.1.1, by omega⟩
    rw [bt_bad hC (by decide), hC]
    have hor : typB (bl a) = false ∨ (typB (bl a) = true ∧ ¬ (n : Int) ≤ 12) := by
      cases h9 : typB (bl a)
      · exact .inl rfl
      · exact .inr ⟨rfl, fun h8 => hgood ⟨h9, by omega⟩⟩
    clear hC hs hl hgood
    rcases hor with t1 | ⟨t1, h12⟩
    all_goals
      have T1 := Lib.hid t1
      clear t1
      go_enter Try.func26, Try.ntmps26
      go_wp2_with (go_at_call 50; refine (c_l19Text a _ T1.out _ ha).mono ?_; rintro r_ w' ⟨rfl, rfl⟩)
      go_loop [6, 7] (fun f i => ∃ k : Nat, k ≤ n ∧ f = .bool false ∧ i = .int .i64 k) (fun _ i => n - (intOf i).toNat)
      case atStart => exact ⟨0, Nat.zero_le _, by first | rfl | exact congrArg Value.bool (decide_eq_false (by omega)), rfl⟩
      case round =>
        obtain ⟨k, hk, rfl, rfl⟩ := hrel
        by_cases hlt : k < n
        · go_wp2_with fail
          go_round
          case rel => exact ⟨k + 1, by omega, rfl, by go_num⟩
          case measure => simp [intOf]; omega
        · obtain rfl : k = n := by omega
          go_wp2_with fail
          go_returns
          exact ⟨rfl, Below.refl _ _⟩
  obtain ⟨t1, h12⟩ := hgood
  have n1 := typB_len t1
  have T1 := Lib.hid t1
  have h12' : (n : Int) ≤ 12 := by omega
  have HL := Lib.hid hl
  have HLN := Lib.hid hln
  have HB : Hid (btyp (bl a) l = l.all fun x => typB (bl x)) := by show _ = _; simp [btyp, t1, hln, h12]
  clear hl t1 hln
  go_enter Try.func26, Try.ntmps26
  go_wp2_with (go_at_call 50; refine (c_l19Text a _ T1.out _ ha).mono ?_; rintro r_ w' ⟨rfl, rfl⟩)
  go_loop [6, 7] (fun f i => ∃ k : Nat, ∃ b : Bool, k ≤ n ∧ f = .bool b ∧ i = .int .i64 k ∧ Hid ((l.take k).all (fun x => typB (bl x)) = b)) (fun _ i => n - (intOf i).toNat)
  case atStart => exact ⟨0, true, Nat.zero_le _, rfl, rfl, by show List.all _ _ = _; simp⟩
  case round =>
    obtain ⟨k, b, hk, rfl, rfl, hall⟩ := hrel
    by_cases hlt : k < n
    · obtain ⟨bb, o, u, rfl, hb1, hb2, hx, c0⟩ := tx_at hs (Below.refl _ _) hlt
      have hu := HL.out _ (List.mem_of_getElem? hx)
      have hst := Lib.hid (all_step (p := fun x => typB (bl x)) hx)
      cases b
      · clear hx hs
        go_wp2_with fail
        go_round
        case rel => exact ⟨k + 1, false, by omega, rfl, by go_num, by have h9 := hst.out; rw [hall.out] at h9; exact h9⟩
        case measure => simp [intOf]; omega
      · cases g : typB (bl u)
        all_goals
          have G := Lib.hid g
          clear g hx hs
          go_wp2_with (go_at_call 50; refine (c_l19Text u _ G.out _ hu).mono ?_; rintro r_ w' ⟨rfl, rfl⟩)
          go_round
          case rel => exact ⟨k + 1, _, by omega, rfl, by go_num, by have h9 := hst.out; rw [hall.out, G.out] at h9; exact h9⟩
          case measure => simp [intOf]; omega
    · obtain rfl : k = n := by omega
      have hA := hall.out
      rw [List.take_of_length_le (by rw [HLN.out]; omega)] at hA
      cases b
      · have HC : Hid (btC (bl a) l = 2) := by show _ = _; simp only [btC, HB.out, hA]; rfl
        clear hall hA HB
        go_wp2_with fail
        go_returns
        exact ⟨by rw [bt_bad HC.out (by decide), HC.out]; rfl, Below.refl _ _⟩
      by_cases h0 : k = 0
      · subst h0
        have HC : Hid (btC (bl a) l = 3) := by show _ = _; simp only [btC, HB.out, hA, HLN.out]; rfl
        clear hall hA HB
        go_wp2_with fail
        go_returns
        exact ⟨by rw [bt_bad HC.out (by decide), HC.out]; rfl, Below.refl _ _⟩
      have hC : btC (bl a) l = 0 := by simp only [btC, HB.out, hA, HLN.out, if_neg h0]; rfl
      have HC := Lib.hid hC
      have HA : Hid (btA (bl a) l = (bstN (flN (bl a) l) (k - 1) : Nat)) := by show _ = _; rw [bt_ok hC, HLN.out]
      have HT : Hid (∀ x ∈ l, typB (bl x) = true) := fun x hx => List.all_eq_true.1 hA x hx
      have hk0 : ((k : Int) == 0) = false := by rw [beq_eq_false_iff_ne]; omega
      have hk1 : 0 < k := by omega
      clear hall hA HB hC h0
      go_wp2_with fail
      go_loopw [8, 9] (fun x y wr => ∃ q : Nat, q + 1 ≤ k ∧ y = .int .i64 ((q : Int) + 1) ∧ x = .int .i64 ((bstN (flN (bl a) l) q : Nat) : Int) ∧ Below w.heap.size w wr) (fun _ y _ => k + 1 - (intOf y).toNat)
      case atStart => exact ⟨0, by omega, rfl, rfl, Below.refl _ _⟩
      case round =>
        obtain ⟨q, hq, rfl, rfl, hB⟩ := hrel
        obtain ⟨j, hj⟩ : ∃ j, bstN (flN (bl a) l) q = j := ⟨_, rfl⟩
        have hjq : j ≤ q := hj ▸ bstN_le _ _
        have HJ := Lib.hid hj
        rw [hj]
        clear hj
        by_cases hlt : q + 1 < k
        · obtain ⟨b, o, u, rfl, hb1, hb2, hx, c0⟩ := tx_at hs hB hlt
          obtain ⟨v, _, _, hx', c1⟩ := tx_atB hs hB (show j < k by omega)
          have n2 := typB_len (HT.out _ (List.mem_of_getElem? hx))
          have n3 := typB_len (HT.out _ (List.mem_of_getElem? hx'))
          have C1 := Lib.hid (costs_s a u n1 n2)
          have C2 := Lib.hid (costs_s a v n1 n3)
          obtain ⟨y, hy⟩ : ∃ y, cst (bl a) (bl u) = y := ⟨_, rfl⟩
          obtain ⟨z, hz⟩ : ∃ z, cst (bl a) (bl v) = z := ⟨_, rfl⟩
          have HY := Lib.hid hy
          have HZ := Lib.hid hz
          have HF := Lib.hid ((flN_at (a := bl a) hx).trans hy)
          have HG := Lib.hid ((flN_at (a := bl a) hx').trans hz)
          have hltI : (q : Int) + 1 < k := by omega
          have hq0 : 0 ≤ (q : Int) + 1 := by omega
          have hjI : (j : Int) < k := by omega
          have hj0 : 0 ≤ (j : Int) := by omega
          have hzr := hB.size
          clear hx hx' hy hz hs
          go_wp2_with fail
          refine wp_region_noPanic ?_
          refine wp_region_held_drew (S := fun w' => w'.cell? ⟨b, o + (q + 1), none⟩ = some (.string u) ∧ w'.cell? ⟨b, o + j, none⟩ = some (.string v)) (by kernel_rfl) ⟨c0, c1⟩ (fun hHeld => ?_)
          refine wpAnyH_take (i := 0) (oi := _) (v := ?_) rfl (by kernel_rfl) (by kernel_rfl) (by kernel_rfl) (fun _ _ _ h => h) (Or.inl ⟨by rfl, ?_⟩) (by assumption) ?_
          rotate_left
          · intro w_ hS_; (try dsimp only at hS_); go_simp <;> with_reducible rfl
          try simp only [Act.put, List.setIfInBounds_toArray, List.set_cons_zero, List.set_cons_succ]
          refine wpAnyH_take (i := 1) (oi := _) (v := ?_) rfl (by kernel_rfl) (by kernel_rfl) (by kernel_rfl) (fun _ _ _ h => h) (Or.inl ⟨by rfl, ?_⟩) (by assumption) ?_
          rotate_left
          · intro w_ hS_; (try dsimp only at hS_); go_simp <;> with_reducible rfl
          try simp only [Act.put, List.setIfInBounds_toArray, List.set_cons_zero, List.set_cons_succ]
          refine wpAnyH_take (i := 2) (oi := _) (v := ?_) rfl (by kernel_rfl) (by kernel_rfl) (by kernel_rfl) (fun _ _ _ h => h) (Or.inl ⟨by rfl, ?_⟩) (by assumption) ?_
          rotate_left
          · intro w_ hS_; (try dsimp only at hS_); go_simp <;> with_reducible rfl
          try simp only [Act.put, List.setIfInBounds_toArray, List.set_cons_zero, List.set_cons_succ]
          refine wpAnyH_take (i := 3) (oi := _) (v := ?_) rfl (by kernel_rfl) (by kernel_rfl) (by kernel_rfl) (fun _ _ _ h => h) (Or.inl ⟨by rfl, ?_⟩) (by assumption) ?_
          rotate_left
          · intro w_ hS_; (try dsimp only at hS_); go_simp <;> with_reducible rfl
          try simp only [Act.put, List.setIfInBounds_toArray, List.set_cons_zero, List.set_cons_succ]
          refine wpAnyH_take (i := 4) (oi := _) (v := ?_) rfl (by kernel_rfl) (by kernel_rfl) (by kernel_rfl) (fun _ _ _ h => h) (Or.inl ⟨by rfl, ?_⟩) (by assumption) ?_
          rotate_left
          · intro w_ hS_; (try dsimp only at hS_); go_simp <;> with_reducible rfl
          try simp only [Act.put, List.setIfInBounds_toArray, List.set_cons_zero, List.set_cons_succ]
          refine wpAnyH_take (i := 10) (oi := _) (v := ?_) rfl (by kernel_rfl) (by kernel_rfl) (by kernel_rfl) (fun _ _ _ h => h) (Or.inl ⟨by rfl, ?_⟩) (by assumption) ?_
          rotate_left
          · intro w_ hS_; (try dsimp only at hS_); go_simp <;> with_reducible rfl
          try simp only [Act.put, List.setIfInBounds_toArray, List.set_cons_zero, List.set_cons_succ]
          refine wpAnyH_take (i := 11) (oi := _) (v := ?_) rfl (by kernel_rfl) (by kernel_rfl) (by kernel_rfl) (fun _ _ _ h => h) (Or.inl ⟨by rfl, ?_⟩) (by assumption) ?_
          rotate_left
          · intro w_ hS_; (try dsimp only at hS_); go_simp <;> with_reducible rfl
          try simp only [Act.put, List.setIfInBounds_toArray, List.set_cons_zero, List.set_cons_succ]
          refine wpAnyH_take (i := 12) (oi := _) (v := ?_) rfl (by kernel_rfl) (by kernel_rfl) (by kernel_rfl) (fun _ _ _ h => h) (Or.inl ⟨by rfl, ?_⟩) (by assumption) ?_
          rotate_left
          · intro w_ hS_; (try dsimp only at hS_); go_simp <;> with_reducible rfl
          try simp only [Act.put, List.setIfInBounds_toArray, List.set_cons_zero, List.set_cons_succ]
          refine wpAnyH_take (i := 13) (oi := _) (v := ?_) rfl (by kernel_rfl) (by kernel_rfl) (by kernel_rfl) (fun _ _ _ h => h) (Or.inl ⟨by rfl, ?_⟩) (by assumption) ?_
          rotate_left
          · intro w_ hS_; (try dsimp only at hS_); go_simp <;> with_reducible rfl
          try simp only [Act.put, List.setIfInBounds_toArray, List.set_cons_zero, List.set_cons_succ]
          refine wpAnyH_take (i := 14) (oi := _) (v := ?_) rfl (by kernel_rfl) (by kernel_rfl) (by kernel_rfl) (fun _ _ _ h => h) (Or.inl ⟨by rfl, ?_⟩) (by assumption) ?_
          rotate_left
          · intro w_ hS_; (try dsimp only at hS_); go_simp <;> with_reducible rfl
          try simp only [Act.put, List.setIfInBounds_toArray, List.set_cons_zero, List.set_cons_succ]
          refine wpAnyH_ready (rs := [5]) (by kernel_rfl) (by simp) ?_
          refine AllReadyH.cons (o := _) rfl (fun K hK => ?_) AllReadyH.nil
          go_simp
          refine (C1.out _).mono ?_
          rintro r_ x1 ⟨rfl, hR, hb⟩
          obtain ⟨r1, rl1, y1, v1'⟩ := hR.2 0 (Nat.zero_le _)
          have v1 := v1' 0 (Nat.zero_le _)
          rw [cC_first, HY.out] at v1
          clear v1'
          have g1 := hR.1
          have pB1 : Below w.heap.size w x1 := later hb (by (repeat' (first | (with_reducible exact Below.refl _ _) | (with_reducible assumption) | (with_reducible refine below_drewN ?_ _) | (with_reducible refine Below.drew ?_) | (with_reducible refine Below.alloc ?_ ?_ _) | (with_reducible refine Below.setCell ?_ ?_ _) | go_size)))
          have pW1 : Below wr.heap.size wr x1 := later hb (by (repeat' (first | (with_reducible exact Below.refl _ _) | (with_reducible assumption) | (with_reducible refine below_drewN ?_ _) | (with_reducible refine Below.drew ?_) | (with_reducible refine Below.alloc ?_ ?_ _) | (with_reducible refine Below.setCell ?_ ?_ _) | go_size)))
          have pz1 := pW1.size
          refine hK.out _ _ ?_ (fun hHeld1 => ?_)
          · exact ⟨(pW1.cell (p := ⟨b, o + (q + 1), none⟩) hb1).trans c0, (pW1.cell (p := ⟨b, o + j, none⟩) hb1).trans c1⟩
          clear hK K
          try simp only [Act.put, List.setIfInBounds_toArray, List.set_cons_zero, List.set_cons_succ]
          refine wpAnyH_weak (S' := fun w' => w'.cell? ⟨b, o + (q + 1), none⟩ = some (.string u) ∧ w'.cell? ⟨b, o + j, none⟩ = some (.string v) ∧ w'.cell? ⟨wr.heap.size, 0, none⟩ = some (.slice (some ⟨r1, 0, none⟩) (u.size + 1) (u.size + 1)) ∧ w'.cell? ⟨wr.drew.heap.size, 0, none⟩ = some (.slice (some ⟨r1, 0, none⟩) (u.size + 1) (u.size + 1)) ∧ w'.cell? ⟨r1, 0, none⟩ = some (.int .i64 y)) (fun _ h => ⟨h.1, h.2.1⟩) ?_
          have y1' : x1.cell? ⟨wr.heap.size, 0, none⟩ = _ := y1
          have hHeld1' := And.intro hHeld1.1 (And.intro hHeld1.2 (And.intro y1' (And.intro y1 v1)))
          refine wpAnyH_take (i := 6) (oi := _) (v := ?_) rfl (by kernel_rfl) (by kernel_rfl) (by kernel_rfl) (fun _ _ _ h => h) (Or.inl ⟨by rfl, ?_⟩) (by assumption) ?_
          rotate_left
          · intro w_ hS_; (try dsimp only at hS_); go_simp <;> with_reducible rfl
          try simp only [Act.put, List.setIfInBounds_toArray, List.set_cons_zero, List.set_cons_succ]
          refine wpAnyH_take (i := 7) (oi := _) (v := ?_) rfl (by kernel_rfl) (by kernel_rfl) (by kernel_rfl) (fun _ _ _ h => h) (Or.inl ⟨by rfl, ?_⟩) (by assumption) ?_
          rotate_left
          · intro w_ hS_; (try dsimp only at hS_); go_simp <;> with_reducible rfl
          try simp only [Act.put, List.setIfInBounds_toArray, List.set_cons_zero, List.set_cons_succ]
          refine wpAnyH_take (i := 8) (oi := _) (v := ?_) rfl (by kernel_rfl) (by kernel_rfl) (by kernel_rfl) (fun _ _ _ h => h) (Or.inl ⟨by rfl, ?_⟩) (by assumption) ?_
          rotate_left
          · intro w_ hS_; (try dsimp only at hS_); go_simp <;> with_reducible rfl
          try simp only [Act.put, List.setIfInBounds_toArray, List.set_cons_zero, List.set_cons_succ]
          refine wpAnyH_take (i := 9) (oi := _) (v := ?_) rfl (by kernel_rfl) (by kernel_rfl) (by kernel_rfl) (fun _ _ _ h => h) (Or.inl ⟨by rfl, ?_⟩) (by assumption) ?_
          rotate_left
          · intro w_ hS_; (try dsimp only at hS_); go_simp <;> with_reducible rfl
          try simp only [Act.put, List.setIfInBounds_toArray, List.set_cons_zero, List.set_cons_succ]
          refine wpAnyH_ready (rs := [15]) (by kernel_rfl) (by simp) ?_
          refine AllReadyH.cons (o := _) rfl (fun K hK => ?_) AllReadyH.nil
          go_simp
          refine (C2.out _).mono ?_
          rintro r_ x2 ⟨rfl, hR, hb⟩
          obtain ⟨r2, rl2, y2, v2'⟩ := hR.2 0 (Nat.zero_le _)
          have v2 := v2' 0 (Nat.zero_le _)
          rw [cC_first, HZ.out] at v2
          clear v2'
          have g2 := hR.1
          have pB2 : Below w.heap.size w x2 := later hb (by (repeat' (first | (with_reducible exact Below.refl _ _) | (with_reducible assumption) | (with_reducible refine below_drewN ?_ _) | (with_reducible refine Below.drew ?_) | (with_reducible refine Below.alloc ?_ ?_ _) | (with_reducible refine Below.setCell ?_ ?_ _) | go_size)))
          have pW2 : Below wr.heap.size wr x2 := later hb (by (repeat' (first | (with_reducible exact Below.refl _ _) | (with_reducible assumption) | (with_reducible refine below_drewN ?_ _) | (with_reducible refine Below.drew ?_) | (with_reducible refine Below.alloc ?_ ?_ _) | (with_reducible refine Below.setCell ?_ ?_ _) | go_size)))
          have pz2 := pW2.size
          refine hK.out _ _ ?_ (fun hHeld2 => ?_)
          · exact ⟨(pW2.cell (p := ⟨b, o + (q + 1), none⟩) hb1).trans c0, (pW2.cell (p := ⟨b, o + j, none⟩) hb1).trans c1, (hb.cell (p := ⟨wr.heap.size, 0, none⟩) g1).trans y1', (hb.cell (p := ⟨wr.heap.size, 0, none⟩) g1).trans y1', (hb.cell (p := ⟨r1, 0, none⟩) rl1).trans v1⟩
          clear hK K
          try simp only [Act.put, List.setIfInBounds_toArray, List.set_cons_zero, List.set_cons_succ]
          refine wpAnyH_weak (S' := fun w' => w'.cell? ⟨b, o + (q + 1), none⟩ = some (.string u) ∧ w'.cell? ⟨b, o + j, none⟩ = some (.string v) ∧ w'.cell? ⟨wr.heap.size, 0, none⟩ = some (.slice (some ⟨r1, 0, none⟩) (u.size + 1) (u.size + 1)) ∧ w'.cell? ⟨wr.drew.heap.size, 0, none⟩ = some (.slice (some ⟨r1, 0, none⟩) (u.size + 1) (u.size + 1)) ∧ w'.cell? ⟨r1, 0, none⟩ = some (.int .i64 y) ∧ w'.cell? ⟨x1.heap.size, 0, none⟩ = some (.slice (some ⟨r2, 0, none⟩) (v.size + 1) (v.size + 1)) ∧ w'.cell? ⟨r2, 0, none⟩ = some (.int .i64 z)) (fun _ h => ⟨h.1, h.2.1, h.2.2.1, h.2.2.2.1, h.2.2.2.2.1⟩) ?_
          have hHeld2' := And.intro hHeld2.1 (And.intro hHeld2.2.1 (And.intro hHeld2.2.2.1 (And.intro hHeld2.2.2.2.1 (And.intro hHeld2.2.2.2.2 (And.intro y2 v2)))))
          refine wpAnyH_take (i := 16) (oi := _) (v := ?_) rfl (by kernel_rfl) (by kernel_rfl) (by kernel_rfl) (fun _ _ _ h => h) (Or.inl ⟨by rfl, ?_⟩) (by assumption) ?_
          rotate_left
          · intro w_ hS_; (try dsimp only at hS_); go_simp <;> with_reducible rfl
          try simp only [Act.put, List.setIfInBounds_toArray, List.set_cons_zero, List.set_cons_succ]
          refine wpAnyH_take (i := 17) (oi := _) (v := ?_) rfl (by kernel_rfl) (by kernel_rfl) (by kernel_rfl) (fun _ _ _ h => h) (Or.inl ⟨by rfl, ?_⟩) (by assumption) ?_
          rotate_left
          · intro w_ hS_; (try dsimp only at hS_); go_simp <;> with_reducible rfl
          try simp only [Act.put, List.setIfInBounds_toArray, List.set_cons_zero, List.set_cons_succ]
          refine wpAnyH_take (i := 18) (oi := _) (v := ?_) rfl (by kernel_rfl) (by kernel_rfl) (by kernel_rfl) (fun _ _ _ h => h) (Or.inl ⟨by rfl, ?_⟩) (by assumption) ?_
          rotate_left
          · intro w_ hS_; (try dsimp only at hS_); go_simp <;> with_reducible rfl
          try simp only [Act.put, List.setIfInBounds_toArray, List.set_cons_zero, List.set_cons_succ]
          refine wpAnyH_take (i := 19) (oi := _) (v := ?_) rfl (by kernel_rfl) (by kernel_rfl) (by kernel_rfl) (fun _ _ _ h => h) (Or.inl ⟨by rfl, ?_⟩) (by assumption) ?_
          rotate_left
          · intro w_ hS_; (try dsimp only at hS_); go_simp <;> with_reducible rfl
          try simp only [Act.put, List.setIfInBounds_toArray, List.set_cons_zero, List.set_cons_succ]
          refine wpAnyH_take (i := 20) (oi := _) (v := ?_) rfl (by kernel_rfl) (by kernel_rfl) (by kernel_rfl) (fun _ _ _ h => h) (Or.inl ⟨by rfl, ?_⟩) (by assumption) ?_
          rotate_left
          · intro w_ hS_; (try dsimp only at hS_); go_simp <;> with_reducible rfl
          try simp only [Act.put, List.setIfInBounds_toArray, List.set_cons_zero, List.set_cons_succ]
          refine wpAnyH_done (by kernel_rfl) ?_ _
          refine NoPanic.normal ?_
          simp only [List.getElem_toArray, List.getElem_cons_succ, List.getElem_cons_zero, Act.put, List.setIfInBounds_toArray, List.set_cons_zero, List.set_cons_succ]
          by_cases hyz : y < z
          · have HN := Lib.hid (bstN_hit (f := flN (bl a) l) (k := q) (by rw [HJ.out, HF.out, HG.out]; exact hyz))
            go_wp2_with fail
            go_roundw
            case rel => exact ⟨q + 1, by omega, by go_num, by rw [HN.out]; go_num, pB2⟩
            case measure => simp [intOf]; omega
          · have HN := Lib.hid (bstN_miss (f := flN (bl a) l) (k := q) (by rw [HJ.out, HF.out, HG.out]; exact hyz))
            go_wp2_with fail
            go_roundw
            case rel => exact ⟨q + 1, by omega, by go_num, by rw [HN.out, HJ.out], pB2⟩
            case measure => simp [intOf]; omega
        · obtain rfl : k = q + 1 := by omega
          have HA2 : Hid (btA (bl a) l = (j : Int)) := by show _ = _; rw [HA.out, Nat.add_sub_cancel, HJ.out]
          clear HA
          go_wp2_with fail
          go_returns
          exact ⟨by rw [HA2.out, HC.out]; rfl, hB⟩
end Go.Proofs.Ythgoofjojanakaa
