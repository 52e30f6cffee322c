/- Contracts: a test read from a text: the reference. -/
import Derived.Test.YtldhhbnochlmlaaDoorTrc
import Derived.Test.YtldhhbnochlmlaaDoorSpc
namespace Go.Proofs.YtldhhbnochlmlaaDoor
open Go.RowKit Go.BigFrame
attribute [local go_sem] sub_cell sub_frozen drewN_setCell

theorem splT_le {c : UInt8} : ∀ {l p : List UInt8}, p ∈ splL c l → p.length ≤ l.length := by
  intro l
  induction l with
  | nil => intro p hp; simp [splL] at hp; subst hp; simp
  | cons x l ih =>
    intro p hp
    simp only [splL] at hp
    split at hp
    · rcases List.mem_cons.1 hp with rfl | hp
      · simp
      · have := ih hp; simp; omega
    · cases hs : splL c l with
      | nil => exact absurd hs (splL_ne c l)
      | cons a r =>
        rw [hs] at hp
        rcases List.mem_cons.1 hp with rfl | hp
        · have := ih (p := a) (by rw [hs]; exact List.mem_cons_self ..)
          simp; exact this
        · have := ih (p := p) (by rw [hs]; exact List.mem_cons_of_mem _ hp)
          simp; omega
/-- The test and whether there is one. -/
def rtT (o : Option (Int × Int × Int)) : Value := match o with
  | some (a, b, c) => .tuple #[.agg #[.int .i64 a, .int .i64 b, .int .i64 c], .bool true]
  | none => .tuple #[.agg #[.int .i64 0, .int .i64 0, .int .i64 0], .bool false]
/-- A block of three zeros. -/
structure Z3 (w : World) (g : Nat) : Prop where
  c0 : w.cell? ⟨g, 0, none⟩ = some (.int .i64 0)
  c1 : w.cell? ⟨g, 1, none⟩ = some (.int .i64 0)
  c2 : w.cell? ⟨g, 2, none⟩ = some (.int .i64 0)
  f0 : w.frozen? ⟨g, 0, none⟩ = false
  f1 : w.frozen? ⟨g, 1, none⟩ = false
  f2 : w.frozen? ⟨g, 2, none⟩ = false
theorem Z3.later {w w' : World} {g : Nat} (h : Z3 w g) (hg : g < w.heap.size) (hb : Below w.heap.size w w') : Z3 w' g :=
  ⟨(hb.cell (p := ⟨g, 0, none⟩) hg).trans h.c0, (hb.cell (p := ⟨g, 1, none⟩) hg).trans h.c1, (hb.cell (p := ⟨g, 2, none⟩) hg).trans h.c2, (hb.frozen (p := ⟨g, 0, none⟩) hg).trans h.f0, (hb.frozen (p := ⟨g, 1, none⟩) hg).trans h.f1, (hb.frozen (p := ⟨g, 2, none⟩) hg).trans h.f2⟩
theorem numT_form (l : List UInt8) : ∃ (n : Int) (k : Bool), numT (numV l) = .tuple #[.int .i64 n, .bool k] ∧ numV l = if k then some n else none := by
  cases h : numV l with
  | none => exact ⟨0, false, rfl, rfl⟩
  | some n => exact ⟨n, true, rfl, rfl⟩
set_option maxRecDepth 20000 in
set_option maxHeartbeats 16000000 in
theorem c_sReadTrial (s : ByteArray) (w : World) (hs : s.size ≤ 1048576) :
    Calls Tryd.prog 8 #[.string s] w fun e w' => e = .returned (rtT (trV (bl s))) ∧ Below w.heap.size w w' := by
  have CS := Lib.hid (fun W => c_l01Split s 32 W hs)
  obtain ⟨L, hL⟩ : ∃ L, splL 32 (bl s) = L := ⟨_, rfl⟩
  have hLl := splL_len 32 (bl s)
  rw [hL, bl_len] at hLl
  rw [hL] at CS
  by_cases h3 : L.length = 3
  rotate_left
  · have HN : Hid (trV (bl s) = none) := by
      show _ = _
      unfold trV
      rw [hL]
      match L, h3 with
      | [], _ => rfl
      | [_], _ => rfl
      | [_, _], _ => rfl
      | [_, _, _], h => exact absurd rfl h
      | _ :: _ :: _ :: _ :: _, _ => rfl
    have h3I : ((L.length : Int) != 3) = true := by simp; omega
    clear hL
    go_enter Tryd.func8, Tryd.ntmps8
    go_wp2_with (go_at_call 15; refine (CS.out _).mono ?_; rintro r_ w1 ⟨v, rfl, hrow, hb1⟩; obtain ⟨A, cap, rfl, hcell⟩ := hrow.form; have hB1 := later hb1 (w := w) (by (repeat' (first | (with_reducible exact Below.refl _ _) | (with_reducible assumption) | (with_reducible refine below_drewN ?_ _) | (with_reducible refine Below.drew ?_) | (with_reducible refine Below.alloc ?_ ?_ _) | (with_reducible refine Below.setCell ?_ ?_ _) | go_size))); have hy1 := hb1.size; simp only [World.size_alloc] at hy1; have hw1 : w.heap.size < w1.heap.size := (by omega); have Z1 : Z3 w1 w.heap.size := ⟨(hb1.cell (p := ⟨w.heap.size, 0, none⟩) (by simp)).trans (by simp [go_sem]), (hb1.cell (p := ⟨w.heap.size, 1, none⟩) (by simp)).trans (by simp [go_sem]), (hb1.cell (p := ⟨w.heap.size, 2, none⟩) (by simp)).trans (by simp [go_sem]), (hb1.frozen (p := ⟨w.heap.size, 0, none⟩) (by simp)).trans (by simp [go_sem]), (hb1.frozen (p := ⟨w.heap.size, 1, none⟩) (by simp)).trans (by simp [go_sem]), (hb1.frozen (p := ⟨w.heap.size, 2, none⟩) (by simp)).trans (by simp [go_sem])⟩; clear hb1 hrow hcell)
    refine wp_region_below (by kernel_rfl) (by kernel_rfl) ?_
    repeat (go_big_quiet_step (fail))
    refine wpQuiet_nil ?_
    intro _ hw'
    obtain ⟨⟨w7, hb7⟩, hw''⟩ := hw'
    subst hw''
    have hB7 := hB1.trans (hb7.mono hB1.size)
    have Z7 := Z1.later hw1 hb7
    have hw7 := Nat.lt_of_lt_of_le hw1 hb7.size
    obtain ⟨r0, r1, r2, rf0, rf1, rf2⟩ := Z7
    go_wp2_with fail
    refine bodyPost_ret (by simp [results, Tryd.results8, go_sem, *]; try rfl) rfl ?_
    exact ⟨by rw [HN.out]; rfl, by (repeat' (first | (with_reducible exact Below.refl _ _) | (with_reducible assumption) | (with_reducible refine below_drewN ?_ _) | (with_reducible refine Below.drew ?_) | (with_reducible refine Below.alloc ?_ ?_ _) | (with_reducible refine Below.setCell ?_ ?_ _) | go_size))⟩
  · match L, h3 with
    | [p, q, r], _ =>
    have hlp : p.length ≤ s.size := by rw [← bl_len]; exact splT_le (by rw [hL]; simp)
    have hlr : r.length ≤ s.size := by rw [← bl_len]; exact splT_le (by rw [hL]; simp)
    have hV : trV (bl s) = if q = [105, 110] ∧ r.getLast? = some 115 then (match splL 47 p with
        | [x, y] => (numV x).bind fun a => (numV y).bind fun b => (numV r.dropLast).bind fun c => if vtr a b c then some (a, b, c) else none
        | _ => none) else none := by unfold trV; rw [hL]; rfl
    clear hL
    by_cases hq : q = [105, 110]
    rotate_left
    · rw [if_neg (fun h => hq h.1)] at hV
      have HN := Lib.hid hV
      have e1 : ((sb q).toList != [105, 110]) = true := by rw [sb_toList]; simp [hq]
      have e2 : ((sb q).toList == [105, 110]) = false := by rw [sb_toList]; simp [hq]
      clear hV hq
      go_enter Tryd.func8, Tryd.ntmps8
      go_wp2_with (go_at_call 15; refine (CS.out _).mono ?_; rintro r_ w1 ⟨v, rfl, hrow, hb1⟩; obtain ⟨A, cap, rfl, hcell⟩ := hrow.form; obtain ⟨g, rfl, hg, k0⟩ := hcell 0 (by simp); obtain ⟨g1, hA1, _, k1⟩ := hcell 1 (by simp); obtain rfl : g = g1 := (by simpa using hA1); obtain ⟨g2, hA2, _, k2⟩ := hcell 2 (by simp); obtain rfl : g = g2 := (by simpa using hA2); simp only [List.getElem_cons_zero, List.getElem_cons_succ] at k0 k1 k2; clear hA1 hA2; have hB1 := later hb1 (w := w) (by (repeat' (first | (with_reducible exact Below.refl _ _) | (with_reducible assumption) | (with_reducible refine below_drewN ?_ _) | (with_reducible refine Below.drew ?_) | (with_reducible refine Below.alloc ?_ ?_ _) | (with_reducible refine Below.setCell ?_ ?_ _) | go_size))); have hy1 := hb1.size; simp only [World.size_alloc] at hy1; have hw1 : w.heap.size < w1.heap.size := (by omega); have Z1 : Z3 w1 w.heap.size := ⟨(hb1.cell (p := ⟨w.heap.size, 0, none⟩) (by simp)).trans (by simp [go_sem]), (hb1.cell (p := ⟨w.heap.size, 1, none⟩) (by simp)).trans (by simp [go_sem]), (hb1.cell (p := ⟨w.heap.size, 2, none⟩) (by simp)).trans (by simp [go_sem]), (hb1.frozen (p := ⟨w.heap.size, 0, none⟩) (by simp)).trans (by simp [go_sem]), (hb1.frozen (p := ⟨w.heap.size, 1, none⟩) (by simp)).trans (by simp [go_sem]), (hb1.frozen (p := ⟨w.heap.size, 2, none⟩) (by simp)).trans (by simp [go_sem])⟩; clear hb1 hrow hcell)
      refine wp_region_below (by kernel_rfl) (by kernel_rfl) ?_
      repeat (go_big_quiet_step (fail))
      refine wpQuiet_nil ?_
      intro _ hw'
      obtain ⟨⟨w7, hb7⟩, hw''⟩ := hw'
      subst hw''
      have hB7 := hB1.trans (hb7.mono hB1.size)
      have Z7 := Z1.later hw1 hb7
      have hw7 := Nat.lt_of_lt_of_le hw1 hb7.size
      obtain ⟨r0, r1, r2, rf0, rf1, rf2⟩ := Z7
      go_wp2_with fail
      refine bodyPost_ret (by simp [results, Tryd.results8, go_sem, *]; try rfl) rfl ?_
      exact ⟨by rw [HN.out]; rfl, by (repeat' (first | (with_reducible exact Below.refl _ _) | (with_reducible assumption) | (with_reducible refine below_drewN ?_ _) | (with_reducible refine Below.drew ?_) | (with_reducible refine Below.alloc ?_ ?_ _) | (with_reducible refine Below.setCell ?_ ?_ _) | go_size))⟩
    have e1 : ((sb q).toList != [105, 110]) = false := by rw [sb_toList, hq]; rfl
    have e2 : ((sb q).toList == [105, 110]) = true := by rw [sb_toList, hq]; rfl
    rcases List.eq_nil_or_concat r with hr | ⟨z, c, hr⟩
    · have hr' : r = [] := hr
      subst hr'
      rw [if_neg (fun h => by simpa using h.2)] at hV
      have HN := Lib.hid hV
      have e3 : ((sb []).toList == []) = true := by rw [sb_toList]; rfl
      clear hV hq
      go_enter Tryd.func8, Tryd.ntmps8
      go_wp2_with (go_at_call 15; refine (CS.out _).mono ?_; rintro r_ w1 ⟨v, rfl, hrow, hb1⟩; obtain ⟨A, cap, rfl, hcell⟩ := hrow.form; obtain ⟨g, rfl, hg, k0⟩ := hcell 0 (by simp); obtain ⟨g1, hA1, _, k1⟩ := hcell 1 (by simp); obtain rfl : g = g1 := (by simpa using hA1); obtain ⟨g2, hA2, _, k2⟩ := hcell 2 (by simp); obtain rfl : g = g2 := (by simpa using hA2); simp only [List.getElem_cons_zero, List.getElem_cons_succ] at k0 k1 k2; clear hA1 hA2; have hB1 := later hb1 (w := w) (by (repeat' (first | (with_reducible exact Below.refl _ _) | (with_reducible assumption) | (with_reducible refine below_drewN ?_ _) | (with_reducible refine Below.drew ?_) | (with_reducible refine Below.alloc ?_ ?_ _) | (with_reducible refine Below.setCell ?_ ?_ _) | go_size))); have hy1 := hb1.size; simp only [World.size_alloc] at hy1; have hw1 : w.heap.size < w1.heap.size := (by omega); have Z1 : Z3 w1 w.heap.size := ⟨(hb1.cell (p := ⟨w.heap.size, 0, none⟩) (by simp)).trans (by simp [go_sem]), (hb1.cell (p := ⟨w.heap.size, 1, none⟩) (by simp)).trans (by simp [go_sem]), (hb1.cell (p := ⟨w.heap.size, 2, none⟩) (by simp)).trans (by simp [go_sem]), (hb1.frozen (p := ⟨w.heap.size, 0, none⟩) (by simp)).trans (by simp [go_sem]), (hb1.frozen (p := ⟨w.heap.size, 1, none⟩) (by simp)).trans (by simp [go_sem]), (hb1.frozen (p := ⟨w.heap.size, 2, none⟩) (by simp)).trans (by simp [go_sem])⟩; clear hb1 hrow hcell)
      refine wp_region_below (by kernel_rfl) (by kernel_rfl) ?_
      repeat (go_big_quiet_step (fail))
      refine wpQuiet_nil ?_
      intro _ hw'
      obtain ⟨⟨w7, hb7⟩, hw''⟩ := hw'
      subst hw''
      have hB7 := hB1.trans (hb7.mono hB1.size)
      have Z7 := Z1.later hw1 hb7
      have hw7 := Nat.lt_of_lt_of_le hw1 hb7.size
      obtain ⟨r0, r1, r2, rf0, rf1, rf2⟩ := Z7
      go_wp2_with fail
      refine bodyPost_ret (by simp [results, Tryd.results8, go_sem, *]; try rfl) rfl ?_
      exact ⟨by rw [HN.out]; rfl, by (repeat' (first | (with_reducible exact Below.refl _ _) | (with_reducible assumption) | (with_reducible refine below_drewN ?_ _) | (with_reducible refine Below.drew ?_) | (with_reducible refine Below.alloc ?_ ?_ _) | (with_reducible refine Below.setCell ?_ ?_ _) | go_size))⟩
    have hr2 : r = z ++ [c] := by rw [hr]; simp
    clear hr
    subst hr2
    have e3 : ((sb (z ++ [c])).toList == []) = false := by rw [sb_toList]; cases z <;> rfl
    have hzs : (sb (z ++ [c])).size = z.length + 1 := by rw [sb_size]; simp
    have hzc : (sb (z ++ [c]))[z.length]'(by rw [hzs]; omega) = c := by
      have h := bl_get (sb (z ++ [c])) z.length (by rw [hzs]; omega)
      rw [bl_sb] at h
      simpa using h.symm
    have hlz : z.length ≤ s.size := by simp at hlr; omega
    have hzx : (sb (z ++ [c])).extract 0 z.length = sb z := by rw [ext_sb, bl_sb]; simp
    have hzI : (z.length : Int) + 1 - 1 = (z.length : Int) := by omega
    by_cases hc : c = 115
    rotate_left
    · rw [if_neg (fun h => hc (by simpa using h.2))] at hV
      have HN := Lib.hid hV
      have e4 : ((c.toNat : Int) != 115) = true := (u8_litn (a := c) (c := 115) (n := 115) rfl).trans (by simp [hc])
      clear hV hq hc
      go_enter Tryd.func8, Tryd.ntmps8
      go_wp2_with (go_at_call 15; refine (CS.out _).mono ?_; rintro r_ w1 ⟨v, rfl, hrow, hb1⟩; obtain ⟨A, cap, rfl, hcell⟩ := hrow.form; obtain ⟨g, rfl, hg, k0⟩ := hcell 0 (by simp); obtain ⟨g1, hA1, _, k1⟩ := hcell 1 (by simp); obtain rfl : g = g1 := (by simpa using hA1); obtain ⟨g2, hA2, _, k2⟩ := hcell 2 (by simp); obtain rfl : g = g2 := (by simpa using hA2); simp only [List.getElem_cons_zero, List.getElem_cons_succ] at k0 k1 k2; clear hA1 hA2; have hB1 := later hb1 (w := w) (by (repeat' (first | (with_reducible exact Below.refl _ _) | (with_reducible assumption) | (with_reducible refine below_drewN ?_ _) | (with_reducible refine Below.drew ?_) | (with_reducible refine Below.alloc ?_ ?_ _) | (with_reducible refine Below.setCell ?_ ?_ _) | go_size))); have hy1 := hb1.size; simp only [World.size_alloc] at hy1; have hw1 : w.heap.size < w1.heap.size := (by omega); have Z1 : Z3 w1 w.heap.size := ⟨(hb1.cell (p := ⟨w.heap.size, 0, none⟩) (by simp)).trans (by simp [go_sem]), (hb1.cell (p := ⟨w.heap.size, 1, none⟩) (by simp)).trans (by simp [go_sem]), (hb1.cell (p := ⟨w.heap.size, 2, none⟩) (by simp)).trans (by simp [go_sem]), (hb1.frozen (p := ⟨w.heap.size, 0, none⟩) (by simp)).trans (by simp [go_sem]), (hb1.frozen (p := ⟨w.heap.size, 1, none⟩) (by simp)).trans (by simp [go_sem]), (hb1.frozen (p := ⟨w.heap.size, 2, none⟩) (by simp)).trans (by simp [go_sem])⟩; clear hb1 hrow hcell)
      refine wp_region_below (by kernel_rfl) (by kernel_rfl) ?_
      repeat (go_big_quiet_step (fail))
      refine wpQuiet_nil ?_
      intro _ hw'
      obtain ⟨⟨w7, hb7⟩, hw''⟩ := hw'
      subst hw''
      have hB7 := hB1.trans (hb7.mono hB1.size)
      have Z7 := Z1.later hw1 hb7
      have hw7 := Nat.lt_of_lt_of_le hw1 hb7.size
      obtain ⟨r0, r1, r2, rf0, rf1, rf2⟩ := Z7
      go_wp2_with fail
      refine bodyPost_ret (by simp [results, Tryd.results8, go_sem, *]; try rfl) rfl ?_
      exact ⟨by rw [HN.out]; rfl, by (repeat' (first | (with_reducible exact Below.refl _ _) | (with_reducible assumption) | (with_reducible refine below_drewN ?_ _) | (with_reducible refine Below.drew ?_) | (with_reducible refine Below.alloc ?_ ?_ _) | (with_reducible refine Below.setCell ?_ ?_ _) | go_size))⟩
    have e4 : ((c.toNat : Int) != 115) = false := by rw [hc]; rfl
    rw [if_pos ⟨hq, by rw [hc]; simp⟩, List.dropLast_concat] at hV
    clear hq hc
    have CT := Lib.hid (fun W => c_l01Split (sb p) 47 W (by rw [sb_size]; omega))
    obtain ⟨M, hM⟩ : ∃ M, splL 47 p = M := ⟨_, rfl⟩
    have hMl := splL_len 47 p
    rw [hM] at hMl hV
    rw [bl_sb, hM] at CT
    by_cases h2 : M.length = 2
    rotate_left
    · have HN : Hid (trV (bl s) = none) := by
        show _ = _
        rw [hV]
        match M, h2 with
        | [], _ => rfl
        | [_], _ => rfl
        | [_, _], h => exact absurd rfl h
        | _ :: _ :: _ :: _, _ => rfl
      have h2I : ((M.length : Int) != 2) = true := by simp; omega
      clear hV hM
      go_enter Tryd.func8, Tryd.ntmps8
      go_wp2_with (go_at_call 15; refine (CS.out _).mono ?_; rintro r_ w1 ⟨v, rfl, hrow, hb1⟩; obtain ⟨A, cap, rfl, hcell⟩ := hrow.form; obtain ⟨g, rfl, hg, k0⟩ := hcell 0 (by simp); obtain ⟨g1, hA1, _, k1⟩ := hcell 1 (by simp); obtain rfl : g = g1 := (by simpa using hA1); obtain ⟨g2, hA2, _, k2⟩ := hcell 2 (by simp); obtain rfl : g = g2 := (by simpa using hA2); simp only [List.getElem_cons_zero, List.getElem_cons_succ] at k0 k1 k2; clear hA1 hA2; have hB1 := later hb1 (w := w) (by (repeat' (first | (with_reducible exact Below.refl _ _) | (with_reducible assumption) | (with_reducible refine below_drewN ?_ _) | (with_reducible refine Below.drew ?_) | (with_reducible refine Below.alloc ?_ ?_ _) | (with_reducible refine Below.setCell ?_ ?_ _) | go_size))); have hy1 := hb1.size; simp only [World.size_alloc] at hy1; have hw1 : w.heap.size < w1.heap.size := (by omega); have Z1 : Z3 w1 w.heap.size := ⟨(hb1.cell (p := ⟨w.heap.size, 0, none⟩) (by simp)).trans (by simp [go_sem]), (hb1.cell (p := ⟨w.heap.size, 1, none⟩) (by simp)).trans (by simp [go_sem]), (hb1.cell (p := ⟨w.heap.size, 2, none⟩) (by simp)).trans (by simp [go_sem]), (hb1.frozen (p := ⟨w.heap.size, 0, none⟩) (by simp)).trans (by simp [go_sem]), (hb1.frozen (p := ⟨w.heap.size, 1, none⟩) (by simp)).trans (by simp [go_sem]), (hb1.frozen (p := ⟨w.heap.size, 2, none⟩) (by simp)).trans (by simp [go_sem])⟩; clear hb1 hrow hcell)
      refine wp_region_below (by kernel_rfl) (by kernel_rfl) ?_
      repeat (go_big_quiet_step (fail))
      refine wpQuiet_nil ?_
      intro _ hw'
      obtain ⟨⟨w7, hb7⟩, hw''⟩ := hw'
      subst hw''
      have hB7 := hB1.trans (hb7.mono hB1.size)
      have Z7 := Z1.later hw1 hb7
      have hw7 := Nat.lt_of_lt_of_le hw1 hb7.size
      have hg7 := Nat.lt_of_lt_of_le hg hb7.size
      have m0 := (hb7.cell (p := ⟨g, 0, none⟩) hg).trans k0
      have m2 := (hb7.cell (p := ⟨g, 2, none⟩) hg).trans k2
      clear Z1 k0 k1 k2 hb7
      go_wp2_with (go_at_call 15; refine (CT.out _).mono ?_; rintro r_ w2 ⟨v, rfl, hrow, hb2⟩; obtain ⟨A2, cap2, rfl, hcell⟩ := hrow.form; have hB2 := hB7.trans (hb2.mono hB7.size); have hw2 : w.heap.size < w2.heap.size := Nat.lt_of_lt_of_le hw7 hb2.size; have Z2 := Z7.later hw7 hb2; have n2 := (hb2.cell (p := ⟨g, 2, none⟩) hg7).trans m2; have hg2 : g < w2.heap.size := Nat.lt_of_lt_of_le hg7 hb2.size; obtain ⟨r0, r1, r2, rf0, rf1, rf2⟩ := Z2; clear hb2 hrow hcell Z7)
      refine bodyPost_ret (by simp [results, Tryd.results8, go_sem, *]; try rfl) rfl ?_
      exact ⟨by rw [HN.out]; rfl, by (repeat' (first | (with_reducible exact Below.refl _ _) | (with_reducible assumption) | (with_reducible refine below_drewN ?_ _) | (with_reducible refine Below.drew ?_) | (with_reducible refine Below.alloc ?_ ?_ _) | (with_reducible refine Below.setCell ?_ ?_ _) | go_size))⟩
    match M, h2 with
    | [x, y], _ =>
    have hlx : x.length ≤ p.length := splT_le (by rw [hM]; simp)
    have hly : y.length ≤ p.length := splT_le (by rw [hM]; simp)
    clear hM
    obtain ⟨nx, kx, tx, vx⟩ := numT_form x
    obtain ⟨ny, ky, ty, vy⟩ := numT_form y
    obtain ⟨nz, kz, tz, vz⟩ := numT_form z
    have CX0 := fun W => c_l01Number (sb x) W (by rw [sb_size]; omega)
    have CY0 := fun W => c_l01Number (sb y) W (by rw [sb_size]; omega)
    have CZ0 := fun W => c_l01Number (sb z) W (by rw [sb_size]; omega)
    rw [bl_sb, tx] at CX0
    rw [bl_sb, ty] at CY0
    rw [bl_sb, tz] at CZ0
    have CX := Lib.hid CX0
    have CY := Lib.hid CY0
    have CZ := Lib.hid CZ0
    have hV2 : trV (bl s) = (numV x).bind fun a => (numV y).bind fun b => (numV z).bind fun c => if vtr a b c then some (a, b, c) else none := hV
    rw [vx, vy, vz] at hV2
    obtain ⟨kv, hkv⟩ : ∃ kv, vtr nx ny nz = kv := ⟨_, rfl⟩
    have HKV := Lib.hid hkv
    have hV3 : trV (bl s) = if kx && (ky && (kz && kv)) then some (nx, ny, nz) else none := by
      rw [hV2, ← hkv]
      cases kx <;> cases ky <;> cases kz <;> rfl
    have HV := Lib.hid hV3
    clear tx ty tz vx vy vz CX0 CY0 CZ0 hV hV2 hV3 hkv
    go_enter Tryd.func8, Tryd.ntmps8
    go_wp2_with (go_at_call 15; refine (CS.out _).mono ?_; rintro r_ w1 ⟨v, rfl, hrow, hb1⟩; obtain ⟨A, cap, rfl, hcell⟩ := hrow.form; obtain ⟨g, rfl, hg, k0⟩ := hcell 0 (by simp); obtain ⟨g1, hA1, _, k1⟩ := hcell 1 (by simp); obtain rfl : g = g1 := (by simpa using hA1); obtain ⟨g2, hA2, _, k2⟩ := hcell 2 (by simp); obtain rfl : g = g2 := (by simpa using hA2); simp only [List.getElem_cons_zero, List.getElem_cons_succ] at k0 k1 k2; clear hA1 hA2; have hB1 := later hb1 (w := w) (by (repeat' (first | (with_reducible exact Below.refl _ _) | (with_reducible assumption) | (with_reducible refine below_drewN ?_ _) | (with_reducible refine Below.drew ?_) | (with_reducible refine Below.alloc ?_ ?_ _) | (with_reducible refine Below.setCell ?_ ?_ _) | go_size))); have hy1 := hb1.size; simp only [World.size_alloc] at hy1; have hw1 : w.heap.size < w1.heap.size := (by omega); have Z1 : Z3 w1 w.heap.size := ⟨(hb1.cell (p := ⟨w.heap.size, 0, none⟩) (by simp)).trans (by simp [go_sem]), (hb1.cell (p := ⟨w.heap.size, 1, none⟩) (by simp)).trans (by simp [go_sem]), (hb1.cell (p := ⟨w.heap.size, 2, none⟩) (by simp)).trans (by simp [go_sem]), (hb1.frozen (p := ⟨w.heap.size, 0, none⟩) (by simp)).trans (by simp [go_sem]), (hb1.frozen (p := ⟨w.heap.size, 1, none⟩) (by simp)).trans (by simp [go_sem]), (hb1.frozen (p := ⟨w.heap.size, 2, none⟩) (by simp)).trans (by simp [go_sem])⟩; clear hb1 hrow hcell)
    refine wp_region_below (by kernel_rfl) (by kernel_rfl) ?_
    repeat (go_big_quiet_step (fail))
    refine wpQuiet_nil ?_
    intro _ hw'
    obtain ⟨⟨w7, hb7⟩, hw''⟩ := hw'
    subst hw''
    have hB7 := hB1.trans (hb7.mono hB1.size)
    have Z7 := Z1.later hw1 hb7
    have hw7 := Nat.lt_of_lt_of_le hw1 hb7.size
    have hg7 := Nat.lt_of_lt_of_le hg hb7.size
    have m0 := (hb7.cell (p := ⟨g, 0, none⟩) hg).trans k0
    have m2 := (hb7.cell (p := ⟨g, 2, none⟩) hg).trans k2
    clear Z1 k0 k1 k2 hb7
    go_wp2_with (first | (go_at_call 15; refine (CT.out _).mono ?_; rintro r_ w2 ⟨v, rfl, hrow, hb2⟩; obtain ⟨A2, cap2, rfl, hcell⟩ := hrow.form; obtain ⟨u, rfl, hu, j0⟩ := hcell 0 (by simp); obtain ⟨u1, hA1, _, j1⟩ := hcell 1 (by simp); obtain rfl : u = u1 := (by simpa using hA1); simp only [List.getElem_cons_zero, List.getElem_cons_succ] at j0 j1; clear hA1; have hB2 := hB7.trans (hb2.mono hB7.size); have hw2 : w.heap.size < w2.heap.size := Nat.lt_of_lt_of_le hw7 hb2.size; have Z2 := Z7.later hw7 hb2; have n2 := (hb2.cell (p := ⟨g, 2, none⟩) hg7).trans m2; have hg2 : g < w2.heap.size := Nat.lt_of_lt_of_le hg7 hb2.size; clear hb2 hrow hcell Z7) | (go_at_call 16; first | (with_reducible refine (CX.out _).mono ?_; rintro r_ w3 ⟨rfl, hb3⟩; have hB3 := hB2.trans (hb3.mono hB2.size); have hw3 : w.heap.size < w3.heap.size := Nat.lt_of_lt_of_le hw2 hb3.size; have Z3_ := Z2.later hw2 hb3; have n3 := (hb3.cell (p := ⟨g, 2, none⟩) hg2).trans n2; have hg3 : g < w3.heap.size := Nat.lt_of_lt_of_le hg2 hb3.size; have j3 := (hb3.cell (p := ⟨u, 1, none⟩) hu).trans j1; have hu3 : u < w3.heap.size := Nat.lt_of_lt_of_le hu hb3.size; clear hb3 Z2) | (with_reducible refine (CY.out _).mono ?_; rintro r_ w4 ⟨rfl, hb4⟩; have hB4 := hB3.trans (hb4.mono hB3.size); have hw4 : w.heap.size < w4.heap.size := Nat.lt_of_lt_of_le hw3 hb4.size; have Z4 := Z3_.later hw3 hb4; have n4 := (hb4.cell (p := ⟨g, 2, none⟩) hg3).trans n3; have hg4 : g < w4.heap.size := Nat.lt_of_lt_of_le hg3 hb4.size; clear hb4 Z3_)))
    refine wp_region_below (by kernel_rfl) (by kernel_rfl) ?_
    repeat (go_big_quiet_step ((go_at_call 16; refine qBg (CZ.out _) (by simp) ?_; intro w_ h_; first | exact h_ | exact h_.below | (subst h_; exact Below.refl _ _) | (subst h_; (repeat' (first | (with_reducible exact Below.refl _ _) | (with_reducible assumption) | (with_reducible refine below_drewN ?_ _) | (with_reducible refine Below.drew ?_) | (with_reducible refine Below.alloc ?_ ?_ _) | (with_reducible refine Below.setCell ?_ ?_ _) | go_size))) | (obtain ⟨n_, rfl⟩ := h_; (repeat' (first | (with_reducible exact Below.refl _ _) | (with_reducible assumption) | (with_reducible refine below_drewN ?_ _) | (with_reducible refine Below.drew ?_) | (with_reducible refine Below.alloc ?_ ?_ _) | (with_reducible refine Below.setCell ?_ ?_ _) | go_size))))))
    refine wpQuiet_nil ?_
    intro _ hw'
    obtain ⟨⟨w9, hb9⟩, hw''⟩ := hw'
    subst hw''
    have hB9 := hB4.trans (hb9.mono hB4.size)
    have Z9 := Z4.later hw4 hb9
    have hw9 := Nat.lt_of_lt_of_le hw4 hb9.size
    obtain ⟨r0, r1, r2, rf0, rf1, rf2⟩ := Z9
    clear Z4 n2 n3 n4 j0 j1 j3 m0 m2 hb9
    cases kx
    · go_wp2_with (go_at_call 11; refine (c_l20One nx ny nz _ _ _ HKV.out _ (by go_cell) (by go_cell) (by go_cell)).mono ?_; rintro r_ w_ ⟨rfl, n1, rfl⟩)
      refine bodyPost_ret (by simp [results, Tryd.results8, go_sem, *]; try rfl) rfl ?_
      exact ⟨by rw [HV.out]; rfl, by (repeat' (first | (with_reducible exact Below.refl _ _) | (with_reducible assumption) | (with_reducible refine below_drewN ?_ _) | (with_reducible refine Below.drew ?_) | (with_reducible refine Below.alloc ?_ ?_ _) | (with_reducible refine Below.setCell ?_ ?_ _) | go_size))⟩
    cases ky
    · go_wp2_with (go_at_call 11; refine (c_l20One nx ny nz _ _ _ HKV.out _ (by go_cell) (by go_cell) (by go_cell)).mono ?_; rintro r_ w_ ⟨rfl, n1, rfl⟩)
      refine bodyPost_ret (by simp [results, Tryd.results8, go_sem, *]; try rfl) rfl ?_
      exact ⟨by rw [HV.out]; rfl, by (repeat' (first | (with_reducible exact Below.refl _ _) | (with_reducible assumption) | (with_reducible refine below_drewN ?_ _) | (with_reducible refine Below.drew ?_) | (with_reducible refine Below.alloc ?_ ?_ _) | (with_reducible refine Below.setCell ?_ ?_ _) | go_size))⟩
    cases kz
    · go_wp2_with (go_at_call 11; refine (c_l20One nx ny nz _ _ _ HKV.out _ (by go_cell) (by go_cell) (by go_cell)).mono ?_; rintro r_ w_ ⟨rfl, n1, rfl⟩)
      refine bodyPost_ret (by simp [results, Tryd.results8, go_sem, *]; try rfl) rfl ?_
      exact ⟨by rw [HV.out]; rfl, by (repeat' (first | (with_reducible exact Below.refl _ _) | (with_reducible assumption) | (with_reducible refine below_drewN ?_ _) | (with_reducible refine Below.drew ?_) | (with_reducible refine Below.alloc ?_ ?_ _) | (with_reducible refine Below.setCell ?_ ?_ _) | go_size))⟩
    cases kv
    · go_wp2_with (go_at_call 11; refine (c_l20One nx ny nz _ _ _ HKV.out _ (by go_cell) (by go_cell) (by go_cell)).mono ?_; rintro r_ w_ ⟨rfl, n1, rfl⟩)
      refine bodyPost_ret (by simp [results, Tryd.results8, go_sem, *]; try rfl) rfl ?_
      exact ⟨by rw [HV.out]; rfl, by (repeat' (first | (with_reducible exact Below.refl _ _) | (with_reducible assumption) | (with_reducible refine below_drewN ?_ _) | (with_reducible refine Below.drew ?_) | (with_reducible refine Below.alloc ?_ ?_ _) | (with_reducible refine Below.setCell ?_ ?_ _) | go_size))⟩
    go_wp2_with (go_at_call 11; refine (c_l20One nx ny nz _ _ _ HKV.out _ (by go_cell) (by go_cell) (by go_cell)).mono ?_; rintro r_ w_ ⟨rfl, n1, rfl⟩)
    refine bodyPost_ret (by simp [results, Tryd.results8, go_sem, *]; try rfl) rfl ?_
    exact ⟨by rw [HV.out]; rfl, by (repeat' (first | (with_reducible exact Below.refl _ _) | (with_reducible assumption) | (with_reducible refine below_drewN ?_ _) | (with_reducible refine Below.drew ?_) | (with_reducible refine Below.alloc ?_ ?_ _) | (with_reducible refine Below.setCell ?_ ?_ _) | go_size))⟩
end Go.Proofs.YtldhhbnochlmlaaDoor
