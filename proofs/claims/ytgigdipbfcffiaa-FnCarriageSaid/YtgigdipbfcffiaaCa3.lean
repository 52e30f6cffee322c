/- Contracts: the fewest moves between two columns, and a way of so many (the program). -/
import Derived.Test.YtgigdipbfcffiaaCa2
import Derived.Test.YtgigdipbfcffiaaBy
namespace Go.Proofs.Ytgigdipbfcffiaa
open Go.RowKit Go.BigFrame
attribute [local go_sem] sub_cell sub_frozen drewN_setCell

def bb3 (j : Nat) : UInt8 := match j with | 0 => 35 | 1 => 60 | _ => 62
theorem b3_eq (j : Nat) : b3 j = ((bb3 j).toNat : Int) := by
  match j with
  | 0 => rfl
  | 1 => rfl
  | _ + 2 => rfl
/-- Which move a byte is. -/
def jOf (b : UInt8) : Nat := if b = 35 then 0 else if b = 60 then 1 else if b = 62 then 2 else 3
theorem jOf_bb {j : Nat} (h : j < 3) : jOf (bb3 j) = j := by
  match j, h with
  | 0, _ => rfl
  | 1, _ => rfl
  | 2, _ => rfl
/-- Where a plan leads. -/
def goL (st : List Int) : List UInt8 → Int → Option Int
  | [], c => some c
  | b :: l, c => match mvC st c (jOf b) with
    | some x => goL st l x
    | none => none
theorem goL_snoc {st : List Int} {l : List UInt8} {b : UInt8} {c x y : Int} (h : goL st l c = some x) (hm : mvC st x (jOf b) = some y) : goL st (l ++ [b]) c = some y := by
  induction l generalizing c with
  | nil =>
    simp only [goL, Option.some.injEq] at h
    subst h
    simp [goL, hm]
  | cons a l ih =>
    rw [goL] at h
    rw [List.cons_append, goL]
    cases hc : mvC st c (jOf a) with
    | none => rw [hc] at h; cases h
    | some z => rw [hc] at h; exact ih h
/-- What MovesBetween leaves. -/
def MovesP (st : List Int) (f t : Nat) (w : World) (e : Ending) (w' : World) : Prop :=
  ∃ D : Int → Int, e = .returned (.tuple #[.int .i64 (D f), .int .i64 0]) ∧ IsD st t D ∧ Below w.heap.size w w'
theorem index31 (w : World) (Z : Array Value) (f : Nat) (d : Int) (hf : f < 31) (hz : Z[f]? = some (.int .i64 d)) : (Instr.index 57 (.agg Z) (.int .i64 (f : Int))).run Try.prog w = .ok (.int .i64 d) w := by
  have h0 : (0 : Int) ≤ (f : Int) := by omega
  have h1 : (f : Int) < 31 := by omega
  obtain ⟨hl, hv⟩ := Array.getElem?_eq_some_iff.1 hz
  simp [Instr.index, run_underlying Try.underlying57, asIntOf, hf, hl, hv, go_sem]
set_option maxHeartbeats 2000000 in
theorem c_MovesBetween (A : Option Addr) (n c : Nat) (st : List Int) (f t : Nat) (h : StpL st) (hf : f ≤ 30) (ht : t ≤ 30) (w : World) (ha : Zs w A n st) :
    Calls Try.prog 9 #[.slice A n c, .int .i64 (f : Int), .int .i64 (t : Int)] w (MovesP st f t w) := by
  have CC := Lib.hid (c_columnsCode A n c st f t h (by omega) (by omega) (by omega) (by omega) w ha)
  have CD := Lib.hid (c_distances A n c st t h ht w ha)
  clear h ha
  go_enter Try.func9, Try.ntmps9
  go_wp2_with (go_at_call 26; refine CC.out.mono ?_; rintro r_ w1 ⟨rfl, rfl⟩)
  refine CD.out.mono ?_
  rintro r_ w1 ⟨Z, D, rfl, hZ, hget, hD, hb1⟩
  have hz := hget f (by omega)
  have hz' : Z[f]? = some (.int .i64 (D f)) := hz
  have hidx := index31 w1 Z f (D f) (by omega) hz'
  have HD := Lib.hid hD
  clear hget hz hz'
  go_wp2_with fail
  go_returns
  exact ⟨D, rfl, HD.out, hb1⟩
/-- What planBetween leaves. -/
def PlanP (st : List Int) (f t : Nat) (w : World) (e : Ending) (w' : World) : Prop :=
  ∃ (l : List UInt8) (D : Int → Int), e = .returned (.string (sb l)) ∧ (l.length : Int) = D f ∧ goL st l f = some (t : Int) ∧ IsD st t D ∧ Below w.heap.size w w'
set_option maxRecDepth 100000 in
set_option maxHeartbeats 8000000 in
theorem c_planBetween (A : Option Addr) (n c : Nat) (st : List Int) (f t : Nat) (h : StpL st) (hf : f ≤ 30) (ht : t ≤ 30) (w : World) (ha : Zs w A n st) :
    Calls Try.prog 28 #[.slice A n c, .int .i64 (f : Int), .int .i64 (t : Int)] w (PlanP st f t w) := by
  have HA := Lib.hid ha
  have HS := Lib.hid h
  have hn : n ≤ 6 := by have := ha.1; have := h.1; omega
  have CM := Lib.hid (fun a j (hj : j < 3) (a0 : 0 ≤ a) (a1 : a ≤ 30) w hw => c_moved A n c st a j hj h a0 a1 w hw)
  have CD := Lib.hid (c_distances A n c st t h ht w ha)
  obtain ⟨Z0, nZ, zZ, rZ, sZ, tZ⟩ := zeroA31
  clear ha h
  go_enter Try.func28, Try.ntmps28
  go_wp2_with fail
  refine CD.out.mono ?_
  rintro r_ w1 ⟨Z, D, rfl, hZ, hget, hD, hb1⟩
  have hinfo : (Try.prog.info? 57).map (·.size) = some Z.size := by rw [hZ]; kernel_rfl
  have hone : Z.all (·.oneCell') = true := by
    rw [Array.all_eq_true]
    intro i hi
    have := hget i (by omega)
    rw [Array.getElem?_eq_getElem hi] at this
    simp only [Option.some.injEq] at this
    rw [this]; rfl
  have hst := run_storeCells_new (P := Try.prog) w1 57 Z0 Z hinfo (by omega) hone
  have hst2 := run_storeAt_new (P := Try.prog) w1 57 Z0 Z hinfo (by omega) hone
  have HD := Lib.hid hD
  have HG := Lib.hid hget
  have hB1 := Lib.hid hb1
  have hz1 := hb1.size
  clear hget hD hinfo hone hb1
  go_wp2_with fail
  clear hst hst2
  have HR0 : Hid ((((w1.alloc (.cells Z 57)).alloc (.cells #[] 5))).heap[w1.heap.size]? = some (.cells Z 57)) := Lib.hid ((Below.heap_alloc _ _ _ (by simp)).trans (heap_alloc_last w1 _))
  go_loopw [1, 8] (fun a v wx => ∃ (k : Nat) (l : List UInt8), k ≤ 30 ∧ a = .int .i64 k ∧ Hid (BRow wx (w1.heap.size + 1) v l) ∧ Hid ((l.length : Int) + D k = D f) ∧ Hid (goL st l f = some (k : Int)) ∧ Hid (wx.heap[w1.heap.size]? = some (.cells Z 57)) ∧ Below w.heap.size w wx ∧ w1.heap.size < wx.heap.size) (fun a _ _ => (D (intOf a)).toNat)
  case atStart => exact ⟨f, [], hf, rfl, Lib.hid (by have h := BRow.made (w1.alloc (.cells Z 57)); simp only [World.size_alloc] at h; exact h), Lib.hid (by simp), Lib.hid rfl, HR0, (hB1.out.alloc (by omega) _).alloc (by simp; omega) _, by simp; omega⟩
  case round =>
    obtain ⟨k, l, hk, rfl, hrow, hlen, hgo, hrb, hB, hgt⟩ := hrel
    rename World => wr
    have hD0 := HD.out.pos k (by omega) (by omega)
    have hD1 := HD.out.le30 (by omega) (by omega) (c := k) (by omega) (by omega)
    have hDf := HD.out.le30 (by omega) (by omega) (c := f) (by omega) (by omega)
    have hll : l.length ≤ 30 := by have := hlen.out; omega
    have HROW := hrow
    have HLEN := hlen
    have HGO := hgo
    have HRB := hrb
    have HB := Lib.hid hB
    clear hrow hlen hgo hrb hB HR0
    by_cases hne : k = t
    · subst hne
      have e0 : D k = 0 := HD.out.here
      have hconv := HROW.out.text
      go_wp2_with fail
      go_ret
      exact ⟨l, D, rfl, by have := HLEN.out; omega, HGO.out, HD.out, HB.out⟩
    · have t1 : ((k : Int) == (t : Int)) = false := beq_eq_false_iff_ne.2 (by omega)
      have t2 : ((k : Int) != (t : Int)) = true := by rw [bne, t1]; rfl
      have kc := Lib.run_convert_bytes_const (P := Try.prog) wr 22 5 #[.int .u8 35, .int .u8 60, .int .u8 62] 3 3 Try.underlying22 Try.underlying5
      have HNE := Lib.hid hne
      clear hne
      go_wp2_with fail
      go_loopw [1, 8, 23] (fun a v' i wx => ∃ j : Nat, j ≤ 3 ∧ a = .int .i64 k ∧ i = .int .i64 j ∧ Hid (∀ q, q < j → ∀ x, mvC st k q = some x → D x ≠ D k - 1) ∧ Hid (BRow wx (w1.heap.size + 1) v' l) ∧ Hid (wx.heap[w1.heap.size]? = some (.cells Z 57)) ∧ wx.heap[wr.heap.size]? = some (.cells bytes3 5 (3, 4)) ∧ Below w.heap.size w wx ∧ wr.heap.size < wx.heap.size) (fun _ _ i _ => 3 - (intOf i).toNat)
      case atStart => exact ⟨0, by omega, rfl, rfl, Lib.hid (fun q hq => by omega), Lib.hid (HROW.out.later (Below.alloc (Below.refl _ _) (Nat.le_refl _) _)), Lib.hid ((Below.heap_alloc _ _ _ hgt).trans HRB.out), Array.getElem?_push_size (xs := wr.heap) (x := .cells bytes3 5 (3, 4)), HB.out.alloc (by have := HB.out.size; omega) _, by simp⟩
      case round =>
        obtain ⟨j, hj, rfl, rfl, hno, hrow, hrb, hbl, hB, hgt2⟩ := hrel
        rename World => wj
        clear kc
        have hzj := hB.size
        have HNO := hno
        have HROWJ := hrow
        have HRBJ := hrb
        have HBJ := Lib.hid hB
        have HBL := Lib.hid hbl
        clear hno hrow hrb
        by_cases hlt3 : j < 3
        · have b0 : wj.cell? ⟨wr.heap.size, j, none⟩ = some (.int .u8 ((bb3 j).toNat : Int)) := by rw [← b3_eq]; simp only [World.cell?, hbl]; exact bytes3_at j hlt3
          have i3 : (j : Int) < 3 := by omega
          have C1 := CM.out (k : Int) j hlt3 (by omega) (by omega) wj (HA.out.later hB)
          rw [b3_eq] at C1
          have HC1 := Lib.hid C1
          clear hbl C1 hB
          go_wp2_with fail
          refine HC1.out.mono ?_
          rintro r_ w' ⟨v, ok, hm, rfl, rfl⟩
          cases ok
          · have HNN := Lib.hid (fun q (hq : q < j + 1) x (hx : mvC st k q = some x) => (by
              rcases Nat.lt_or_ge q j with h1 | h1
              · exact HNO.out q h1 x hx
              · obtain rfl : q = j := by omega
                exact absurd (hm.symm.trans hx) (by simp) : D x ≠ D k - 1))
            clear hm
            go_wp2_with fail
            refine wp_region_below (by kernel_rfl) (by kernel_rfl) ?_
            repeat (go_big_quiet_step (fail))
            refine wpQuiet_nil ?_
            intro _ hw'
            obtain ⟨⟨w9, hb9⟩, hw''⟩ := hw'
            subst hw''
            rename World => wl
            have HROW9 := Lib.hid (HROWJ.out.later hb9)
            have HRB9 := Lib.hid ((hb9.block w1.heap.size (by omega)).trans HRBJ.out)
            have HBL9 := Lib.hid ((hb9.block wr.heap.size hgt2).trans HBL.out)
            have HB9 := Lib.hid (HBJ.out.trans (hb9.mono hzj))
            have hz9 : wj.heap.size ≤ wl.heap.size := hb9.size
            clear hb9
            go_wp2_with fail
            go_roundw
            case rel => first | exact ⟨j + 1, by omega, rfl, by go_num, HNN, HROW9, HRB9, HBL9.out, HB9.out, by omega⟩ | ((repeat apply Exists.intro); exact ⟨⟨j + 1, by omega, rfl, by go_num, HNN, HROW9, HRB9, HBL9.out, HB9.out, by omega⟩, rfl⟩)
            case measure => simp [intOf]; omega
          · have hm2 : mvC st k j = some v := by rw [hm]; rfl
            have hvi := mv_in HS.out.2.1 (by omega) (by omega) hm2
            obtain ⟨x, rfl⟩ : ∃ x : Nat, v = x := ⟨v.toNat, by omega⟩
            have hx30 : x ≤ 30 := by omega
            have r1 : wj.cell? ⟨w1.heap.size, x, none⟩ = some (.int .i64 (D x)) := by simp only [World.cell?, HRBJ.out]; exact HG.out x (by omega)
            have r2 : wj.cell? ⟨w1.heap.size, k, none⟩ = some (.int .i64 (D k)) := by simp only [World.cell?, HRBJ.out]; exact HG.out k (by omega)
            have hDx0 := HD.out.pos x (by omega) (by omega)
            have hDx1 := HD.out.le30 (by omega) (by omega) (c := x) (by omega) (by omega)
            have i4 : (x : Int) < 31 := by omega
            have i5 : (k : Int) < 31 := by omega
            have hq1 : w1.heap.size < wj.heap.size := by omega
            have HM := Lib.hid hm2
            obtain ⟨y, hy⟩ : ∃ y, D x = y := ⟨_, rfl⟩
            obtain ⟨z, hz⟩ : ∃ z, D k = z := ⟨_, rfl⟩
            rw [hy] at r1 hDx0 hDx1
            rw [hz] at r2 hD0 hD1
            have HY := Lib.hid hy
            have HZ := Lib.hid hz
            have hw : IntKind.i64.wrap (z - 1) = z - 1 := IntWalk.i64_in _ (by omega)
            clear hm hm2 hvi hy hz
            by_cases hyz : y = z - 1
            · have t3 : (y == z - 1) = true := beq_iff_eq.2 hyz
              have HYZ := Lib.hid hyz
              clear hyz
              go_wp2_with fail
              refine wp_region_below (by kernel_rfl) (by kernel_rfl) ?_
              repeat (go_big_quiet_step (fail))
              refine wpQuiet_nil ?_
              intro _ hw'
              obtain ⟨⟨w9, hb9⟩, hw''⟩ := hw'
              subst hw''
              rename World => wl
              have HROW9 := Lib.hid (HROWJ.out.later hb9)
              have HRB9 := Lib.hid ((hb9.block w1.heap.size (by omega)).trans HRBJ.out)
              have HB9 := Lib.hid (HBJ.out.trans (hb9.mono hzj))
              have hz9 : wj.heap.size ≤ wl.heap.size := hb9.size
              clear hb9
              go_wp2_with (at_builtin; refine app1 rfl (.tmp 45) (.tmp 47) _ rfl (w1.heap.size + 1) 5 _ 1 Try.underlying22 info_uint8 rfl _ _ rfl _ _ _ rfl HROW9.out rfl (by omega) (by omega) (by omega) ?_; intro v' w2 hown2 hb2 _; have HO2 := Lib.hid hown2; have HB2 := Lib.hid hb2; clear hown2 hb2)
              have hz2 := HB2.out.size
              go_roundw
              case rel => exact ⟨x, l ++ [bb3 j], hx30, rfl, Lib.hid (BRow.snoc HO2.out), Lib.hid (by have := HLEN.out; have h1 := HY.out; have h2 := HZ.out; have h3 := HYZ.out; simp only [List.length_append, List.length_singleton]; omega), Lib.hid (goL_snoc HGO.out (by rw [jOf_bb hlt3]; exact HM.out)), Lib.hid ((HB2.out.block w1.heap.size (by omega)).trans HRB9.out), HB9.out.trans (HB2.out.mono (by have := HB9.out.size; omega)), by omega⟩
              case measure => have h1 := HY.out; have h2 := HZ.out; have h3 := HYZ.out; simp [intOf]; omega
            · have t3 : (y == z - 1) = false := beq_eq_false_iff_ne.2 hyz
              have HNN := Lib.hid (fun q (hq : q < j + 1) u (hx : mvC st k q = some u) => (by
                rcases Nat.lt_or_ge q j with h1 | h1
                · exact HNO.out q h1 u hx
                · obtain rfl : q = j := by omega
                  rw [HM.out] at hx
                  simp only [Option.some.injEq] at hx
                  subst hx
                  rw [HY.out, HZ.out]; exact hyz : D u ≠ D k - 1))
              clear hyz
              go_wp2_with fail
              refine wp_region_below (by kernel_rfl) (by kernel_rfl) ?_
              repeat (go_big_quiet_step (fail))
              refine wpQuiet_nil ?_
              intro _ hw'
              obtain ⟨⟨w9, hb9⟩, hw''⟩ := hw'
              subst hw''
              rename World => wl
              have HROW9 := Lib.hid (HROWJ.out.later hb9)
              have HRB9 := Lib.hid ((hb9.block w1.heap.size (by omega)).trans HRBJ.out)
              have HBL9 := Lib.hid ((hb9.block wr.heap.size hgt2).trans HBL.out)
              have HB9 := Lib.hid (HBJ.out.trans (hb9.mono hzj))
              have hz9 : wj.heap.size ≤ wl.heap.size := hb9.size
              clear hb9
              go_wp2_with fail
              go_roundw
              case rel => first | exact ⟨j + 1, by omega, rfl, by go_num, HNN, HROW9, HRB9, HBL9.out, HB9.out, by omega⟩ | ((repeat apply Exists.intro); exact ⟨⟨j + 1, by omega, rfl, by go_num, HNN, HROW9, HRB9, HBL9.out, HB9.out, by omega⟩, rfl⟩)
              case measure => simp [intOf]; omega
        · exfalso
          obtain ⟨q, x, hq, hm, hd⟩ := HD.out.way k (by omega) (by omega) (by have := HNE.out; omega)
          exact HNO.out q (by omega) x hm (by omega)
/-- What PlanBetween leaves. -/
def PlanP2 (st : List Int) (f t : Nat) (w : World) (e : Ending) (w' : World) : Prop :=
  ∃ (l : List UInt8) (D : Int → Int), e = .returned (.tuple #[.string (sb l), .int .i64 0]) ∧ (l.length : Int) = D f ∧ goL st l f = some (t : Int) ∧ IsD st t D ∧ Below w.heap.size w w'
set_option maxHeartbeats 2000000 in
theorem c_PlanBetween (A : Option Addr) (n c : Nat) (st : List Int) (f t : Nat) (h : StpL st) (hf : f ≤ 30) (ht : t ≤ 30) (w : World) (ha : Zs w A n st) :
    Calls Try.prog 10 #[.slice A n c, .int .i64 (f : Int), .int .i64 (t : Int)] w (PlanP2 st f t w) := by
  have CC := Lib.hid (c_columnsCode A n c st f t h (by omega) (by omega) (by omega) (by omega) w ha)
  have CD := Lib.hid (c_planBetween A n c st f t h hf ht w ha)
  clear h ha
  go_enter Try.func10, Try.ntmps10
  go_wp2_with (go_at_call 26; refine CC.out.mono ?_; rintro r_ w1 ⟨rfl, rfl⟩)
  refine CD.out.mono ?_
  rintro r_ w1 ⟨l, D, rfl, h1, h2, h3, hb1⟩
  have H := Lib.hid (And.intro h1 (And.intro h2 h3))
  clear h1 h2 h3
  go_wp2_with fail
  go_returns
  exact ⟨l, D, rfl, H.out.1, H.out.2.1, H.out.2.2, hb1⟩
set_option maxHeartbeats 400000 in
theorem c_a2Size (x : Int) (w : World) (h0 : -2000000 ≤ x) (h1 : x ≤ 2000000) :
    Calls Try.prog 11 #[.int .i64 x] w fun e w' => e = .returned (.int .i64 (if x < 0 then -x else x)) ∧ w = w' := by
  by_cases h : x < 0
  all_goals
    go_enter Try.func11, Try.ntmps11
    go_wp2_with fail
    go_ret
    simp [*]
end Go.Proofs.Ytgigdipbfcffiaa
