/- Contract: the least numbers of moves from all columns to one (the program). -/
import Derived.Test.YtgigdipbfcffiaaCa1
import Derived.Deep.WholeRow
import Derived.Lib.SlBytesConst
import Derived.Deep.DeepCutAuto
import Derived.Laws.CopyOwn
namespace Go.Proofs.Ytgigdipbfcffiaa
open Go.RowKit Go.BigFrame
attribute [local go_sem] sub_cell sub_frozen drewN_setCell

/-- The numbers of the columns, as cells. -/
def colC (D : Int → Int) (i : Nat) : Value := .int .i64 (D (i : Int))
theorem zeroA31 : ∃ Z : Array Value, Z.size = 31 ∧ (∀ w, (zeroValue 57).run Try.prog w = .ok (.agg Z) w) ∧ (∀ w : World, (w.alloc (.cells Z 57)).rowIs w.heap.size 57 31 (colC fun _ => 0)) ∧
    (∀ w : World, (Instr.storeAt 57 (.pointer (some ⟨w.heap.size, 0, none⟩)) (.agg Z)).run Try.prog (w.alloc (.cells Z 57)) = .ok () (w.alloc (.cells Z 57))) ∧
    (∀ w : World, (storeCells ⟨w.heap.size, 0, none⟩ Z.toList 0).run Try.prog (w.alloc (.cells Z 57)) = .ok () (w.alloc (.cells Z 57))) := by
  obtain ⟨z2, i2⟩ := zero_of_info (P := Try.prog) (t := 57) (v := .agg (Array.replicate 31 (.int .i64 0))) (n := 31) (by kernel_rfl)
  have hs : (Array.replicate 31 (Value.int .i64 0)).size = 31 := Array.size_replicate
  have ho : (Array.replicate 31 (Value.int .i64 0)).all (·.oneCell') = true := by
    rw [Array.all_eq_true]; intro i hi; rw [Array.getElem_replicate]; rfl
  have hi := i2.trans (congrArg some hs.symm)
  refine ⟨Array.replicate 31 (.int .i64 0), hs, z2, fun w => ?_, fun w => run_storeAt_new w _ _ _ hi rfl ho, fun w => run_storeCells_new w _ _ _ hi rfl ho⟩
  have := World.rowIs_alloc w (Array.replicate 31 (.int .i64 0)) 57 (colC fun _ => 0) (fun i hi => by
    rw [Array.size_replicate] at hi
    simp [colC, hi])
  rwa [Array.size_replicate] at this
theorem col_set {w : World} {g : Nat} {D : Int → Int} (h : w.rowIs g 57 31 (colC D)) (k : Nat) (z : Int) : (w.setCell ⟨g, k, none⟩ (.int .i64 z)).rowIs g 57 31 (colC fun c => if c = (k : Int) then z else D c) := by
  refine (h.set _ _).congr fun i _ => ?_
  by_cases h0 : i = k
  · subst h0; simp [colC]
  · rw [if_neg h0]
    show _ = Value.int .i64 (if (i : Int) = (k : Int) then z else D i)
    rw [if_neg (by omega)]; rfl
theorem results_cell1 {fn : Func} {p : Tmp} {ty : TypeId} (h : fn.results = #[.cell p ty]) (tmps : Array Value) {a : Addr} {v : Value} {w : World} (ha : tmps.getD p undef = .pointer (some a)) (hl : (loadVar ty a).run Try.prog w = .ok v w) : (results fn tmps).run Try.prog w = .ok v w := by
  have ha' : tmps[p]?.getD undef = .pointer (some a) := by rw [← ha]; simp
  simp [results, h, ha', asAddr, Sem.run_bind, Result.andThen, hl]
/-- The numbers with one more, or not. -/
def updH (hit : Bool) (r q : Int) (D : Int → Int) : Int → Int := match hit with
  | true => fun c => if c = q then r + 1 else D c
  | false => D
theorem updH_ne {hit : Bool} {r q x : Int} {D : Int → Int} (h : x ≠ q) : updH hit r q D x = D x := by
  cases hit
  · rfl
  · exact if_neg h
theorem updH_set {hit : Bool} {r q : Int} {D : Int → Int} : (fun c => if c = q then r + 1 else updH hit r q D c) = updH true r q D := by
  funext c
  by_cases h : c = q
  · rw [if_pos h]; exact (if_pos h).symm
  · rw [if_neg h, updH_ne h]; exact (if_neg h).symm
/-- Whether a move of the first j hits. -/
def HitB (st : List Int) (D : Int → Int) (q r : Int) (j : Nat) (hit : Bool) : Prop := hit = true ↔ ∃ i x, i < j ∧ mvC st q i = some x ∧ D x = r
theorem HitB.zero (st : List Int) (D : Int → Int) (q r : Int) : HitB st D q r 0 false := by simp [HitB]
theorem HitB.miss {st : List Int} {D : Int → Int} {q r : Int} {j : Nat} {hit : Bool} (h : HitB st D q r j hit) (hn : ∀ x, mvC st q j = some x → D x ≠ r) : HitB st D q r (j + 1) hit := by
  unfold HitB at *
  rw [h]
  constructor
  · rintro ⟨i, x, hi, hm, hx⟩; exact ⟨i, x, by omega, hm, hx⟩
  · rintro ⟨i, x, hi, hm, hx⟩
    rcases Nat.lt_or_ge i j with h1 | h1
    · exact ⟨i, x, h1, hm, hx⟩
    · obtain rfl : i = j := by omega
      exact absurd hx (hn x hm)
theorem HitB.hit {st : List Int} {D : Int → Int} {q r x : Int} {j : Nat} (hm : mvC st q j = some x) (hx : D x = r) : HitB st D q r (j + 1) true := by
  unfold HitB
  simp only [true_iff]
  exact ⟨j, x, by omega, hm, hx⟩
/-- What the numbers of moves are told as. -/
def DistP (st : List Int) (tt : Int) (w : World) (e : Ending) (w' : World) : Prop :=
  ∃ (Z : Array Value) (D : Int → Int), e = .returned (.agg Z) ∧ Z.size = 31 ∧ (∀ i : Nat, i < 31 → Z[i]? = some (colC D i)) ∧ IsD st tt D ∧ Below w.heap.size w w'
set_option maxRecDepth 100000 in
set_option maxHeartbeats 8000000 in
theorem c_distances (A : Option Addr) (n c : Nat) (st : List Int) (T : Nat) (h : StpL st) (hT : T ≤ 30) (w : World) (ha : Zs w A n st) :
    Calls Try.prog 27 #[.slice A n c, .int .i64 (T : Int)] w (DistP st T w) := by
  have HA := Lib.hid ha
  have HS := Lib.hid h
  have hn : n ≤ 6 := by have := ha.1; have := h.1; omega
  have CM := Lib.hid (fun a j (hj : j < 3) (a0 : 0 ≤ a) (a1 : a ≤ 30) w hw => c_moved A n c st a j hj h a0 a1 w hw)
  obtain ⟨Z, nZ, zZ, rZ, sZ, tZ⟩ := zeroA31
  have hst := tZ (w.alloc (.cells Z 57))
  have hst2 := sZ (w.alloc (.cells Z 57))
  have hsz : (w.alloc (.cells Z 57)).heap.size = w.heap.size + 1 := by simp
  rw [hsz] at hst hst2
  have hr0 := rZ (w.alloc (.cells Z 57))
  rw [hsz] at hr0
  have hq0 := rZ w
  have HR0 := Lib.hid hr0
  have HQ0 := Lib.hid ((Below.heap_alloc (w.alloc (.cells Z 57)) (.cells Z 57) w.heap.size (by simp)))
  have HQ1 := Lib.hid hq0
  clear ha h hsz hr0 hq0
  go_enter Try.func27, Try.ntmps27
  go_wp2_with fail
  go_loopw [15] (fun i wr => ∃ k : Nat, k ≤ 31 ∧ i = .int .i64 k ∧ Hid (wr.rowIs (w.heap.size + 1) 57 31 (colC fun c => if c < (k : Int) then -1 else 0)) ∧ Below (w.heap.size + 1) (w.alloc (.cells Z 57)) wr) (fun i _ => 31 - (intOf i).toNat)
  case atStart => exact ⟨0, by omega, rfl, Lib.hid (HR0.out.congr fun i _ => by simp [colC]), by (repeat' (first | (with_reducible exact Below.refl _ _) | (with_reducible assumption) | (with_reducible refine below_drewN ?_ _) | (with_reducible refine Below.drew ?_) | (with_reducible refine Below.alloc ?_ ?_ _) | (with_reducible refine Below.setCell ?_ ?_ _) | go_size))⟩
  case round =>
    obtain ⟨k, hk, rfl, hR, hB⟩ := hrel
    rename World => wr
    by_cases hlt : k < 31
    · have r0 := hR.out.cell hlt
      have f0 := hR.out.frozen k
      have hR1 := Lib.hid (col_set hR.out k (-1))
      have i1 : (k : Int) < 31 := by omega
      have hb2 := hR.out.lt
      clear hst hst2
      go_wp2_with fail
      go_roundw
      case rel => exact ⟨k + 1, by omega, by go_num, Lib.hid (hR1.out.congr fun i _ => by
        simp only [colC]
        by_cases e : (i : Int) = (k : Int)
        · rw [if_pos e, if_pos (by omega)]
        · rw [if_neg e]
          by_cases e2 : (i : Int) < (k : Int)
          · rw [if_pos e2, if_pos (by omega)]
          · rw [if_neg e2, if_neg (by omega)]), hB.setCell (by simp) _⟩
      case measure => simp [intOf]; omega
    · obtain rfl : k = 31 := by omega
      have hT2 : T < 31 := by omega
      have r0 := hR.out.cell hT2
      have f0 := hR.out.frozen T
      have i1 : (T : Int) < 31 := by omega
      have hb2 := hR.out.lt
      have HR1 := Lib.hid ((col_set hR.out T 0).congr fun i hi => by
        show _ = colC (fun c => if c = (T : Int) then 0 else -1) i
        simp only [colC]
        by_cases e : (i : Int) = (T : Int)
        · rw [if_pos e, if_pos e]
        · rw [if_neg e, if_neg e, if_pos (by omega)])
      have HB1 := Lib.hid (hB.setCell (show w.heap.size + 1 ≤ (⟨w.heap.size + 1, T, none⟩ : Addr).block from Nat.le_refl _) (.int .i64 0))
      clear hst hst2 hR hB
      go_wp2_with fail
      clear r0 f0 hb2
      go_loopw [7, 8] (fun a f wx => ∃ (r : Nat) (D : Int → Int) (ch : Bool), r ≤ 31 ∧ a = .bool ch ∧ f = .int .i64 r ∧ Hid (wx.rowIs (w.heap.size + 1) 57 31 (colC D)) ∧ (ch = true → r ≤ 30) ∧ Hid (ch = true → Bfs st T r D) ∧ Hid (ch = false → IsD st T D) ∧ Below (w.heap.size + 1) (w.alloc (.cells Z 57)) wx) (fun a f _ => match a with | .bool true => 64 - (intOf f).toNat | _ => 0)
      case atStart => exact ⟨0, _, true, by omega, rfl, rfl, HR1, fun _ => by omega, Lib.hid (fun _ => Bfs.start st T), Lib.hid (fun h => by cases h), HB1.out⟩
      case round =>
        obtain ⟨r, D, ch, hr31, rfl, rfl, hR, hr30, hbf, hid, hB⟩ := hrel
        rename World => wo
        cases ch
        · have HD := Lib.hid (hid.out rfl)
          obtain ⟨cs, hcs, hcz, hget⟩ := hR.out
          have hz0 : wo.heap[w.heap.size]? = some (.cells Z 57) := (hB.block w.heap.size (by omega)).trans (heap_alloc_last w _)
          have hcs31 : cs.size = 31 := by omega
          have hinfo : (Try.prog.info? 57).map (·.size) = some cs.size := by rw [hcs31]; kernel_rfl
          have hone : ∀ v ∈ cs.toList, v.oneCell' = true := fun v hv => by
            obtain ⟨i, hi⟩ := List.getElem?_of_mem hv
            have hil := (List.getElem?_eq_some_iff.1 hi).1
            have := hget i (by simp at hil; omega)
            rw [Array.getElem?_toList] at hi
            rw [this] at hi
            simp only [Option.some.injEq] at hi
            subst hi; rfl
          have hone' : cs.all (·.oneCell') = true := Array.all_eq_true_iff_forall_mem.2 (fun v hv => hone v (by simpa using hv))
          have hld2 := run_loadVar_row (P := Try.prog) (wo.setRow w.heap.size cs) w.heap.size 57 57 cs (0, 0) _ (setRow_heap wo w.heap.size Z cs _ (0, 0) hz0) Try.underlying57 rfl hinfo
          have HB2 : Hid (Below w.heap.size w (wo.setRow w.heap.size cs)) := Lib.hid (below_setRow ((((Below.refl w.heap.size w).alloc (Nat.le_refl _) _).trans (hB.mono (by omega)))) (Nat.le_refl _) cs)
          have HGT := Lib.hid hget
          have HHH := Lib.hid (And.intro hcs (And.intro hz0 (And.intro hinfo hone')))
          clear hcs hcz hget hz0 hinfo hone hone' hR hid hbf hr30 hB HR1 HB1
          go_upto_region 25 with fail
          refine wp_region_lit ?_
          refine wpList_load_row rfl 57 (.tmp 5) rfl (w.heap.size + 1) rfl 57 cs (0, 0) _ HHH.out.1 Try.underlying57 rfl HHH.out.2.2.1 ?_
          refine wpList_store_row rfl 57 (.tmp 4) (.tmp 68) rfl w.heap.size cs rfl rfl 57 Z HHH.out.2.1 HHH.out.2.2.1 (by omega) HHH.out.2.2.2 ?_
          refine wpList_nil ?_
          go_wp2_with fail
          refine bodyPost_ret (v := .agg cs) ?_ rfl ⟨cs, D, rfl, hcs31, HGT.out, HD.out, HB2.out⟩
          exact results_cell1 Try.results27 _ rfl hld2
        · have hr := hr30 rfl
          have HBF := Lib.hid (hbf.out rfl)
          have HRO := hR
          have HBO := Lib.hid hB
          clear hr30 hbf hid hR hB HR1 HB1
          go_wp2_with fail
          go_loopw [7, 26] (fun a i wx => ∃ (q : Nat) (E : Int → Int) (ch : Bool), q ≤ 31 ∧ i = .int .i64 q ∧ a = .bool ch ∧ Hid (BfsIn st T r D E q) ∧ Hid (wx.rowIs (w.heap.size + 1) 57 31 (colC E)) ∧ Hid (ch = false → ∀ c, 0 ≤ c → c < (q : Int) → c ≤ 30 → D c = -1 → E c = -1) ∧ Hid (ch = true → ∃ c, 0 ≤ c ∧ c ≤ 30 ∧ D c = -1) ∧ Below (w.heap.size + 1) (w.alloc (.cells Z 57)) wx) (fun _ i _ => 31 - (intOf i).toNat)
          case atStart => exact ⟨0, D, false, by omega, rfl, rfl, Lib.hid (BfsIn.start HBF.out), HRO, Lib.hid (fun _ c h0 h1 => by omega), Lib.hid (fun h => by cases h), HBO.out⟩
          case round =>
            obtain ⟨q, E, ch, hq, rfl, rfl, hin, hR, hch0, hch1, hB⟩ := hrel
            rename World => wi
            have hb2 := hR.out.lt
            by_cases hlt : q < 31
            · have hrest := hin.out.rest q (Int.le_refl _) (by omega)
              have hlow := HBF.out.low q (by omega) (by omega)
              have r0 : wi.cell? ⟨w.heap.size + 1, q, none⟩ = some (.int .i64 (E q)) := hR.out.cell hlt
              have i1 : (q : Int) < 31 := by omega
              have HIN := hin
              have HCH0 := hch0
              have HCH1 := hch1
              have HBI := Lib.hid hB
              have HRI := hR
              obtain ⟨y, hy⟩ : ∃ y, E q = y := ⟨_, rfl⟩
              rw [hy] at r0
              rw [← hrest, hy] at hlow
              have HY := Lib.hid hy
              have HYD : Hid (D q = y) := Lib.hid (by rw [← hrest, hy])
              clear hrest hy hin hch0 hch1 hR
              by_cases hpos : 0 ≤ y
              · have hn1 : y ≠ -1 := by omega
                clear hlow
                go_wp2_with fail
                go_roundw
                case rel => exact ⟨q + 1, E, ch, by omega, by go_num, rfl, Lib.hid (by rw [show ((q + 1 : Nat) : Int) = (q : Int) + 1 by omega]; exact HIN.out.skip (by omega) (by omega) (by rw [HY.out]; exact hn1)), HRI, Lib.hid (fun h c h0 h1 h2 h3 => by
                  rcases Int.lt_or_le c q with h4 | h4
                  · exact HCH0.out h c h0 h4 h2 h3
                  · obtain rfl : c = q := by omega
                    rw [HYD.out] at h3
                    exact absurd h3 hn1), HCH1, HBI.out⟩
                case measure => simp [intOf]; omega
              · obtain rfl : y = -1 := by omega
                clear hlow hpos
                have kc := Lib.run_convert_bytes_const (P := Try.prog) wi 22 5 #[.int .u8 35, .int .u8 60, .int .u8 62] 3 3 Try.underlying22 Try.underlying5
                go_wp2_with fail
                go_loopw [36] (fun i wx => ∃ (j : Nat) (hit : Bool), j ≤ 3 ∧ i = .int .i64 j ∧ Hid (HitB st D q r j hit) ∧ Hid (wx.rowIs (w.heap.size + 1) 57 31 (colC (updH hit r q E))) ∧ wx.heap[wi.heap.size]? = some (.cells bytes3 5 (3, 4)) ∧ Below (w.heap.size + 1) (w.alloc (.cells Z 57)) wx ∧ wi.heap.size < wx.heap.size) (fun i _ => 3 - (intOf i).toNat)
                case atStart => exact ⟨0, false, by omega, rfl, Lib.hid (HitB.zero _ _ _ _), Lib.hid (HRI.out.alloc _), Array.getElem?_push_size (xs := wi.heap) (x := .cells bytes3 5 (3, 4)), HBI.out.alloc (by omega) _, by simp⟩
                case round =>
                  obtain ⟨j, hit, hj, rfl, hhit, hR, hbl, hB, hgt⟩ := hrel
                  rename World => wj
                  have hbj := hR.out.lt
                  have HHIT := hhit
                  have HRJ := hR
                  have HBJ := Lib.hid hB
                  have HBL := Lib.hid hbl
                  clear hhit hR
                  by_cases hlt3 : j < 3
                  · have b0 : wj.cell? ⟨wi.heap.size, j, none⟩ = some (.int .u8 (b3 j)) := by simp only [World.cell?, hbl]; exact bytes3_at j hlt3
                    have i3 : (j : Int) < 3 := by omega
                    have HAJ := Lib.hid (HA.out.later ((((Below.refl w.heap.size w).alloc (Nat.le_refl _) _).trans (HBJ.out.mono (by omega)))))
                    have C1 := CM.out (q : Int) j hlt3 (by omega) (by omega) wj HAJ.out
                    have HC1 := Lib.hid C1
                    clear hbl kc C1
                    go_wp2_with fail
                    refine HC1.out.mono ?_
                    rintro r_ w' ⟨v, ok, hm, rfl, rfl⟩
                    cases ok
                    · have HHN := Lib.hid (HHIT.out.miss (fun x hx => by rw [hm] at hx; simp at hx))
                      clear hm
                      go_wp2_with fail
                      go_roundw
                      case rel => first | exact ⟨j + 1, hit, by omega, by go_num, HHN, HRJ, HBL.out, HBJ.out, hgt⟩ | ((repeat apply Exists.intro); exact ⟨⟨j + 1, hit, by omega, by go_num, HHN, HRJ, HBL.out, HBJ.out, hgt⟩, rfl⟩)
                      case measure => simp [intOf]; omega
                    · have hm2 : mvC st q j = some v := by rw [hm]; rfl
                      have hvi := mv_in HS.out.2.1 (by omega) (by omega) hm2
                      have hvn := mv_ne hm2
                      obtain ⟨x, rfl⟩ : ∃ x : Nat, v = x := ⟨v.toNat, by omega⟩
                      have hx31 : x < 31 := by omega
                      have r1 : wj.cell? ⟨w.heap.size + 1, x, none⟩ = some (.int .i64 (updH hit r q E x)) := HRJ.out.cell hx31
                      rw [updH_ne hvn] at r1
                      have heq := HIN.out.eq_r HBF.out (by omega) (c := x) (by omega) (by omega)
                      obtain ⟨z, hz⟩ : ∃ z, E x = z := ⟨_, rfl⟩
                      rw [hz] at r1 heq
                      have i4 : (x : Int) < 31 := by omega
                      have HM := Lib.hid hm2
                      have HZQ := Lib.hid heq
                      have f1 := HRJ.out.frozen q
                      obtain ⟨y1, hy1⟩ : ∃ y1, updH hit r q E q = y1 := ⟨_, rfl⟩
                      have r2 : wj.cell? ⟨w.heap.size + 1, q, none⟩ = some (.int .i64 y1) := by rw [← hy1]; exact HRJ.out.cell hlt
                      clear hm hm2 hz heq hvn hvi hy1
                      by_cases hzr : z = (r : Int)
                      · have t1 : (z == (r : Int)) = true := by simp [hzr]
                        have HHN := Lib.hid (HitB.hit HM.out (HZQ.out.1 hzr))
                        have HRN := Lib.hid (col_set HRJ.out q ((r : Int) + 1))
                        have i5 : (r : Int) ≤ 31 := by omega
                        have HBN := Lib.hid (HBJ.out.setCell (show w.heap.size + 1 ≤ (⟨w.heap.size + 1, q, none⟩ : Addr).block from Nat.le_refl _) (.int .i64 ((r : Int) + 1)))
                        clear hzr
                        go_wp2_with fail
                        go_roundw
                        case rel => first | exact ⟨j + 1, true, by omega, by go_num, HHN, Lib.hid (by have h := HRN.out; rw [updH_set] at h; exact h), (Below.heap_setCell wj ⟨w.heap.size + 1, q, none⟩ (.int .i64 ((r : Int) + 1)) wi.heap.size (by show wi.heap.size ≠ w.heap.size + 1; omega)).trans HBL.out, HBN.out, (by simpa [World.setCell] using hgt)⟩ | ((repeat apply Exists.intro); exact ⟨⟨j + 1, true, by omega, by go_num, HHN, Lib.hid (by have h := HRN.out; rw [updH_set] at h; exact h), (Below.heap_setCell wj ⟨w.heap.size + 1, q, none⟩ (.int .i64 ((r : Int) + 1)) wi.heap.size (by show wi.heap.size ≠ w.heap.size + 1; omega)).trans HBL.out, HBN.out, (by simpa [World.setCell] using hgt)⟩, rfl⟩)
                        case measure => simp [intOf]; omega
                      · have t1 : (z == (r : Int)) = false := beq_eq_false_iff_ne.2 hzr
                        have HHN := Lib.hid (HHIT.out.miss (fun u hu => by rw [HM.out] at hu; simp only [Option.some.injEq] at hu; subst hu; exact fun e => hzr (HZQ.out.2 e)))
                        clear hzr
                        go_wp2_with fail
                        go_roundw
                        case rel => first | exact ⟨j + 1, hit, by omega, by go_num, HHN, HRJ, HBL.out, HBJ.out, hgt⟩ | ((repeat apply Exists.intro); exact ⟨⟨j + 1, hit, by omega, by go_num, HHN, HRJ, HBL.out, HBJ.out, hgt⟩, rfl⟩)
                        case measure => simp [intOf]; omega
                  · obtain rfl : j = 3 := by omega
                    clear kc
                    cases hit
                    · have r2 : wj.cell? ⟨w.heap.size + 1, q, none⟩ = some (.int .i64 (-1)) := by have h := HRJ.out.cell hlt; rw [h]; show some (Value.int .i64 (E q)) = _; rw [HY.out]
                      have HN := Lib.hid (HIN.out.miss (by omega) (by omega) HY.out (fun j x hj hm hx => by have := HHIT.out.2 ⟨j, x, hj, hm, hx⟩; cases this))
                      clear hbl
                      cases ch
                      all_goals
                        go_wp2_with fail
                        go_roundw
                        case rel => exact ⟨q + 1, E, _, by omega, by go_num, rfl, Lib.hid (by rw [show ((q + 1 : Nat) : Int) = (q : Int) + 1 by omega]; exact HN.out), HRJ, Lib.hid (fun h c h0 h1 h2 h3 => by
                          rcases Int.lt_or_le c q with h4 | h4
                          · exact HCH0.out h c h0 h4 h2 h3
                          · obtain rfl : c = q := by omega
                            exact HY.out), HCH1, HBJ.out⟩
                        case measure => simp [intOf]; omega
                    · obtain ⟨i, x, hi, hm, hx⟩ := HHIT.out.1 rfl
                      have r2 : wj.cell? ⟨w.heap.size + 1, q, none⟩ = some (.int .i64 ((r : Int) + 1)) := by have h := HRJ.out.cell hlt; rw [h]; show some (Value.int .i64 (if (q : Int) = q then (r : Int) + 1 else E q)) = _; rw [if_pos rfl]
                      have HN := Lib.hid (HIN.out.hit (by omega) (by omega) HY.out hi hm hx)
                      have t1 : decide (0 ≤ (r : Int) + 1) = true := decide_eq_true (by omega)
                      have i5 : (0 : Int) ≤ (r : Int) + 1 := by omega
                      clear hbl hm hx hi
                      cases ch
                      all_goals
                        go_wp2_with fail
                        go_roundw
                        case rel => exact ⟨q + 1, updH true r q E, true, by omega, by go_num, rfl, Lib.hid (by rw [show ((q + 1 : Nat) : Int) = (q : Int) + 1 by omega]; exact HN.out), HRJ, Lib.hid (fun h => by cases h), Lib.hid (fun _ => ⟨q, by omega, by omega, HYD.out⟩), HBJ.out⟩
                        case measure => simp [intOf]; omega
            · obtain rfl : q = 31 := by omega
              have HIN2 : Hid (BfsIn st T r D E 31) := hin
              cases ch
              · have HDD := Lib.hid (HIN2.out.last HBF.out (by omega) (by omega) (by omega) HS.out.2.1 (fun c c0 c1 e => hch0.out rfl c c0 (by omega) c1 e))
                have HRI := hR
                clear hin hch0 hch1 hR
                go_wp2_with fail
                go_roundw
                case rel => exact ⟨r + 1, E, false, by omega, rfl, by go_num, HRI, (fun h => by cases h), Lib.hid (fun h => by cases h), Lib.hid (fun _ => HDD.out), hB⟩
                case measure => simp [intOf]; omega
              · obtain ⟨c, c0, c1, hc⟩ := hch1.out rfl
                have hfew := HBF.out.few (by omega) (by omega) c0 c1 hc
                have HNX := Lib.hid (HIN2.out.next HBF.out HS.out.2.1 (by omega) (by omega) (by omega))
                have HRI := hR
                clear hin hch0 hch1 hR hc
                go_wp2_with fail
                go_roundw
                case rel => exact ⟨r + 1, E, true, by omega, rfl, by go_num, HRI, fun _ => by omega, Lib.hid (fun _ => by rw [show ((r + 1 : Nat) : Int) = (r : Int) + 1 by omega]; exact HNX.out), Lib.hid (fun h => by cases h), hB⟩
                case measure => simp [intOf]; omega
end Go.Proofs.Ytgigdipbfcffiaa
