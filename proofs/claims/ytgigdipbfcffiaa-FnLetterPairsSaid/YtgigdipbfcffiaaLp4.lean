/- Contracts: the table of pairs of a text (the program), its validity (the reference), sums. -/
import Derived.Test.YtgigdipbfcffiaaLp2
import Derived.Test.YtgigdipbfcffiaaBt
import Derived.Test.YtgigdipbfcffiaaTx
import Derived.Carry
namespace Go.Proofs.Ytgigdipbfcffiaa
open Go.RowKit Go.BigFrame
attribute [local go_sem] sub_cell sub_frozen drewN_setCell

theorem info_intsL : (Try.prog.info? 24).map (fun i => (i.zero, i.size, i.bytes)) = some (some (.slice none 0 0), 1, 24) := by kernel_rfl
/-- What PairsOf leaves. -/
def PairsP (S T : List UInt8) (w : World) (e : Ending) (w' : World) : Prop :=
  ∃ G, e = .returned (.tuple #[.slice (some ⟨G, 0, none⟩) 4 4, .int .i64 0]) ∧ Mat 24 2 w' G 4 4 (pF S T (T.length - 1)) ∧ Below w.heap.size w w'
theorem mem_rev_take {l : List UInt8} {k : Nat} {c : UInt8} (hn : l.Nodup) (hk : l[k]? = some c) : c ∉ (l.take k).reverse := by
  rw [List.mem_reverse]
  intro hm
  obtain ⟨i, hi⟩ := List.getElem?_of_mem hm
  rw [List.getElem?_take] at hi
  split at hi
  · obtain ⟨h1, h2⟩ := List.getElem?_eq_some_iff.1 hi
    obtain ⟨h3, h4⟩ := List.getElem?_eq_some_iff.1 hk
    exact (List.pairwise_iff_getElem.1 hn) i k h1 h3 (by assumption) (by rw [h2, h4])
  · cases hi
set_option maxRecDepth 100000 in
set_option maxHeartbeats 16000000 in
theorem c_PairsOf (M T : ByteArray) (w : World) (hM : M.size = 4) (hn : (bl M).Nodup) (hb : ∀ c ∈ bl M, 32 ≤ c.toNat ∧ c.toNat ≤ 126) (hT : T.size ≤ 19) :
    Calls Try.prog 13 #[.string M, .string T] w (PairsP (bl M).reverse (bl T) w) := by
  have CT := Lib.hid (fun w => c_isText M 32 7 true (by
    simp only [textB, Bool.and_eq_true, decide_eq_true_eq, List.all_eq_true]
    refine ⟨by rw [bl_len, hM]; decide, fun c hc => ?_⟩
    have := hb c hc
    simp [okB]
    exact ⟨by have := this.1; exact this, this.2⟩) w (by rw [hM]; simp [maxLen]))
  have HN := Lib.hid hn
  have z0 : ∀ w : World, (zeroValue 3).run Try.prog w = .ok (.int .i64 0) w := fun _ => by kernel_rfl
  have Z0 := Lib.hid z0
  have hmk1 : ∀ V : World, (Instr.makeSlice 34 (.int .i64 4) (.int .i64 4)).run Try.prog V = .ok (.slice (some ⟨V.heap.size, 0, none⟩) 4 4) (V.alloc (.cells (madeCells (Value.cells (.slice none 0 0)) 4) 24)) := fun V => run_make_any (P := Try.prog) 34 24 _ 1 24 Try.underlying34 info_intsL .i64 .i64 4 (by omega) (by omega) V
  have hmk2 : ∀ V : World, (Instr.makeSlice 24 (.int .i64 4) (.int .i64 4)).run Try.prog V = .ok (.slice (some ⟨V.heap.size, 0, none⟩) 4 4) (V.alloc (.cells (madeCells (Value.cells (.int .i64 0)) 4) 2)) := fun V => run_make_any (P := Try.prog) 24 2 _ 1 8 Try.underlying24 info_int64 .i64 .i64 4 (by omega) (by omega) V
  have KEYED : Maps.Keyed Try.prog 5 := Maps.int_keyed Try.underlying5
  have HMK := Lib.hid (And.intro hmk1 hmk2)
  have hmm := @run_makeMap Try.prog
  have ht0 : ¬ (4000 : Int) < (T.size : Int) := by omega
  have ht1 : decide ((4000 : Int) < (T.size : Int)) = false := decide_eq_false ht0
  have HS4 : Hid ((bl M).reverse.length = 4) := Lib.hid (by rw [List.length_reverse, bl_len, hM])
  clear hn hb z0 hmk1 hmk2
  go_enter Try.func13, Try.ntmps13
  go_wp2_with (go_at_call 30; refine (CT.out _).mono ?_; rintro r_ w' ⟨rfl, rfl⟩)
  go_loopw [33] (fun i wr => ∃ k : Nat, k ≤ 4 ∧ i = .int .i64 k ∧ Hid (IxMap Try.prog 5 3 kB wr w.heap.size ((bl M).take k).reverse) ∧ Below w.heap.size w wr) (fun i _ => 4 - (intOf i).toNat)
  case atStart => exact ⟨0, by omega, rfl, Lib.hid (IxMap.made w), by (repeat' (first | (with_reducible exact Below.refl _ _) | (with_reducible assumption) | (with_reducible refine below_drewN ?_ _) | (with_reducible refine Below.drew ?_) | (with_reducible refine Below.alloc ?_ ?_ _) | (with_reducible refine Below.setCell ?_ ?_ _) | go_size))⟩
  case round =>
    obtain ⟨k, hk, rfl, hI, hB⟩ := hrel
    rename World => wr
    have hz := hB.size
    have HB := Lib.hid hB
    have HI := hI
    clear hI hB
    by_cases hlt : k < 4
    · have hltM : k < M.size := by omega
      have hgk := bl_get M k hltM
      have hnm := mem_rev_take HN.out hgk
      have hlk := HI.out.look (t := 62) kB_inj kB_key KEYED Try.underlying62 Try.underlying3 (Z0.out wr) (kB_of Try.underlying5 M[k]) (decide_eq_false hnm)
      have hlen : ((bl M).take k).reverse.length = k := by rw [List.length_reverse, List.length_take, bl_len]; omega
      generalize posR ((bl M).take k).reverse M[k] = ps at *
      have HNX : Hid (((bl M).take (k + 1)).reverse = M[k] :: ((bl M).take k).reverse) := Lib.hid (by show _ = _; rw [List.take_add_one, hgk]; simp)
      have HLEN := Lib.hid hlen
      have i1 : (k : Int) < 4 := by omega
      clear hgk hnm
      go_wp2_with (at_mapUpdate; refine wpList_ixMap _ rfl _ _ _ 62 rfl 5 3 KEYED Try.underlying62 Try.underlying3 w.heap.size _ rfl HI.out (by rw [HLEN.out]; simp only [maxLen]; omega) _ M[k] rfl (kB_of Try.underlying5 M[k]) (by rw [HLEN.out]; rfl) ?_; intro w1 hI1 hg1; have HI1 := Lib.hid hI1; have HB1 := Lib.hid (below_mapI HB.out hg1 (Nat.le_refl _) hz); clear hI1 hg1)
      go_roundw
      case rel => exact ⟨k + 1, by omega, by go_num, Lib.hid (by rw [HNX.out]; exact HI1.out), HB1.out⟩
      case measure => simp [intOf]; omega
    · obtain rfl : k = 4 := by omega
      have HI4 : Hid (IxMap Try.prog 5 3 kB wr w.heap.size (bl M).reverse) := Lib.hid (by have h := HI.out; rw [List.take_of_length_le (by rw [bl_len]; omega)] at h; exact h)
      have hgtw : w.heap.size < wr.heap.size := HI4.out.lt
      have hmk1 := HMK.out.1 wr
      generalize (bl M).reverse = S at *
      go_wp2_with fail
      clear hmk1
      go_loopw [56] (fun i wx => ∃ p : Nat, p ≤ 4 ∧ i = .int .i64 p ∧ Hid (MatP 24 2 wx wr.heap.size 4 4 p) ∧ Below wr.heap.size wr wx) (fun i _ => 4 - (intOf i).toNat)
      case atStart => exact ⟨0, by omega, rfl, Lib.hid MatP.start, by (repeat' (first | (with_reducible exact Below.refl _ _) | (with_reducible assumption) | (with_reducible refine below_drewN ?_ _) | (with_reducible refine Below.drew ?_) | (with_reducible refine Below.alloc ?_ ?_ _) | (with_reducible refine Below.setCell ?_ ?_ _) | go_size))⟩
      case round =>
        obtain ⟨p, hp, rfl, hMP, hB2⟩ := hrel
        rename World => wi
        have hz2 := hB2.size
        by_cases hlt2 : p < 4
        · obtain ⟨v0, hv0⟩ := hMP.out.old hlt2
          have f0 := hMP.out.frozen p
          have hG := hMP.out.lt
          have i2 : (p : Int) < 4 := by omega
          have hmk2 := HMK.out.2
          have HMP := hMP
          clear hMP
          go_wp2_with fail
          go_roundw
          case rel => exact ⟨p + 1, by omega, by go_num, Lib.hid HMP.out.add, by (repeat' (first | (with_reducible exact Below.refl _ _) | (with_reducible assumption) | (with_reducible refine below_drewN ?_ _) | (with_reducible refine Below.drew ?_) | (with_reducible refine Below.alloc ?_ ?_ _) | (with_reducible refine Below.setCell ?_ ?_ _) | go_size))⟩
          case measure => simp [intOf]; omega
        · obtain rfl : p = 4 := by omega
          have HM0 := Lib.hid hMP.out.done
          have HB3 := Lib.hid hB2
          clear hMP hB2
          go_wp2_with fail
          go_loopw [12] (fun i wx => ∃ k : Nat, (k + 1 ≤ T.size ∨ k = 0) ∧ i = .int .i64 ((k : Int) + 1) ∧ Hid (Mat 24 2 wx wr.heap.size 4 4 (pF S (bl T) k)) ∧ Below wr.heap.size wr wx) (fun i _ => T.size + 1 - (intOf i).toNat)
          case atStart => exact ⟨0, .inr rfl, rfl, HM0, HB3.out⟩
          case round =>
            obtain ⟨k, hk, rfl, hMt, hB4⟩ := hrel
            rename World => wj
            have hz4 := hB4.size
            have hql : w.heap.size < wj.heap.size := by omega
            have HB4 := Lib.hid hB4
            have HMT := hMt
            have hGj := HMT.out.lt
            by_cases hlt3 : k + 1 < T.size
            · have hkT : k < T.size := by omega
              have j1 : (k : Int) + 1 < T.size := by omega
              have j2 : (k : Int) < T.size := by omega
              have j0 : (0 : Int) ≤ (k : Int) := by omega
              have ga := bl_get T k hkT
              have gb := bl_get T (k + 1) hlt3
              have HIJ := HI4.out.later hB4
              obtain ⟨f1, hf1⟩ : ∃ r, decide (T[k] ∈ S) = r := ⟨_, rfl⟩
              obtain ⟨f2, hf2⟩ : ∃ r, decide (T[k + 1] ∈ S) = r := ⟨_, rfl⟩
              have hl1 := HIJ.look (t := 62) kB_inj kB_key KEYED Try.underlying62 Try.underlying3 (Z0.out wj) (kB_of Try.underlying5 T[k]) hf1
              have hl2 := HIJ.look (t := 62) kB_inj kB_key KEYED Try.underlying62 Try.underlying3 (Z0.out wj) (kB_of Try.underlying5 T[k + 1]) hf2
              have HP1 := Lib.hid (fun (h : f1 = true) => posR_lt (of_decide_eq_true (hf1.trans h)))
              have HP2 := Lib.hid (fun (h : f2 = true) => posR_lt (of_decide_eq_true (hf2.trans h)))
              have HHIT := Lib.hid (fun (h1 : f1 = true) (h2 : f2 = true) => pF_hit ga gb (of_decide_eq_true (hf1.trans h1)) (of_decide_eq_true (hf2.trans h2)))
              have HMISS := Lib.hid (fun (h : ¬ (f1 = true ∧ f2 = true)) => pF_miss ga gb (fun hc => h ⟨hf1.symm.trans (decide_eq_true hc.1), hf2.symm.trans (decide_eq_true hc.2)⟩))
              obtain ⟨p1, hp1⟩ : ∃ p, posR S T[k] = p := ⟨_, rfl⟩
              obtain ⟨p2, hp2⟩ : ∃ p, posR S T[k + 1] = p := ⟨_, rfl⟩
              rw [hp1] at hl1 HP1
              rw [hp2] at hl2 HP2
              rw [hp1, hp2] at HHIT
              clear ga gb hf1 hf2 HIJ hMt hB4 hp1 hp2
              obtain ⟨r1, e1, hr1, hr2, hr3, hr4⟩ := HMT.out.row (j := if f1 then p1 else 0) (by cases f1 <;> simp; have := HP1.out rfl; have := HS4.out; omega)
              cases f1
              · have HN := Lib.hid (HMISS.out (by simp))
                clear hr3 hr4 e1 HMISS HHIT HP1 HP2
                go_wp2_with fail
                go_roundw
                case rel => first | exact ⟨k + 1, .inl (by omega), by go_num, Lib.hid (by rw [HN.out]; exact HMT.out), HB4.out⟩ | ((repeat apply Exists.intro); exact ⟨⟨k + 1, .inl (by omega), by go_num, Lib.hid (by rw [HN.out]; exact HMT.out), HB4.out⟩, rfl⟩)
                case measure => simp [intOf]; omega
              · cases f2
                · have HN := Lib.hid (HMISS.out (by simp))
                  clear hr3 hr4 e1 HMISS HHIT HP1 HP2
                  go_wp2_with fail
                  go_roundw
                  case rel => first | exact ⟨k + 1, .inl (by omega), by go_num, Lib.hid (by rw [HN.out]; exact HMT.out), HB4.out⟩ | ((repeat apply Exists.intro); exact ⟨⟨k + 1, .inl (by omega), by go_num, Lib.hid (by rw [HN.out]; exact HMT.out), HB4.out⟩, rfl⟩)
                  case measure => simp [intOf]; omega
                · have HN := Lib.hid (HHIT.out rfl rfl)
                  have b1 : p1 < 4 := by have := HP1.out rfl; have := HS4.out; omega
                  have b2 : p2 < 4 := by have := HP2.out rfl; have := HS4.out; omega
                  have q1 : (p1 : Int) < 4 := by omega
                  have q2 : (p2 : Int) < 4 := by omega
                  have q3 : (0 : Int) ≤ (p1 : Int) := by omega
                  have q4 : (0 : Int) ≤ (p2 : Int) := by omega
                  rw [if_pos rfl] at e1 hr3
                  have hv := hr3 p2 b2
                  have hbd := pF_bd S (bl T) k p1 p2
                  have hfz := hr4 p2
                  obtain ⟨v, hvv⟩ : ∃ v, pF S (bl T) k p1 p2 = v := ⟨_, rfl⟩
                  rw [hvv] at hv hbd
                  have hw : IntKind.i64.wrap (v + 1) = v + 1 := IntWalk.i64_in _ (by omega)
                  have hmin : min (v + 1) 1000 = v + 1 := Int.min_eq_left (by omega)
                  have hv1 : v + 1 < 1000 := by omega
                  have HVV := Lib.hid hvv
                  have HE1 := Lib.hid e1
                  clear hr3 hr4 HMISS HHIT HP1 HP2 hvv
                  go_wp2_with fail
                  refine wp_region_below_tail 15 (by kernel_rfl) (by kernel_rfl) ?_
                  simp only [List.take_succ_cons, List.take_zero, List.drop_succ_cons, List.drop_zero]
                  repeat (go_big_quiet_step (fail))
                  refine wpQuiet_nil ?_
                  intro _ hw'
                  obtain ⟨⟨w9, hb9⟩, hw''⟩ := hw'
                  subst hw''
                  rename World => wl
                  have c1 := (hb9.cell (p := ⟨wr.heap.size, p1, none⟩) hGj).trans HE1.out
                  have f9 := (hb9.frozen (p := ⟨r1, p2, none⟩) hr2).trans hfz
                  have v9 := (hb9.cell (p := ⟨r1, p2, none⟩) hr2).trans hv
                  have HM9 := Lib.hid ((HMT.out.later hb9).set (k := p2) (v := v + 1) c1 b1)
                  have HB9 := Lib.hid (((HB4.out.trans (hb9.mono hz4))).setCell (show wr.heap.size ≤ (⟨r1, p2, none⟩ : Addr).block by show wr.heap.size ≤ r1; omega) (.int .i64 (v + 1)))
                  clear hb9 c1
                  go_wp2_with fail
                  go_roundw
                  case rel => first | exact ⟨k + 1, .inl (by omega), by go_num, Lib.hid (by rw [HN.out, HVV.out]; exact HM9.out), HB9.out⟩ | ((repeat apply Exists.intro); exact ⟨⟨k + 1, .inl (by omega), by go_num, Lib.hid (by rw [HN.out, HVV.out]; exact HM9.out), HB9.out⟩, rfl⟩)
                  case measure => simp [intOf]; omega
            · have j1 : ¬ (k : Int) + 1 < T.size := by omega
              have hkk : k = (bl T).length - 1 := by rw [bl_len]; omega
              subst hkk
              clear hB4 hMt
              go_wp2_with fail
              go_returns
              exact ⟨wr.heap.size, rfl, HMT.out, HB.out.trans (HB4.out.mono hz)⟩
theorem z_row {w : World} {r m : Nat} {F : Nat → Int} (hr : r < w.heap.size) (h : ∀ k, k < m → w.cell? ⟨r, k, none⟩ = some (.int .i64 (F k))) : Zs w (some ⟨r, 0, none⟩) m ((List.range m).map F) := by
  refine ⟨by simp, ic_len, by rw [flat_ic]; simp, ?_⟩
  by_cases h0 : m = 0
  · exact .inl h0
  · refine .inr ⟨r, 0, rfl, hr, fun i v hv => ?_⟩
    rw [flat_ic] at hv
    simp only [List.map_map, List.getElem?_map, Option.map_eq_some_iff] at hv
    obtain ⟨j, hj, rfl⟩ := hv
    obtain ⟨h1, h2⟩ := List.getElem?_eq_some_iff.1 hj
    simp at h1 h2
    subst h2
    rw [Nat.zero_add]
    exact h i h1
def sumZ (l : List Int) : Int := l.foldl (· + ·) 0
theorem sumZ_step {l : List Int} {k : Nat} {x : Int} (h : l[k]? = some x) : sumZ (l.take (k + 1)) = sumZ (l.take k) + x := by
  rw [List.take_add_one, h]
  simp [sumZ, List.foldl_append]
set_option maxHeartbeats 1000000 in
theorem c_a2Sum (A : Option Addr) (n c : Nat) (l : List Int) (w : World) (ha : Zs w A n l) (hn : n ≤ 1000) (hb : ∀ x ∈ l, 0 ≤ x ∧ x ≤ 1000) :
    Calls Try.prog 15 #[.slice A n c] w fun e w' => e = .returned (.int .i64 (sumZ l)) ∧ w = w' := by
  have HB := Lib.hid hb
  have HL := Lib.hid ha.1
  clear hb
  go_enter Try.func15, Try.ntmps15
  go_wp2_with fail
  go_loop [3, 4] (fun v i => ∃ (k : Nat) (z : Int), k ≤ n ∧ i = .int .i64 k ∧ v = .int .i64 z ∧ 0 ≤ z ∧ z ≤ 1000 * k ∧ Hid (sumZ (l.take k) = z)) (fun _ i => n - (intOf i).toNat)
  case atStart => exact ⟨0, 0, Nat.zero_le _, rfl, rfl, by omega, by omega, Lib.hid rfl⟩
  case round =>
    obtain ⟨k, z, hk, rfl, rfl, z0, z1, hs⟩ := hrel
    by_cases hlt : k < n
    · obtain ⟨b, o, x, rfl, hb1, hb2, hx, c0⟩ := z_at ha (Below.refl _ _) hlt
      obtain ⟨x0, x1⟩ := HB.out x (List.mem_of_getElem? hx)
      have HS := Lib.hid ((sumZ_step hx).trans (by rw [hs.out]))
      clear hx hs ha
      go_wp2_with fail
      go_round
      case rel => exact ⟨k + 1, z + x, by omega, by go_num, by go_num, by omega, by omega, HS⟩
      case measure => simp [intOf]; omega
    · have hf : sumZ l = z := by have := hs.out; rwa [List.take_of_length_le (by have := HL.out; omega)] at this
      go_wp2_with fail
      go_ret
      exact ⟨by first | rfl | (rw [hf]; rfl), rfl⟩
theorem betw_inP {x a b : Int} (h1 : a ≤ x) (h2 : x ≤ b) : betw x a b = true := by simp [betw, h1, h2]
set_option maxHeartbeats 4000000 in
theorem c_l05Ok (G c : Nat) (F : Nat → Nat → Int) (w : World) (hM : Mat 24 2 w G 4 4 F) (hF : ∀ i j, 0 ≤ F i j ∧ F i j ≤ 1000) :
    Calls Try.prog 31 #[.slice (some ⟨G, 0, none⟩) 4 c] w fun e w' => e = .returned (.bool true) ∧ w = w' := by
  have HM := Lib.hid hM
  have HF := Lib.hid hF
  have hG := hM.lt
  have g4 : betw 4 2 7 = true := by decide
  clear hM hF
  go_enter Try.func31, Try.ntmps31
  go_wp2_with fail
  go_loop [4] (fun i => ∃ k : Nat, k ≤ 4 ∧ i = .int .i64 k) (fun i => 4 - (intOf i).toNat)
  case atStart => exact ⟨0, by omega, rfl⟩
  case round =>
    obtain ⟨k, hk, rfl⟩ := hrel
    by_cases hlt : k < 4
    · obtain ⟨r, e1, h1, h2, h3, h4⟩ := HM.out.row hlt
      have HR := Lib.hid h3
      have i1 : (k : Int) < 4 := by omega
      clear h3 h4
      go_wp2_with fail
      go_loop [5] (fun i => ∃ j : Nat, j ≤ 4 ∧ i = .int .i64 j) (fun i => 4 - (intOf i).toNat)
      case atStart => exact ⟨0, by omega, rfl⟩
      case round =>
        obtain ⟨j, hj, rfl⟩ := hrel
        by_cases hlt2 : j < 4
        · have c0 := HR.out j hlt2
          have g1 : betw (F k j) 0 1000 = true := betw_inP (HF.out k j).1 (HF.out k j).2
          have i2 : (j : Int) < 4 := by omega
          generalize F k j = v at *
          go_wp2_with (go_at_call 45; refine (c_l00In _ _ _ _ (by assumption) _).mono ?_; rintro r_ w1 ⟨rfl, rfl⟩)
          go_round
          case rel => exact ⟨j + 1, by omega, by go_num⟩
          case measure => simp [intOf]; omega
        · obtain rfl : j = 4 := by omega
          go_wp2_with fail
          go_round
          case rel => exact ⟨k + 1, by omega, by go_num⟩
          case measure => simp [intOf]; omega
    · obtain rfl : k = 4 := by omega
      go_wp2_with (go_at_call 45; refine (c_l00In _ _ _ _ (by assumption) _).mono ?_; rintro r_ w1 ⟨rfl, rfl⟩)
      go_ret
      exact ⟨rfl, rfl⟩
set_option maxHeartbeats 400000 in
theorem c_ValidPairs (G c : Nat) (F : Nat → Nat → Int) (w : World) (hM : Mat 24 2 w G 4 4 F) (hF : ∀ i j, 0 ≤ F i j ∧ F i j ≤ 1000) :
    Calls Try.prog 14 #[.slice (some ⟨G, 0, none⟩) 4 c] w fun e w' => e = .returned (.bool true) ∧ w = w' := by
  have C := Lib.hid (c_l05Ok G c F w hM hF)
  clear hM hF
  go_enter Try.func14, Try.ntmps14
  go_wp2_with (go_at_call 31; refine C.out.mono ?_; rintro r_ w1 ⟨rfl, rfl⟩)
  go_ret
  exact ⟨rfl, rfl⟩
end Go.Proofs.Ytgigdipbfcffiaa
