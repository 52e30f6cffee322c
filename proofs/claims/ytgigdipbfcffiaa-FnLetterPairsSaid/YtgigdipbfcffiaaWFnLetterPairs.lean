/- The walk of the law FnLetterPairs: it returns true, and what was there stays as it was. -/
import Derived.Test.YtgigdipbfcffiaaLp3
import Derived.Test.YtgigdipbfcffiaaLp4
namespace Go.Proofs.Ytgigdipbfcffiaa.fnLetterPairs
open Go.RowKit Go.BigFrame
attribute [local go_sem] sub_cell sub_frozen drewN_setCell

attribute [local go_sem] u8_eq u8_ne
theorem sb_pre (l : List UInt8) (k : Nat) : (sb l).extract 0 k = sb (l.take k) := by
  apply sb_ext
  rw [bl_sb]
  simp [bl, sb]
/-- The first k rows' sum. -/
def parts (F : Nat → Nat → Int) : Nat → Int
  | 0 => 0
  | k + 1 => parts F k + row4 F k
theorem parts4 (F : Nat → Nat → Int) : parts F 4 = sum4 F := by simp [parts, sum4]
theorem sum_row (F : Nat → Nat → Int) (i : Nat) : sumZ ((List.range 4).map (F i)) = row4 F i := by
  simp [sumZ, row4, List.range_succ]
theorem lay_split {L T : List UInt8} {e : UInt8} (h : LayOk L) (he : L[4]? = some e) (hT : ∀ c ∈ T, c ∈ L) : (L.take 4).Nodup ∧ (∀ c ∈ L.take 4, 32 ≤ c.toNat ∧ c.toNat ≤ 126) ∧ ∀ c ∈ T, (c ∈ (L.take 4).reverse ↔ c ≠ e) := by
  obtain ⟨h5, hn, hb⟩ := h
  have hs : L = L.take 4 ++ [e] := by
    obtain ⟨h1, h2⟩ := List.getElem?_eq_some_iff.1 he
    conv => lhs; rw [← List.take_append_drop 4 L]
    rw [List.drop_eq_getElem_cons h1, h2, List.drop_eq_nil_of_le (by omega)]
  have hn2 : (L.take 4 ++ [e]).Nodup := by rw [← hs]; exact hn
  rw [List.nodup_append] at hn2
  refine ⟨hn2.1, fun c hc => hb c (List.mem_of_mem_take hc), fun c hc => ?_⟩
  have hcL := hT c hc
  rw [List.mem_reverse]
  constructor
  · intro hm e2
    exact hn2.2.2 c hm e (by simp) e2
  · intro hne
    rw [hs] at hcL
    rcases List.mem_append.1 hcL with h | h
    · exact h
    · exact absurd (List.mem_singleton.1 h) hne

set_option maxRecDepth 100000 in
set_option maxHeartbeats 16000000 in
theorem walk (A0 : Option Addr) (n0 c0 : Nat) (w : World) (w0 : InB w A0 n0) :
    Calls Try.prog 4 #[.slice A0 n0 c0] w fun e w' => e = .returned (.bool true) ∧ Below w.heap.size w w' := by
  obtain ⟨hb0, hn0⟩ := w0
  have HA0 := Lib.hid hb0
  clear hb0
  by_cases hl : (decide (3000 < n0) || decide (3000 < 0)) = true
  · have HL := Lib.hid hl
    clear hl
    go_enter Try.func4, Try.ntmps4
    go_wp2_with (go_at_call 6; refine (c_a2Long _ _ _ _ _ _ true _ HL.out).mono ?_; rintro r_ w1 ⟨rfl, rfl⟩)
    go_returns
    exact ⟨rfl, by (repeat' (first | (with_reducible exact Below.refl _ _) | (with_reducible assumption) | (with_reducible refine below_drewN ?_ _) | (with_reducible refine Below.drew ?_) | (with_reducible refine Below.alloc ?_ ?_ _) | (with_reducible refine Below.setCell ?_ ?_ _) | go_size))⟩
  · have hl2 : (decide (3000 < n0) || decide (3000 < 0)) = false := by simpa using hl
    have HL := Lib.hid hl2
    have e0 : n0 ≤ 3000 := by simp at hl; omega
    clear hl hl2
    go_enter Try.func4, Try.ntmps4
    go_wp2_with (go_at_call 6; refine (c_a2Long _ _ _ _ _ _ false _ HL.out).mono ?_; rintro r_ w1 ⟨rfl, rfl⟩)
    refine (c_A2Layout A0 n0 c0 _ HA0.out (by omega)).mono ?_
    rintro r_ w1 ⟨L, TL, rfl, hLay, hT19, hTL, hb1⟩
    have h5 := hLay.1
    obtain ⟨e, he⟩ : ∃ e, L[4]? = some e := ⟨_, List.getElem?_eq_getElem (by omega)⟩
    obtain ⟨s1, s2, s3⟩ := lay_split hLay he hTL
    have hx := sb_pre L 4
    obtain ⟨M, hM⟩ : ∃ M, sb (L.take 4) = M := ⟨_, rfl⟩
    obtain ⟨S, hS⟩ : ∃ S, sb L = S := ⟨_, rfl⟩
    obtain ⟨T, hT⟩ : ∃ T, sb TL = T := ⟨_, rfl⟩
    rw [hM, hS] at hx
    rw [hS, hT]
    have hS5 : S.size = 5 := by rw [← hS, sb_size]; exact h5
    have hM4 : M.size = 4 := by rw [← hM, sb_size, List.length_take]; omega
    have hbM : bl M = L.take 4 := by rw [← hM, bl_sb]
    have hbT : bl T = TL := by rw [← hT, bl_sb]
    have hTs : T.size ≤ 19 := by rw [← bl_len, hbT]; exact hT19
    have hse : S[4]'(by omega) = e := by
      have h1 := bl_get S 4 (by omega)
      have h2 : bl S = L := by rw [← hS, bl_sb]
      rw [h2, he] at h1
      simp only [Option.some.injEq] at h1
      exact h1.symm
    rw [← hbM] at s1 s2 s3
    rw [← hbT] at s3
    have HB1 := Lib.hid hb1
    have HCNT := Lib.hid (fun k hk => sum_cnt (S := (bl M).reverse) (T := bl T) (e := e) (by rw [List.length_reverse, bl_len, hM4]) s3 k hk)
    have CPO := Lib.hid (fun w => c_PairsOf M T w hM4 s1 s2 hTs)
    have HSE := Lib.hid hse
    clear hLay hT19 hTL hb1 h5 he s1 s2 s3 hM hS hT hbM hbT
    generalize (bl M).reverse = R at *
    go_wp2_with fail
    refine (CPO.out _).mono ?_
    rintro r_ w2 ⟨G, rfl, hMat, hb2⟩
    have HB2 := Lib.hid (HB1.out.trans (hb2.mono HB1.out.size))
    have hbd := pF_bd R (bl T) ((bl T).length - 1)
    have HPF := Lib.hid (HCNT.out ((bl T).length - 1) (by omega))
    have hbl := bl_len T
    have hbd2 : ∀ i j, 0 ≤ pF R (bl T) ((bl T).length - 1) i j ∧ pF R (bl T) ((bl T).length - 1) i j ≤ 1000 := fun i j => by have := hbd i j; omega
    have HW := Lib.hid (cntW_bd (bl T) e)
    generalize pF R (bl T) ((bl T).length - 1) = F at *
    have HBD := Lib.hid hbd2
    have CV := Lib.hid (c_ValidPairs G 4 F w2 hMat hbd2)
    have HMAT := Lib.hid hMat
    have hGl := hMat.lt
    clear hMat hbd hbd2 hb2
    go_wp2_with (go_at_call 14; refine CV.out.mono ?_; rintro r_ w' ⟨rfl, rfl⟩)
    go_loopw [7, 8] (fun v i wr => ∃ (k : Nat) (z : Int), k ≤ 4 ∧ i = .int .i64 k ∧ v = .int .i64 z ∧ 0 ≤ z ∧ z ≤ 4000 * k ∧ Hid (parts F k = z) ∧ w2 = wr) (fun _ i _ => 4 - (intOf i).toNat)
    case atStart => exact ⟨0, 0, by omega, rfl, rfl, by omega, by omega, Lib.hid rfl, rfl⟩
    case round =>
      obtain ⟨k, z, hk, rfl, rfl, z0, z1, hp, rfl⟩ := hrel
      by_cases hlt : k < 4
      · obtain ⟨r, e1, h1, h2, h3, h4⟩ := HMAT.out.row hlt
        have hZ := z_row (F := F k) h2 h3
        have CS := Lib.hid (c_a2Sum (some ⟨r, 0, none⟩) 4 4 _ w2 hZ (by omega) (fun x hx => by
          obtain ⟨j, _, rfl⟩ := List.mem_map.1 hx
          exact HBD.out k j))
        rw [sum_row] at CS
        have hr0 : 0 ≤ row4 F k ∧ row4 F k ≤ 4000 := by
          have a0 := HBD.out k 0
          have a1 := HBD.out k 1
          have a2 := HBD.out k 2
          have a3 := HBD.out k 3
          unfold row4
          omega
        have HNX : Hid (parts F (k + 1) = z + row4 F k) := Lib.hid (by show _ = _; rw [parts, hp.out])
        obtain ⟨r0, r1⟩ := hr0
        have i1 : (k : Int) < 4 := by omega
        generalize row4 F k = rw at *
        clear h3 h4 hZ hp
        go_wp2_with (go_at_call 15; refine CS.out.mono ?_; rintro r_ w' ⟨rfl, rfl⟩)
        go_roundw
        case rel => exact ⟨k + 1, z + rw, by omega, by go_num, by go_num, by omega, by omega, HNX, by trivial⟩
        case measure => simp [intOf]; omega
      · obtain rfl : k = 4 := by omega
        have HSUM : Hid (sum4 F = z) := Lib.hid (by rw [← parts4]; exact hp.out)
        clear hp
        go_wp2_with fail
        go_loopw [9, 10] (fun v i wr => ∃ (k : Nat) (y : Int), (k + 1 ≤ T.size ∨ k = 0) ∧ i = .int .i64 ((k : Int) + 1) ∧ v = .int .i64 y ∧ Hid (cntW (bl T) e k = y) ∧ Below w2.heap.size w2 wr) (fun _ i _ => T.size + 1 - (intOf i).toNat)
        case atStart => exact ⟨0, 0, .inr rfl, rfl, rfl, Lib.hid rfl, Below.refl _ _⟩
        case round =>
          obtain ⟨k, y, hk, rfl, rfl, hy, hB⟩ := hrel
          rename World => wr
          have hsz := hB.size
          have hyb := HW.out k
          rw [hy.out] at hyb
          by_cases hlt3 : k + 1 < T.size
          · have hkT : k < T.size := by omega
            have j1 : (k : Int) + 1 < T.size := by omega
            have j2 : (k : Int) < T.size := by omega
            have j0 : (0 : Int) ≤ (k : Int) := by omega
            have j3 : (0 : Int) ≤ (k : Int) + 1 := by omega
            have j4 : (4 : Int) < S.size := by omega
            have ga := bl_get T k hkT
            have gb := bl_get T (k + 1) hlt3
            have HY := hy
            by_cases ha : T[k + 1] = e
            · have t1 : (T[k + 1] == e) = true := by rw [ha]; simp
              have HN := Lib.hid (cntW_miss ga gb (fun hc => hc.1 ha))
              clear ga gb ha hy
              go_wp2_with fail
              refine wp_region_below (by kernel_rfl) (by kernel_rfl) ?_
              repeat (go_big_quiet_step (fail))
              refine wpQuiet_nil ?_
              intro _ hw'
              obtain ⟨⟨w9, hb9⟩, hw''⟩ := hw'
              subst hw''
              have HB9 := Lib.hid (hB.trans (hb9.mono hsz))
              clear hb9
              go_wp2_with fail
              go_roundw
              case rel => first | exact ⟨k + 1, y, .inl (by omega), by go_num, rfl, Lib.hid (HN.out.trans HY.out), HB9.out⟩ | ((repeat apply Exists.intro); exact ⟨⟨k + 1, y, .inl (by omega), by go_num, rfl, Lib.hid (HN.out.trans HY.out), HB9.out⟩, rfl⟩)
              case measure => simp [intOf]; omega
            · have t1 : (T[k + 1] == e) = false := by exact beq_eq_false_iff_ne.2 ha
              by_cases hb : T[k] = e
              · have t2 : (T[k] == e) = true := by rw [hb]; simp
                have HN := Lib.hid (cntW_miss ga gb (fun hc => hc.2 hb))
                clear ga gb ha hb hy
                go_wp2_with fail
                refine wp_region_below (by kernel_rfl) (by kernel_rfl) ?_
                repeat (go_big_quiet_step (fail))
                refine wpQuiet_nil ?_
                intro _ hw'
                obtain ⟨⟨w9, hb9⟩, hw''⟩ := hw'
                subst hw''
                have HB9 := Lib.hid (hB.trans (hb9.mono hsz))
                clear hb9
                go_wp2_with fail
                go_roundw
                case rel => first | exact ⟨k + 1, y, .inl (by omega), by go_num, rfl, Lib.hid (HN.out.trans HY.out), HB9.out⟩ | ((repeat apply Exists.intro); exact ⟨⟨k + 1, y, .inl (by omega), by go_num, rfl, Lib.hid (HN.out.trans HY.out), HB9.out⟩, rfl⟩)
                case measure => simp [intOf]; omega
              · have t2 : (T[k] == e) = false := by exact beq_eq_false_iff_ne.2 hb
                have HN := Lib.hid (cntW_hit ga gb ha hb)
                clear ga gb ha hb hy
                go_wp2_with fail
                refine wp_region_below (by kernel_rfl) (by kernel_rfl) ?_
                repeat (go_big_quiet_step (fail))
                refine wpQuiet_nil ?_
                intro _ hw'
                obtain ⟨⟨w9, hb9⟩, hw''⟩ := hw'
                subst hw''
                have HB9 := Lib.hid (hB.trans (hb9.mono hsz))
                clear hb9
                go_wp2_with fail
                go_roundw
                case rel => first | exact ⟨k + 1, y + 1, .inl (by omega), by go_num, by go_num, Lib.hid (HN.out.trans (by rw [HY.out])), HB9.out⟩ | ((repeat apply Exists.intro); exact ⟨⟨k + 1, y + 1, .inl (by omega), by go_num, by go_num, Lib.hid (HN.out.trans (by rw [HY.out])), HB9.out⟩, rfl⟩)
                case measure => simp [intOf]; omega
          · have j1 : ¬ (k : Int) + 1 < T.size := by omega
            have hkk : k = (bl T).length - 1 := by omega
            have hzy : (z == y) = true := by rw [← hy.out, ← HSUM.out, HPF.out, hkk]; simp
            have HFB := Lib.hid (HB2.out.trans (hB.mono HB2.out.size))
            clear hB hy
            go_wp2_with fail
            go_returns
            exact ⟨by simp [*], HFB.out⟩
end Go.Proofs.Ytgigdipbfcffiaa.fnLetterPairs
