/- Contracts: the first lesson that needs itself. -/
import Derived.Test.YtajcdaclbammaaaCi1
import Derived.Test.YtajcdaclbammaaaQu
namespace Go.Proofs.Ytajcdaclbammaaa
open Go.RowKit Go.BigFrame
attribute [local go_sem] sub_cell sub_frozen drewN_setCell

noncomputable def cirN (l : List TLesson) : Int := firstI (selfB (needsL l)) l.length
noncomputable def cirV (l : List TLesson) : Int := if lesB l = true then cirN l else 0
noncomputable def cirC (l : List TLesson) : Int := if lesB l = true then 0 else 1
theorem allN_no {p : Nat → Bool} {k : Nat} (h : allN (fun i => !p i) k = true) (hk : p k = false) : allN (fun i => !p i) (k + 1) = true := allN_succ h (by rw [hk]; rfl)
set_option maxRecDepth 20000 in
set_option maxHeartbeats 4000000 in
theorem c_l18Circle (A : Option Addr) (n c : Nat) (l : List TLesson) (w : World) (ha : Ls w A n l) (hok : lesB l = true) :
    Calls Try.prog 31 #[.slice A n c] w fun r w' => r = .returned (.int .i64 (cirN l)) ∧ Below w.heap.size w w' := by
  have hl := ha.len
  subst hl
  have h12 := les_len hok
  have HA := Lib.hid ha
  have HOK := Lib.hid hok
  clear ha hok
  go_enter Try.func31, Try.ntmps31
  go_wp2_with fail
  go_loopw [3] (fun i wr => ∃ k : Nat, k ≤ l.length ∧ i = .int .i64 k ∧ Below w.heap.size w wr ∧ Hid (allN (fun i => !selfB (needsL l) i) k = true)) (fun i _ => l.length - (intOf i).toNat)
  case atStart => exact ⟨0, Nat.zero_le _, rfl, Below.refl _ _, rfl⟩
  case round =>
    obtain ⟨k, hk, rfl, hB, hno⟩ := hrel
    by_cases hlt : k < l.length
    · obtain ⟨b, o, nm, lt, S, cc, zz, hh, rfl, hb2, hx, hK⟩ := les_all HA.out hlt
      obtain ⟨hb1, c0, c1, c2, c3, hzz⟩ := hK _ hB
      have hN := needsL_at hx
      simp only at hN
      have hr := needs_rises HOK.out (k : Int)
      rw [hN] at hr
      have CA := Lib.hid (c_l18All _ _ _ c _ cc l zz _ (HA.out.later hB) hzz HOK.out (rises_nodup hr) (fun x hx => by have := rises_bd hr hx; omega))
      have HN := Lib.hid hN
      have hkI : (k : Int) < (l.length : Int) := by omega
      obtain ⟨s, hs⟩ : ∃ s, selfB (needsL l) k = s := ⟨_, rfl⟩
      have HS := Lib.hid hs
      have key : Hid (∀ zs, AllInv (needsL l) l.length zz zs zs.length → hasZ zs (k : Int) = s) := by
        intro zs hI
        rw [← hs, hasZ, Bool.eq_iff_iff, decide_eq_true_eq, selfB_iff, hI.end_, ← hN]
        constructor
        · rintro (h1 | ⟨y, hy, h1⟩)
          · exact .base h1
          · exact Rch.trans (.base hy) h1
        · intro h1
          cases h1 with
          | base h2 => exact .inl h2
          | step h2 h3 =>
            right
            -- the first step of the way
            have : ∀ x, Rch (needsL l) (k : Int) x → x ∈ needsL l (k : Int) ∨ ∃ y ∈ needsL l (k : Int), Rch (needsL l) y x := by
              intro x hx
              induction hx with
              | base h => exact .inl h
              | step _ h ih =>
                rcases ih with h4 | ⟨y, hy, h4⟩
                · exact .inr ⟨_, h4, .base h⟩
                · exact .inr ⟨y, hy, .step h4 h⟩
            rcases this _ h2 with h4 | ⟨y, hy, h4⟩
            · exact ⟨_, h4, .base h3⟩
            · exact ⟨y, hy, .step h4 h3⟩
      have hzs : ∀ zs, AllInv (needsL l) l.length zz zs zs.length → zs.length ≤ 4611686018427387904 := fun zs hI => by have := hI.zlen; omega
      have HZS := Lib.hid hzs
      clear hx hK c0 c1 c3 hzz hN hr hs hzs
      cases s
      · go_wp2_with (first | (go_at_call 51; refine CA.out.mono ?_; rintro r_ w1 ⟨zs, hI, h1⟩; obtain ⟨B1, d1, rfl, ow1, hb3⟩ := h1.elim (n := zs.length) rfl; have OW1 := Lib.hid ow1; have HB1 := Lib.hid (hB.trans (hb3.mono hB.size)); have HI := Lib.hid hI; clear ow1 hb3 h1 hI) | (go_at_call 59; refine (c_l00Has _ _ _ _ _ _ (key.out _ HI.out) _ (zs_ownN OW1.out) (HZS.out _ HI.out)).mono ?_; rintro e w' ⟨rfl, rfl⟩))
        go_roundw
        case rel => exact ⟨k + 1, by omega, by go_num, HB1.out, allN_no hno.out HS.out⟩
        case measure => simp [intOf]; omega
      · have HF : Hid (cirN l = (k : Int)) := firstI_some hno.out hlt HS.out
        go_wp2_with (first | (go_at_call 51; refine CA.out.mono ?_; rintro r_ w1 ⟨zs, hI, h1⟩; obtain ⟨B1, d1, rfl, ow1, hb3⟩ := h1.elim (n := zs.length) rfl; have OW1 := Lib.hid ow1; have HB1 := Lib.hid (hB.trans (hb3.mono hB.size)); have HI := Lib.hid hI; clear ow1 hb3 h1 hI) | (go_at_call 59; refine (c_l00Has _ _ _ _ _ _ (key.out _ HI.out) _ (zs_ownN OW1.out) (HZS.out _ HI.out)).mono ?_; rintro e w' ⟨rfl, rfl⟩))
        go_ret
        exact ⟨by rw [HF.out]; rfl, HB1.out⟩
    · have hke : k = l.length := by omega
      subst hke
      have HF : Hid (cirN l = -1) := firstI_none hno.out
      go_wp2_with fail
      go_ret
      exact ⟨by rw [HF.out]; rfl, hB⟩
set_option maxHeartbeats 400000 in
theorem c_sLessonCircle (A : Option Addr) (n c : Nat) (l : List TLesson) (w : World) (ha : Ls w A n l) (hsz : LsB l) (hn : n ≤ 1048576) :
    Calls Try.prog 10 #[.slice A n c] w fun e w' => e = .returned (.tuple #[.int .i64 (cirV l), .int .i64 (cirC l)]) ∧ Below w.heap.size w w' := by
  have HA := Lib.hid ha
  have HSZ := Lib.hid hsz
  clear ha hsz
  cases g : lesB l
  · have e1 : Hid (cirV l = 0 ∧ cirC l = 1) := by constructor <;> simp [cirV, cirC, g]
    go_enter Try.func10, Try.ntmps10
    go_wp2_with (go_at_call 30; refine (c_l18Ok _ _ _ l _ g _ HA.out HSZ.out hn).mono ?_; rintro r_ w1 ⟨rfl, hb1⟩)
    go_returns
    exact ⟨by rw [e1.out.1, e1.out.2]; rfl, hb1⟩
  · have e1 : Hid (cirV l = cirN l ∧ cirC l = 0) := by constructor <;> simp [cirV, cirC, g]
    go_enter Try.func10, Try.ntmps10
    go_wp2_with (first | (go_at_call 30; refine (c_l18Ok _ _ _ l _ g _ HA.out HSZ.out hn).mono ?_; rintro r_ w1 ⟨rfl, hb1⟩) | (go_at_call 31; refine (c_l18Circle _ _ _ l _ (HA.out.later hb1) g).mono ?_; rintro r_ w2 ⟨rfl, hb2⟩))
    go_returns
    exact ⟨by rw [e1.out.1, e1.out.2]; rfl, hb1.trans (hb2.mono hb1.size)⟩
theorem Qu.blocks {w w' : World} {base : Nat} {v : Value} {Q : List Int} (h : Qu w base v Q) (hs : w.heap.size ≤ w'.heap.size) (hb : ∀ b, base ≤ b → b < w.heap.size → w'.heap[b]? = w.heap[b]?) : Qu w' base v Q := by
  obtain ⟨ao, b, off, cap, hv, h1, h2, hc⟩ := h
  have key : ∀ o, (w.cell? ⟨b, o, none⟩).isSome = true → w'.cell? ⟨b, o, none⟩ = w.cell? ⟨b, o, none⟩ ∧ w'.frozen? ⟨b, o, none⟩ = w.frozen? ⟨b, o, none⟩ := fun o ho => by
    have := hb b h1 (World.block_lt_of_cell? _ _ (Option.isSome_iff_exists.1 ho).choose_spec)
    exact ⟨World.cell?_of_block (a := ⟨b, o, none⟩) this, World.frozen?_of_block (a := ⟨b, o, none⟩) this⟩
  refine ⟨ao, b, off, cap, hv, h1, h2, ⟨hc.le, hc.addr, fun h => Nat.lt_of_lt_of_le (hc.lt h) hs, hc.oldsLen, fun j u hu => ?_, fun j hj => ?_⟩⟩
  · have := hc.olds j u hu
    rw [(key _ (by rw [this]; rfl)).1, this]
  · obtain ⟨a1, a2⟩ := hc.spare j hj
    exact ⟨by rw [(key _ a1).1]; exact a1, (key _ a1).2.trans a2⟩
theorem Qu.far {w : World} {base : Nat} {v : Value} {Q : List Int} (h : Qu w base v Q) {a : Addr} (ha : a.block < base) (u : Value) : Qu (w.setCell a u) base v Q :=
  h.blocks (by simp) (fun b h1 _ => Below.heap_setCell w a u b (by omega))
theorem qu_made (w : World) (o : Obj) : Qu ((w.alloc o).alloc (.cells #[] 2)) (w.heap.size + 1) (.slice (some ⟨w.heap.size + 1, 0, none⟩) 0 0) [] := by
  have h := World.ownsRow_made (base := w.heap.size + 1) (e := 2) (size := 1) (w.alloc o) #[] 0 (by simp) (by simp [maxLen]) rfl
  rw [World.size_alloc] at h
  exact Qu.of_own (Q := []) h
set_option maxRecDepth 20000 in
set_option maxHeartbeats 8000000 in
theorem c_lessonCircle (A : Option Addr) (n c : Nat) (l : List TLesson) (w : World) (ha : Ls w A n l) (hok : lesB l = true) :
    Calls Try.prog 34 #[.slice A n c] w fun r w' => r = .returned (.int .i64 (cirN l)) ∧ Below w.heap.size w w' := by
  have hl := ha.len
  subst hl
  have h12 := les_len hok
  have HA := Lib.hid ha
  have HOK := Lib.hid hok
  have HNB := Lib.hid (needs_bd hok)
  clear ha hok
  have hmk := run_makeB l.length (by omega)
  go_enter Try.func34, Try.ntmps34
  go_wp2_with fail
  go_loopw [9] (fun i wr => ∃ k : Nat, k ≤ l.length ∧ i = .int .i64 k ∧ Below w.heap.size w wr ∧ Hid (allN (fun i => !selfB (needsL l) i) k = true)) (fun i _ => l.length - (intOf i).toNat)
  case atStart => exact ⟨0, Nat.zero_le _, rfl, Below.refl _ _, rfl⟩
  case round =>
    obtain ⟨k, hk, rfl, hB, hno⟩ := hrel
    rename World => wo
    have hzo := hB.size
    by_cases hlt : k < l.length
    · obtain ⟨b, o, nm, lt, S0, cc, zz, hh, rfl, hb2, hx, hK⟩ := les_all HA.out hlt
      have HBM := Lib.hid (fun o => hB.alloc hzo o)
      have HBM2 := Lib.hid (fun o o' => (hB.alloc hzo o).alloc (by simp; omega) o')
      obtain ⟨hb1, c0, c1, c2, c3, _⟩ := hK _ hB
      have K := Lib.hid hK
      have hN := needsL_at hx
      simp only at hN
      have hlz := needs_len HOK.out (k : Int)
      rw [hN] at hlz
      have HI0 : Hid (BfsInv (needsL l) l.length (k : Int) [] zz) := by have := BfsInv.start (N := needsL l) (n := l.length) (i := (k : Int)) (by rw [hN]; exact hlz); rwa [hN] at this
      have hkI : (k : Int) < (l.length : Int) := by omega
      have hk0 : (0 : Int) ≤ (k : Int) := by omega
      have hb3 : b < wo.heap.size + 1 := by omega
      have hb4 : b < wo.heap.size + 1 + 1 := by omega
      clear hx hK c0 c1 c3 hN
      go_wp2_with (at_builtin; refine quApp rfl (.tmp 15) (.tmp 20) _ rfl (wo.heap.size + 1) 2 _ Try.underlying30 info_int64 rfl _ _ [] rfl (qu_made wo _) S0 zz.length cc zz rfl (K.out _ (HBM2.out _ _)).2.2.2.2.2 (by simp only [List.length_nil]; omega) (by simp) ?_; intro v1 w1 hq1 hb5; have HQ1 := Lib.hid hq1; have HB5 := Lib.hid hb5; clear hq1 hb5)
      have hR1 : Hid (RowB w1 wo.heap.size l.length (mkB l.length [])) := by
        show RowB _ _ _ _
        rw [mkB_nil]
        exact ((RowB.made wo l.length).alloc (.cells #[] 2)).below HB5.out (by omega)
      have HBW := Lib.hid ((HBM2.out _ _).trans (HB5.out.mono (by omega)))
      clear hmk
      go_loopw [5] (fun v wr => ∃ S Q : List Int, Qu wr (wo.heap.size + 1) v Q ∧ Hid (RowB wr wo.heap.size l.length (mkB l.length S)) ∧ Hid (BfsInv (needsL l) l.length (k : Int) S Q) ∧ Below w.heap.size w wr ∧ wo.heap.size + 1 ≤ wr.heap.size) (fun v wr => cntF wr wo.heap.size l.length * (l.length + 1) + lenV v)
      case atStart => exact ⟨[], zz, by simpa using HQ1.out, hR1, HI0, HBW.out, by have := HB5.out.size; simp at this; omega⟩
      case round =>
        obtain ⟨S, Q, hQ, hR, hI, hBr, hszr⟩ := hrel
        have hzr := hBr.size
        have hcn := cnt_out hR.out l.length (Nat.le_refl _)
        cases Q with
        | nil =>
          obtain ⟨ao, cap, rfl⟩ := hQ.shape
          have r0 := hR.out.cell hlt
          rw [mkB_get S hlt] at r0
          obtain ⟨s, hs⟩ : ∃ s, selfB (needsL l) k = s := ⟨_, rfl⟩
          have HS := Lib.hid hs
          have hs2 : decide ((k : Int) ∈ S) = s := by rw [← hs, Bool.eq_iff_iff, decide_eq_true_eq, selfB_iff, hI.out.done]
          rw [hs2] at r0
          have hRl := hR.out.lt
          clear hQ hs hs2 hcn c2 hb1
          cases s
          · go_wp2_with fail
            go_roundw
            case rel => exact ⟨k + 1, by omega, by go_num, hBr, allN_no hno.out HS.out⟩
            case measure => simp [intOf]; omega
          · have HF : Hid (cirN l = (k : Int)) := firstI_some hno.out hlt HS.out
            go_wp2_with fail
            go_ret
            exact ⟨by rw [HF.out]; rfl, hBr⟩
        | cons x T =>
          obtain ⟨ao, cap, rfl⟩ := hQ.shape
          obtain ⟨_, hcap, bq, oq, rfl, hbq1, hbq2, kq⟩ := hQ.head
          have hxr := hI.out.up2 x (by simp)
          obtain ⟨hx0, hx1⟩ := hxr.bd HNB.out
          obtain ⟨p, rfl⟩ : ∃ p : Nat, x = p := ⟨x.toNat, by omega⟩
          have hpn : p < l.length := by omega
          have hql := hI.out.qlen HNB.out h12
          simp only [List.length_cons] at hql
          have HQC := Lib.hid hQ.cut
          have hcut : ∀ W : World, (Instr.slice 30 (.slice (some ⟨bq, oq, none⟩) (T.length + 1) cap) (some (.int .i64 1)) none none).run Try.prog W = .ok (.slice (cutA (some ⟨bq, oq, none⟩) cap 1) (T.length + 1 - 1) (cap - 1)) W := fun W => run_cut Try.underlying30 Try.sizeOf2 (some ⟨bq, oq, none⟩) (n := T.length + 1) (c := cap) (q := 1) (by omega) W
          have r0 := hR.out.cell hpn
          rw [mkB_get S hpn] at r0
          have f0 := hR.out.frozen p
          have hRl := hR.out.lt
          have hpI : (p : Int) < (l.length : Int) := by omega
          have hp0 : (0 : Int) ≤ (p : Int) := by omega
          have hT0 : (0 : Int) < ((T.length + 1 : Nat) : Int) := by omega
          simp only [Nat.add_sub_cancel] at hcut HQC
          generalize cutA (some ⟨bq, oq, none⟩) cap 1 = ac at hcut HQC
          by_cases hin : (p : Int) ∈ S
          · rw [decide_eq_true hin] at r0
            have HOLD := Lib.hid (hI.out.old hin)
            clear hin hQ c2 hb1 hxr
            go_wp2_with fail
            go_roundw
            case rel => first | exact ⟨S, T, HQC.out, hR, HOLD, hBr, hszr⟩ | ((repeat apply Exists.intro); exact ⟨⟨S, T, HQC.out, hR, HOLD, hBr, hszr⟩, rfl⟩)
            case measure => simp [lenV]
          · rw [decide_eq_false hin] at r0
            obtain ⟨b', o', nm', lt', S', cc', zz', hh', hA', hb2', hx', hK'⟩ := les_all HA.out hpn
            simp only [Option.some.injEq, Addr.mk.injEq, and_true] at hA'
            obtain ⟨rfl, rfl⟩ := hA'
            have hN' := needsL_at hx'
            simp only at hN'
            have hlz' := needs_len HOK.out (p : Int)
            have HNEW := Lib.hid (hI.out.new hin hlz')
            rw [hN'] at hlz'
            rw [hN'] at HNEW
            have hql2 := HNEW.out.qlen HNB.out h12
            obtain ⟨hb1', c0', c1', c2', c3', _⟩ := hK' _ hBr
            have K' := Lib.hid hK'
            have HBS : Hid (Below w.heap.size w (wr.setCell ⟨wo.heap.size, p, none⟩ (.bool true))) := hBr.setCell (by dsimp only; omega) _
            have HQS := Lib.hid (HQC.out.far (a := ⟨wo.heap.size, p, none⟩) (by dsimp only; omega) (.bool true))
            have HRS : Hid (RowB (wr.setCell ⟨wo.heap.size, p, none⟩ (.bool true)) wo.heap.size l.length (mkB l.length (S ++ [(p : Int)]))) := by
              have := hR.out.set p true
              rwa [mkB_set] at this
            have hout := outN_new (S := S) (x := (p : Int)) (n := l.length) (by omega) (by omega) hin
            have hne : b ≠ wo.heap.size := by omega
            clear hQ c2 hb1 hxr hx' hK' c0' c1' c3' hN' hin
            go_wp2_with (at_builtin; refine quApp rfl (.tmp 37) (.tmp 42) _ rfl (wo.heap.size + 1) 2 _ Try.underlying30 info_int64 rfl _ _ T rfl HQS.out S' zz'.length cc' zz' rfl (K'.out _ HBS.out).2.2.2.2.2 (by simp only [List.length_append] at hql2; omega) (by rw [World.size_setCell]; omega) ?_; intro v2 w2 hq2 hb6; have HQ2 := Lib.hid hq2; have HB6 := Lib.hid hb6; have HR2 := Lib.hid (HRS.out.below hb6 (by omega)); have HBB := Lib.hid (HBS.out.trans (hb6.mono (by omega))); have hsz6 := hb6.size; simp only [World.size_setCell] at hsz6; clear hq2 hb6)
            have hcn2 := cnt_out HR2.out l.length (Nat.le_refl _)
            obtain ⟨ao2, cap2, hv2⟩ := HQ2.out.shape
            subst hv2
            go_roundw
            case rel => first | exact ⟨_, _, HQ2.out, HR2, HNEW, HBB.out, by omega⟩ | ((repeat apply Exists.intro); exact ⟨⟨_, _, HQ2.out, HR2, HNEW, HBB.out, by omega⟩, rfl⟩)
            case measure =>
              simp only [lenV, hcn, hcn2, List.length_append]
              obtain ⟨q, hq⟩ : ∃ q, outN S l.length = q + 1 := ⟨outN S l.length - 1, by omega⟩
              have h9 : outN (S ++ [(p : Int)]) l.length * (l.length + 1) ≤ q * (l.length + 1) := Nat.mul_le_mul_right _ (by omega)
              rw [hq, Nat.add_mul]
              omega
    · have hke : k = l.length := by omega
      subst hke
      have HF : Hid (cirN l = -1) := firstI_none hno.out
      clear hmk
      go_wp2_with fail
      go_ret
      exact ⟨by rw [HF.out]; rfl, hB⟩
set_option maxHeartbeats 400000 in
theorem c_iLessonCircle (A : Option Addr) (n c : Nat) (l : List TLesson) (w : World) (ha : Ls w A n l) (hsz : LsB l) (hn : n ≤ 1048576) :
    Calls Try.prog 12 #[.slice A n c] w fun e w' => e = .returned (.tuple #[.int .i64 (cirV l), .int .i64 (cirC l)]) ∧ Below w.heap.size w w' := by
  have HA := Lib.hid ha
  have HSZ := Lib.hid hsz
  clear ha hsz
  cases g : lesB l
  · have e1 : Hid (cirV l = 0 ∧ cirC l = 1) := by constructor <;> simp [cirV, cirC, g]
    go_enter Try.func12, Try.ntmps12
    go_wp2_with (go_at_call 33; refine (c_iValidLessons _ _ _ l _ g _ HA.out HSZ.out hn).mono ?_; rintro r_ w1 ⟨rfl, hb1⟩)
    go_returns
    exact ⟨by rw [e1.out.1, e1.out.2]; rfl, hb1⟩
  · have e1 : Hid (cirV l = cirN l ∧ cirC l = 0) := by constructor <;> simp [cirV, cirC, g]
    go_enter Try.func12, Try.ntmps12
    go_wp2_with (first | (go_at_call 33; refine (c_iValidLessons _ _ _ l _ g _ HA.out HSZ.out hn).mono ?_; rintro r_ w1 ⟨rfl, hb1⟩) | (go_at_call 34; refine (c_lessonCircle _ _ _ l _ (HA.out.later hb1) g).mono ?_; rintro r_ w2 ⟨rfl, hb2⟩))
    go_returns
    exact ⟨by rw [e1.out.1, e1.out.2]; rfl, hb1.trans (hb2.mono hb1.size)⟩
end Go.Proofs.Ytajcdaclbammaaa
