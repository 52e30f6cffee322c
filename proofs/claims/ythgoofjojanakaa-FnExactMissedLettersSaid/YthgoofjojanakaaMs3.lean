/- Contracts: the letters that were not typed right: the program. -/
import Derived.Test.YthgoofjojanakaaMs2
namespace Go.Proofs.Ythgoofjojanakaa
open Go.RowKit Go.BigFrame
attribute [local go_sem] sub_cell sub_frozen drewN_setCell
theorem hp0 (w : World) (c c' : Array Value) (t t' : TypeId) : ((w.alloc (.cells c t)).alloc (.cells c' t')).heap[w.heap.size]? = some (.cells c t (0, 0)) := by
  rw [Below.heap_alloc _ _ _ (by simp)]
  exact heap_alloc_last _ _
theorem hp1 (w : World) (c c' : Array Value) (t t' : TypeId) : ((w.alloc (.cells c t)).alloc (.cells c' t')).heap[w.heap.size + 1]? = some (.cells c' t' (0, 0)) := by
  have h := heap_alloc_last (w.alloc (.cells c t)) (.cells c' t')
  rwa [World.size_alloc] at h
theorem setRow_same (w : World) (g : Nat) (t : TypeId) (c : Array Value) (hg : w.heap[g]? = some (.cells c t (0, 0))) : w.setRow g c = w := by
  have e : (w.heap.modify g fun
      | .cells _ elem frozen => .cells c elem frozen
      | o => o) = w.heap := by
    apply Array.ext_getElem?
    intro i
    rw [Array.getElem?_modify]
    by_cases h : g = i
    · subst h
      rw [hg]
      simp
    · simp [h]
  exact congrArg (fun h => ({ w with heap := h } : World)) e
theorem mlZ_len (w t : List UInt8) : (mlZ w t).length ≤ 256 := by
  unfold mlZ
  split
  · rw [cntZ_len]; exact srt_len _
  · exact Nat.zero_le _
/-- Storing the cells that a block holds changes nothing. -/
theorem storeVar_same {P : Program} (w : World) (g : Nat) (t : TypeId) (c : Array Value) (hg : w.heap[g]? = some (.cells c t (0, 0))) (hi : (P.info? t).map (·.size) = some c.size) (h1 : c.all (·.oneCell') = true) :
    (storeVar t ⟨g, 0, none⟩ (.agg c)).run P w = .ok () w := by
  rw [run_storeVar_row _ _ t t c c hg hi rfl h1]
  rw [setRow_same w g t c hg]
theorem storeAt_same {P : Program} (w : World) (g : Nat) (t : TypeId) (c : Array Value) (hg : w.heap[g]? = some (.cells c t (0, 0))) (hi : (P.info? t).map (·.size) = some c.size) (h1 : c.all (·.oneCell') = true) :
    (Instr.storeAt t (.pointer (some ⟨g, 0, none⟩)) (.agg c)).run P w = .ok () w := by
  simp only [Instr.storeAt, Instr.sureAddr, Sem.run_bind, Sem.run_pure, Result.andThen]
  exact storeVar_same w g t c hg hi h1
theorem storeCells_same {P : Program} (w : World) (g : Nat) (t : TypeId) (c : Array Value) (hg : w.heap[g]? = some (.cells c t (0, 0))) (hi : (P.info? t).map (·.size) = some c.size) (h1 : c.all (·.oneCell') = true) :
    (storeCells ⟨g, 0, none⟩ c.toList 0).run P w = .ok () w := by
  have := storeVar_same (P := P) w g t c hg hi h1
  cases hq : P.info? t with
  | none => simp [hq] at hi
  | some i =>
    have hs : c.size = i.size := by simp [hq] at hi; omega
    simpa [storeVar, sizeOf, typeInfo, hq, Value.cells, hs] using this
set_option maxRecDepth 20000 in
set_option maxHeartbeats 8000000 in
theorem c_iMissedLetters (a b : ByteArray) (w : World) (ha : a.size ≤ maxLen) (hb : b.size ≤ maxLen) :
    Calls Try.prog 36 #[.string a, .string b] w (MlPost (mlL (bl a) (bl b)) (mlZ (bl a) (bl b)) (twoC (bl a) (bl b)) w) := by
  rcases twoC_cases (bl a) (bl b) with ⟨h, t1, t2⟩ | ⟨h, hor⟩
  · have C0 := align_i a b (typB_len t1) (typB_len t2)
    have hfit := fitS_aln _ (bl a) (bl b) (Nat.le_refl _)
    have hlen := alnL_len (bl a) (bl b)
    have l1 := typB_len t1
    have l2 := typB_len t2
    rw [bl_len, bl_len] at hlen
    rw [mlL, mlZ, h, if_pos rfl, if_pos rfl, misA]
    obtain ⟨s, hs⟩ : ∃ s, sb (alnL (bl a) (bl b)) = s := ⟨_, rfl⟩
    have hs2 : alnL (bl a) (bl b) = bl s := by rw [← hs, bl_sb]
    rw [hs2] at hfit hlen ⊢
    rw [bl_len] at hlen
    rw [hs] at C0
    have C := Lib.hid C0
    have T1 := Lib.hid t1
    have T2 := Lib.hid t2
    have HF := Lib.hid hfit
    obtain ⟨z1, i1⟩ := zero_of_info (P := Try.prog) (t := 64) (v := .agg (Array.replicate 256 (.int .i64 0))) (n := 256) (by kernel_rfl)
    obtain ⟨z2, i2⟩ := zero_of_info (P := Try.prog) (t := 65) (v := .agg (Array.replicate 256 (.bool false))) (n := 256) (by kernel_rfl)
    obtain ⟨Z1, hZ1⟩ : ∃ Z, Array.replicate 256 (Value.int .i64 0) = Z := ⟨_, rfl⟩
    obtain ⟨Z2, hZ2⟩ : ∃ Z, Array.replicate 256 (Value.bool false) = Z := ⟨_, rfl⟩
    have n1 : Z1.size = 256 := by rw [← hZ1, Array.size_replicate]
    have n2 : Z2.size = 256 := by rw [← hZ2, Array.size_replicate]
    have o1 : Z1.all (·.oneCell') = true := by rw [← hZ1, Array.all_eq_true]; intro i hi; rw [Array.getElem_replicate]; rfl
    have o2 : Z2.all (·.oneCell') = true := by rw [← hZ2, Array.all_eq_true]; intro i hi; rw [Array.getElem_replicate]; rfl
    rw [hZ1] at z1
    rw [hZ2] at z2
    have I1 := Lib.hid (i1.trans (congrArg some n1.symm))
    have I2 := Lib.hid (i2.trans (congrArg some n2.symm))
    have HZ1 := Lib.hid hZ1
    have HZ2 := Lib.hid hZ2
    have O1 := Lib.hid o1
    have O2 := Lib.hid o2
    clear h t1 t2 C0 hfit hs hs2 i1 i2 hZ1 hZ2 o1 o2
    go_enter Try.func36, Try.ntmps36
    go_wp2_with (first | (go_at_call 43; first | (with_reducible refine (c_isTyped a _ T1.out _ ha).mono ?_; rintro r_ w' ⟨rfl, rfl⟩) | (with_reducible refine (c_isTyped b _ T2.out _ hb).mono ?_; rintro r_ w' ⟨rfl, rfl⟩)) | (go_at_call 49; refine (C.out _).mono ?_; rintro r_ w1 ⟨rfl, hb1⟩; have hz1 := hb1.size; have s1 := storeAt_same (P := Try.prog) _ w1.heap.size 64 Z1 (hp0 w1 Z1 Z2 _ 65) I1.out O1.out; have s2 := storeAt_same (P := Try.prog) _ (w1.heap.size + 1) 65 Z2 (hp1 w1 Z1 Z2 64 _) I2.out O2.out; have s3 := storeCells_same (P := Try.prog) _ w1.heap.size 64 Z1 (hp0 w1 Z1 Z2 _ 65) I1.out O1.out; have s4 := storeCells_same (P := Try.prog) _ (w1.heap.size + 1) 65 Z2 (hp1 w1 Z1 Z2 64 _) I2.out O2.out))
    have hB0 : Below w.heap.size w ((w1.alloc (.cells Z1 64)).alloc (.cells Z2 65)) := by (repeat' (first | (with_reducible exact Below.refl _ _) | (with_reducible assumption) | (with_reducible refine below_drewN ?_ _) | (with_reducible refine Below.drew ?_) | (with_reducible refine Below.alloc ?_ ?_ _) | (with_reducible refine Below.setCell ?_ ?_ _) | go_size))
    have hq1 : Hid (((w1.alloc (.cells Z1 64)).alloc (.cells Z2 65)).rowIs w1.heap.size 64 256 (cntV [])) := ⟨Z1, hp0 w1 Z1 Z2 _ _, n1, fun i hi => by rw [← HZ1.out]; simp [cntV_nil, hi]⟩
    have hq2 : Hid (((w1.alloc (.cells Z1 64)).alloc (.cells Z2 65)).rowIs (w1.heap.size + 1) 65 256 (mk [])) := ⟨Z2, hp1 w1 Z1 Z2 _ _, n2, fun i hi => by rw [← HZ2.out]; simp [mk, hi]⟩
    have hwg : w.heap.size ≤ w1.heap.size := by omega
    have hwg2 : w.heap.size ≤ w1.heap.size + 1 := by omega
    clear s1 s2 s3 s4 z1 z2
    go_loopw [10, 11, 30] (fun q _ i wr => ∃ (x k : Nat) (S : List UInt8), k ≤ s.size ∧ q = .int .i64 x ∧ i = .int .i64 k ∧ x ≤ a.size ∧ Hid (MisInv (bl a) (bl s) k x S) ∧ Below w.heap.size w wr ∧ Hid (wr.rowIs w1.heap.size 64 256 (cntV S)) ∧ Hid (wr.rowIs (w1.heap.size + 1) 65 256 (mk S))) (fun _ _ i _ => s.size - (intOf i).toNat)
    case atStart => exact ⟨0, 0, [], Nat.zero_le _, rfl, rfl, Nat.zero_le _, Lib.hid (MisInv.start HF.out), hB0, hq1, hq2⟩
    case round =>
     obtain ⟨x, k, S, hk, rfl, rfl, hxa, hn, hB, hrow, hrow2⟩ := hrel
     have hz := hB.size
     have hgl : w1.heap.size < wr.heap.size := hrow.out.lt
     have hgl2 : w1.heap.size + 1 < wr.heap.size := hrow2.out.lt
     clear hB0 hq1 hq2
     by_cases hlt : k < s.size
     · have hg := Lib.hid (bl_get s k hlt)
       have hat := (hn.out.at_step hg.out).2
       have hsb := s5 (hn.out.at_step hg.out).1
       rcases hsb with hc | hc | hc | hc | hc
       · have hsd : stD s[k] = 1 := by rw [hc]; rfl
         rw [hsd] at hat
         have q43 : ((s[k].toNat : Int) == 43) = false := by rw [hc]; rfl
         have q45 : ((s[k].toNat : Int) == 45) = false := by rw [hc]; rfl
         have q120 : ((s[k].toNat : Int) == 120) = false := by rw [hc]; rfl
         have q126 : ((s[k].toNat : Int) == 126) = false := by rw [hc]; rfl
         have q61 : ((s[k].toNat : Int) == 61) = true := by rw [hc]; rfl
         have HI := Lib.hid (hn.out.skip hg.out (by rw [hc]; decide))
         rw [hsd] at HI
         rw [bl_len] at hat
         clear hc hsd
         go_wp2_with fail
         go_roundw
         case rel => first | exact ⟨x + 1, k + 1, S, by omega, by go_num, by go_num, by omega, HI, hB, hrow, hrow2⟩ | ((repeat apply Exists.intro); exact ⟨⟨x + 1, k + 1, S, by omega, by go_num, by go_num, by omega, HI, hB, hrow, hrow2⟩, rfl⟩)
         case measure => simp [intOf]; omega
       · have hsd : stD s[k] = 1 := by rw [hc]; rfl
         rw [hsd] at hat
         have q43 : ((s[k].toNat : Int) == 43) = false := by rw [hc]; rfl
         have q45 : ((s[k].toNat : Int) == 45) = false := by rw [hc]; rfl
         have q120 : ((s[k].toNat : Int) == 120) = true := by rw [hc]; rfl
         have q126 : ((s[k].toNat : Int) == 126) = false := by rw [hc]; rfl
         have q61 : ((s[k].toNat : Int) == 61) = false := by rw [hc]; rfl
         have hx1 : x < a.size := by rw [bl_len] at hat; omega
         have hu := Lib.hid (bl_get a x hx1)
         have hr := typB_get T1.out (List.mem_of_getElem? hu.out)
         have HI := Lib.hid (hn.out.miss hg.out (by rw [hc]; decide) hu.out)
         obtain ⟨m, hm⟩ : ∃ m, cntM S a[x].toNat = m := ⟨_, rfl⟩
         have hml : m ≤ 120 := by
           have h1 := cntM_le S a[x].toNat
           have h2 := hn.out.len
           omega
         have r0 : wr.cell? ⟨w1.heap.size, a[x].toNat, none⟩ = some (.int .i64 ((m : Nat) : Int)) := by rw [← hm]; exact hrow.out.cell (by omega)
         have f0 := hrow.out.frozen a[x].toNat
         have HM := Lib.hid hm
         have hr1 : (a[x].toNat : Int) < 256 := by omega
         have hxi : (x : Int) < (a.size : Int) := by omega
         have m0 : wr.cell? ⟨w1.heap.size + 1, a[x].toNat, none⟩ = some (mk S a[x].toNat) := hrow2.out.cell (by omega)
         have f1 := hrow2.out.frozen a[x].toNat
         clear hm hc hsd hat hr
         go_wp2_with fail
         go_roundw
         case rel => first | exact ⟨x + 1, k + 1, S ++ [a[x]], by omega, by go_num, by go_num, by omega, HI, (hB.setCell hwg _).setCell hwg2 _, Lib.hid ((cnt_set HM.out hrow.out).setOther (by simp) _), Lib.hid (mk_set (hrow2.out.setOther (by simp) _))⟩ | ((repeat apply Exists.intro); exact ⟨⟨x + 1, k + 1, S ++ [a[x]], by omega, by go_num, by go_num, by omega, HI, (hB.setCell hwg _).setCell hwg2 _, Lib.hid ((cnt_set HM.out hrow.out).setOther (by simp) _), Lib.hid (mk_set (hrow2.out.setOther (by simp) _))⟩, rfl⟩)
         case measure => simp [intOf]; omega
       · have hsd : stD s[k] = 1 := by rw [hc]; rfl
         rw [hsd] at hat
         have q43 : ((s[k].toNat : Int) == 43) = false := by rw [hc]; rfl
         have q45 : ((s[k].toNat : Int) == 45) = true := by rw [hc]; rfl
         have q120 : ((s[k].toNat : Int) == 120) = false := by rw [hc]; rfl
         have q126 : ((s[k].toNat : Int) == 126) = false := by rw [hc]; rfl
         have q61 : ((s[k].toNat : Int) == 61) = false := by rw [hc]; rfl
         have hx1 : x < a.size := by rw [bl_len] at hat; omega
         have hu := Lib.hid (bl_get a x hx1)
         have hr := typB_get T1.out (List.mem_of_getElem? hu.out)
         have HI := Lib.hid (hn.out.miss hg.out (by rw [hc]; decide) hu.out)
         obtain ⟨m, hm⟩ : ∃ m, cntM S a[x].toNat = m := ⟨_, rfl⟩
         have hml : m ≤ 120 := by
           have h1 := cntM_le S a[x].toNat
           have h2 := hn.out.len
           omega
         have r0 : wr.cell? ⟨w1.heap.size, a[x].toNat, none⟩ = some (.int .i64 ((m : Nat) : Int)) := by rw [← hm]; exact hrow.out.cell (by omega)
         have f0 := hrow.out.frozen a[x].toNat
         have HM := Lib.hid hm
         have hr1 : (a[x].toNat : Int) < 256 := by omega
         have hxi : (x : Int) < (a.size : Int) := by omega
         have m0 : wr.cell? ⟨w1.heap.size + 1, a[x].toNat, none⟩ = some (mk S a[x].toNat) := hrow2.out.cell (by omega)
         have f1 := hrow2.out.frozen a[x].toNat
         clear hm hc hsd hat hr
         go_wp2_with fail
         go_roundw
         case rel => first | exact ⟨x + 1, k + 1, S ++ [a[x]], by omega, by go_num, by go_num, by omega, HI, (hB.setCell hwg _).setCell hwg2 _, Lib.hid ((cnt_set HM.out hrow.out).setOther (by simp) _), Lib.hid (mk_set (hrow2.out.setOther (by simp) _))⟩ | ((repeat apply Exists.intro); exact ⟨⟨x + 1, k + 1, S ++ [a[x]], by omega, by go_num, by go_num, by omega, HI, (hB.setCell hwg _).setCell hwg2 _, Lib.hid ((cnt_set HM.out hrow.out).setOther (by simp) _), Lib.hid (mk_set (hrow2.out.setOther (by simp) _))⟩, rfl⟩)
         case measure => simp [intOf]; omega
       · have hsd : stD s[k] = 0 := by rw [hc]; rfl
         rw [hsd] at hat
         have q43 : ((s[k].toNat : Int) == 43) = true := by rw [hc]; rfl
         have q45 : ((s[k].toNat : Int) == 45) = false := by rw [hc]; rfl
         have q120 : ((s[k].toNat : Int) == 120) = false := by rw [hc]; rfl
         have q126 : ((s[k].toNat : Int) == 126) = false := by rw [hc]; rfl
         have q61 : ((s[k].toNat : Int) == 61) = false := by rw [hc]; rfl
         have HI := Lib.hid (hn.out.skip hg.out (by rw [hc]; decide))
         rw [hsd] at HI
         rw [bl_len] at hat
         clear hc hsd
         go_wp2_with fail
         go_roundw
         case rel => first | exact ⟨x, k + 1, S, by omega, by go_num, by go_num, by omega, HI, hB, hrow, hrow2⟩ | ((repeat apply Exists.intro); exact ⟨⟨x, k + 1, S, by omega, by go_num, by go_num, by omega, HI, hB, hrow, hrow2⟩, rfl⟩)
         case measure => simp [intOf]; omega
       · have hsd : stD s[k] = 2 := by rw [hc]; rfl
         rw [hsd] at hat
         have q43 : ((s[k].toNat : Int) == 43) = false := by rw [hc]; rfl
         have q45 : ((s[k].toNat : Int) == 45) = false := by rw [hc]; rfl
         have q120 : ((s[k].toNat : Int) == 120) = false := by rw [hc]; rfl
         have q126 : ((s[k].toNat : Int) == 126) = true := by rw [hc]; rfl
         have q61 : ((s[k].toNat : Int) == 61) = false := by rw [hc]; rfl
         have HI := Lib.hid (hn.out.skip hg.out (by rw [hc]; decide))
         rw [hsd] at HI
         rw [bl_len] at hat
         clear hc hsd
         go_wp2_with fail
         go_roundw
         case rel => first | exact ⟨x + 2, k + 1, S, by omega, by go_num, by go_num, by omega, HI, hB, hrow, hrow2⟩ | ((repeat apply Exists.intro); exact ⟨⟨x + 2, k + 1, S, by omega, by go_num, by go_num, by omega, HI, hB, hrow, hrow2⟩, rfl⟩)
         case measure => simp [intOf]; omega
     · obtain rfl : k = s.size := by omega
       have hS := hn.out.done (by rw [bl_len]; omega)
       have HS := Lib.hid hS
       have hcl : ∀ j, cntM S j ≤ 120 := fun j => by
         have h1 := cntM_le S j
         have h2 := hn.out.len
         omega
       have CL := Lib.hid hcl
       have CA := c_ascending (w1.heap.size + 1) S wr hrow2.out
       have hll := srt_len (memB S)
       obtain ⟨ls, hls⟩ : ∃ ls, sb (srt (memB S)) = ls := ⟨_, rfl⟩
       have hls2 : srt (memB S) = bl ls := by rw [← hls, bl_sb]
       rw [hls] at CA
       rw [hls2, bl_len] at hll
       have CA2 := Lib.hid CA
       have HL := Lib.hid hls2
       clear hn hS hcl CA hls hls2 hrow2
       go_wp2_with (go_at_call 54; refine CA2.out.mono ?_; rintro r_ wa ⟨rfl, hba⟩; have hza := hba.size)
       rename World => wb
       go_loopw [13, 14, 65] (fun o _ i wq => ∃ c : Nat, c ≤ ls.size ∧ i = .int .i64 c ∧ Below wb.heap.size wb wq ∧ Hid (ZRow wq wb.heap.size o S ((bl ls).take c))) (fun _ _ i _ => ls.size - (intOf i).toNat)
       case atStart => exact ⟨0, Nat.zero_le _, rfl, by (repeat' (first | (with_reducible exact Below.refl _ _) | (with_reducible assumption) | (with_reducible refine below_drewN ?_ _) | (with_reducible refine Below.drew ?_) | (with_reducible refine Below.alloc ?_ ?_ _) | (with_reducible refine Below.setCell ?_ ?_ _) | go_size)), ZRow.made S _⟩
       case round =>
         obtain ⟨c, hc1, rfl, hB2, ho⟩ := hrel
         have hz2 := hB2.size
         have hB3 := hB.trans ((later hba (Below.refl _ _)).trans (hB2.mono (by omega)) |>.mono hz)
         by_cases hlc : c < ls.size
         · have hg := Lib.hid (bl_get ls c hlc)
           have hu := u8_lt ls[c]
           have hR1 := (hrow.out.of_block (hba.block _ hgl)).of_block (hB2.block _ (by omega))
           have r0 := hR1.cell hu
           unfold cntV at r0
           have hu1 : (ls[c].toNat : Int) < 256 := by omega
           have hlk : ((bl ls).take c).length ≤ 256 := by rw [List.length_take]; omega
           have hm5 := CL.out ls[c].toNat
           obtain ⟨m, hm⟩ : ∃ m, cntM S ls[c].toNat = m := ⟨_, rfl⟩
           rw [hm] at r0 hm5
           have HM := Lib.hid hm
           have hgw : w1.heap.size < wr.heap.size := by omega
           have E : Hid ((bl ls).take (c + 1) = (bl ls).take c ++ [ls[c]]) := by show _ = _; rw [List.take_add_one, hg.out]; rfl
           clear hR1 hm hu
           go_wp2_with (at_builtin; refine app1 rfl (.tmp 68) (.tmp 74) _ rfl wb.heap.size 2 _ 8 Try.underlying22 info_int64 rfl _ _ rfl _ _ _ rfl ho.out rfl (by omega) (by omega) (by omega) ?_; intro o' w3 hown3 hb3 hg3; have HO3 := Lib.hid hown3; clear hown3)
           go_roundw
           case rel => first | exact ⟨c + 1, by omega, by go_num, hB2.trans hb3, by show ZRow _ _ _ _ _; rw [E.out]; exact ZRow.snoc HM.out HO3.out⟩ | ((repeat apply Exists.intro); exact ⟨⟨c + 1, by omega, by go_num, hB2.trans hb3, by show ZRow _ _ _ _ _; rw [E.out]; exact ZRow.snoc HM.out HO3.out⟩, rfl⟩)
           case measure => simp [intOf]; omega
         · obtain rfl : c = ls.size := by omega
           have h3 := ho.out
           rw [List.take_of_length_le (by rw [bl_len]; omega), ← HL.out] at h3
           have ho3 := Lib.hid h3
           clear h3
           have hls := congrArg sb HL.out
           rw [sb_bl] at hls
           go_wp2_with fail
           go_returns
           rw [← HS.out, ← hls]
           exact MlPost.mk_ (cntZ_len _ _) (own_bs ho3.out (by omega)) hB3
  · rw [mlL, mlZ, h, if_neg (by decide), if_neg (by decide)]
    clear h
    rcases hor with t1 | ⟨t1, t2⟩
    · have T1 := Lib.hid t1
      clear t1
      go_enter Try.func36, Try.ntmps36
      go_wp2_with (go_at_call 43; refine (c_isTyped a _ T1.out _ ha).mono ?_; rintro r_ w' ⟨rfl, rfl⟩)
      go_returns
      exact MlPost.mk_ rfl (World.ownsRow_nil _ _ _ _) (Below.refl _ _)
    · have T1 := Lib.hid t1
      have T2 := Lib.hid t2
      clear t1 t2
      go_enter Try.func36, Try.ntmps36
      go_wp2_with (go_at_call 43; first | (with_reducible refine (c_isTyped a _ T1.out _ ha).mono ?_; rintro r_ w' ⟨rfl, rfl⟩) | (with_reducible refine (c_isTyped b _ T2.out _ hb).mono ?_; rintro r_ w' ⟨rfl, rfl⟩))
      go_returns
      exact MlPost.mk_ rfl (World.ownsRow_nil _ _ _ _) (Below.refl _ _)
end Go.Proofs.Ythgoofjojanakaa
