/- Contracts: the letters that were not typed right: the reference. -/
import Derived.Test.YthgoofjojanakaaMs
import Derived.Test.YthgoofjojanakaaAs
import Derived.Test.YthgoofjojanakaaEr16
namespace Go.Proofs.Ythgoofjojanakaa
open Go.RowKit Go.BigFrame
attribute [local go_sem] sub_cell sub_frozen drewN_setCell

theorem srtN_low {p : UInt8 → Bool} {k : Nat} (hk : k ≤ 256) (h : ∀ c, p c = true → k ≤ c.toNat) : srtN p k = [] := by
  rw [List.eq_nil_iff_forall_not_mem]
  intro c hc
  have h1 := (srtN_mem hk).1 hc
  have := h c h1.2
  omega
theorem srtN_high {p : UInt8 → Bool} {k : Nat} (h : ∀ c, p c = true → c.toNat < k) (j : Nat) (hj : k + j ≤ 256) : srtN p (k + j) = srtN p k := by
  induction j with
  | zero => rfl
  | succ j ih =>
    rw [← Nat.add_assoc, srtN_no, ih (by omega)]
    cases hp : p (UInt8.ofNat (k + j))
    · rfl
    · have h1 := h _ hp
      rw [u8_of _ (by omega)] at h1
      omega
/-- The letters of a text that is typed. -/
theorem typB_get {l : List UInt8} (h : typB l = true) {c : UInt8} (hc : c ∈ l) : 32 ≤ c.toNat ∧ c.toNat < 127 := by
  simp only [typB, textB, Bool.and_eq_true, decide_eq_true_eq] at h
  have h1 := List.all_eq_true.1 h.2 c hc
  simp [okB] at h1
  constructor <;> omega
/-- What is missed, in order; how often. -/
def misA (w t : List UInt8) : List UInt8 := misL w (alnL w t)
def mlL (w t : List UInt8) : List UInt8 := if twoC w t = 0 then srt (memB (misA w t)) else []
def mlZ (w t : List UInt8) : List Int := if twoC w t = 0 then cntZ (misA w t) (srt (memB (misA w t))) else []
/-- Fresh letters as a text, fresh numbers, a code. -/
def MlPost (l : List UInt8) (zs : List Int) (code : Int) (w : World) (r : Ending) (w' : World) : Prop :=
  ∃ A c, r = .returned (.tuple #[.string (sb l), .slice A zs.length c, .int .i64 code]) ∧ w'.ownsRow w.heap.size 2 1 (.slice A zs.length c) zs.length (zs.map (Value.int .i64)) ∧ Below w.heap.size w w'
theorem MlPost.mk_ {l : List UInt8} {zs : List Int} {code : Int} {w w' : World} {v : Value} {n : Nat} (hn : zs.length = n) (hown : w'.ownsRow w.heap.size 2 1 v n (zs.map (Value.int .i64))) (hb : Below w.heap.size w w') : MlPost l zs code w (.returned (.tuple #[.string (sb l), v, .int .i64 code])) w' := by
  subst hn
  obtain ⟨A, c, rfl⟩ := own_slice hown
  exact ⟨A, c, rfl, hown, hb⟩
/-- The row of counts. -/
def cntV (S : List UInt8) (i : Nat) : Value := .int .i64 ((cntM S i : Nat) : Int)
theorem cntV_nil (i : Nat) : cntV [] i = .int .i64 0 := rfl
theorem cnt_set {w : World} {g n : Nat} {e : TypeId} {S : List UInt8} {c : UInt8} {m : Nat} (hm : cntM S c.toNat = m) (h : w.rowIs g e n (cntV S)) : (w.setCell ⟨g, c.toNat, none⟩ (.int .i64 (((m : Nat) : Int) + 1))).rowIs g e n (cntV (S ++ [c])) :=
  (h.set _ _).congr fun i _ => by
    unfold cntV
    rw [cntM_snoc]
    by_cases e : i = c.toNat
    · subst e; rw [if_pos rfl, if_pos rfl, hm]; rfl
    · rw [if_neg e, if_neg e]; rfl
theorem own_bs {w : World} {base base' n sz : Nat} {e : TypeId} {v : Value} {xs : List Value} (h : w.ownsRow base e sz v n xs) (hb : base' ≤ base) : w.ownsRow base' e sz v n xs := by
  refine ⟨h.1, ?_⟩
  rcases h.2 with h1 | ⟨g, cap, cur, hv, hg, r⟩
  · exact .inl h1
  · exact .inr ⟨g, cap, cur, hv, by omega, r⟩
/-- Two rows of different types lie apart. -/
theorem own_types {w : World} {base base' n n' sz sz' : Nat} {e e' : TypeId} {v v' : Value} {xs xs' : List Value} (h : w.ownsRow base e sz v n xs) (h' : w.ownsRow base' e' sz' v' n' xs') (hne : e ≠ e') : v.ownBlock = none ∨ v.ownBlock ≠ v'.ownBlock := by
  rcases h.2 with ⟨rfl, _⟩ | ⟨g, cap, cur, rfl, _, hg, _⟩
  · exact .inl rfl
  · refine .inr ?_
    rcases h'.2 with ⟨rfl, _⟩ | ⟨g', cap', cur', rfl, _, hg', _⟩
    · intro h; cases h
    · intro h
      have : g = g' := by simpa [Value.ownBlock] using h
      subst this
      rw [hg] at hg'
      simp only [Option.some.injEq, Obj.cells.injEq] at hg'
      exact hne hg'.2.1
theorem cntZ_len (S l : List UInt8) : (cntZ S l).length = l.length := by simp [cntZ]
theorem cntZ_snoc (S l : List UInt8) (c : UInt8) : cntZ S (l ++ [c]) = cntZ S l ++ [((cntM S c.toNat : Nat) : Int)] := by simp [cntZ]
/-- A row of the counts of letters. -/
def ZRow (w : World) (base : Nat) (v : Value) (S l : List UInt8) : Prop := w.ownsRow base 2 1 v l.length ((cntZ S l).map (Value.int .i64))
theorem ZRow.made (S : List UInt8) (w : World) : ZRow (w.alloc (.cells #[] 2)) w.heap.size (.slice (some ⟨w.heap.size, 0, none⟩) 0 0) S [] := World.ownsRow_made w #[] 0 (Nat.le_refl _) (by decide) rfl
theorem ZRow.made2 (S : List UInt8) (w : World) (o : Obj) : ZRow ((w.alloc o).alloc (.cells #[] 2)) w.heap.size (.slice (some ⟨w.heap.size + 1, 0, none⟩) 0 0) S [] := by
  have h := ZRow.made S (w.alloc o)
  rw [World.size_alloc] at h
  exact own_bs h (by omega)
theorem ZRow.snoc {w : World} {base : Nat} {v : Value} {S l : List UInt8} {c : UInt8} {m : Nat} (hm : cntM S c.toNat = m) (h : w.ownsRow base 2 1 v (l.length + 1) ((cntZ S l).map (Value.int .i64) ++ [.int .i64 ((m : Nat) : Int)])) : ZRow w base v S (l ++ [c]) := by
  unfold ZRow
  rw [cntZ_snoc, List.map_append, List.length_append, hm]
  exact h
/-- The steps. -/
theorem s5 {c : UInt8} (h : c ∈ steps5) : c = 61 ∨ c = 120 ∨ c = 45 ∨ c = 43 ∨ c = 126 := by
  simp [steps5] at h
  rcases h with h | h | h | h | h <;> simp [h]
set_option maxRecDepth 20000 in
set_option maxHeartbeats 8000000 in
theorem c_sMissedLetters (a b : ByteArray) (w : World) (ha : a.size ≤ maxLen) (hb : b.size ≤ maxLen) :
    Calls Try.prog 35 #[.string a, .string b] w (MlPost (mlL (bl a) (bl b)) (mlZ (bl a) (bl b)) (twoC (bl a) (bl b)) w) := by
  rcases twoC_cases (bl a) (bl b) with ⟨h, t1, t2⟩ | ⟨h, _⟩
  · have C0 := align_s a b (typB_len t1) (typB_len t2)
    have hfit := fitS_aln _ (bl a) (bl b) (Nat.le_refl _)
    have hlen := alnL_len (bl a) (bl b)
    have l1 := typB_len t1
    have l2 := typB_len t2
    rw [bl_len, bl_len] at hlen
    rw [mlL, mlZ, h, if_pos rfl, if_pos rfl, misA]
    obtain ⟨s, hs⟩ : ∃ s, sb (alnL (bl a) (bl b)) = s := ⟨_, rfl⟩
    have hs2 : alnL (bl a) (bl b) = bl s := by rw [← hs, bl_sb]
    rw [hs2] at hfit hlen ⊢
    rw [bl_len] at hlen
    rw [hs] at C0
    have C := Lib.hid C0
    have H := Lib.hid h
    have T1 := Lib.hid t1
    have HF := Lib.hid hfit
    have hmk : ∀ W : World, (Instr.makeSlice 22 (.int .i64 127) (.int .i64 127)).run Try.prog W = .ok (.slice (some ⟨W.heap.size, 0, none⟩) 127 127) (W.alloc (.cells (madeCells (Value.cells (.int .i64 0)) 127) 2)) := run_make_any (P := Try.prog) 22 2 _ 1 8 Try.underlying22 info_int64 .i64 .i64 127 (by omega) (by omega)
    clear h t1 t2 C0 hfit hs hs2
    go_enter Try.func35, Try.ntmps35
    go_wp2_with (first | (go_at_call 41; refine (c_l19Two _ _ _ H.out _ ha hb).mono ?_; rintro r_ w' ⟨rfl, rfl⟩) | (go_at_call 48; refine (C.out _).mono ?_; rintro r_ w1 ⟨rfl, hb1⟩; have hz1 := hb1.size))
    have hB0 : Below w.heap.size w (w1.alloc (.cells (madeCells (Value.cells (.int .i64 0)) 127) 2)) := by (repeat' (first | (with_reducible exact Below.refl _ _) | (with_reducible assumption) | (with_reducible refine below_drewN ?_ _) | (with_reducible refine Below.drew ?_) | (with_reducible refine Below.alloc ?_ ?_ _) | (with_reducible refine Below.setCell ?_ ?_ _) | go_size))
    have hrow0 := Lib.hid (((rowIs_made (w := w1) (Value.cells (.int .i64 0)) 127 2).congr (fun i hi => show _ = cntV [] i by
      show (#[Value.int .i64 0] : Array Value)[i % 1]! = _
      rw [Nat.mod_one]; rfl)))
    have hwg : w.heap.size ≤ w1.heap.size := by omega
    go_loopw [10, 11] (fun q i wr => ∃ (x k : Nat) (S : List UInt8), k ≤ s.size ∧ q = .int .i64 x ∧ i = .int .i64 k ∧ x ≤ a.size ∧ Hid (MisInv (bl a) (bl s) k x S) ∧ Below w.heap.size w wr ∧ Hid (wr.rowIs w1.heap.size 2 127 (cntV S))) (fun _ i _ => s.size - (intOf i).toNat)
    case atStart => exact ⟨0, 0, [], Nat.zero_le _, rfl, rfl, Nat.zero_le _, Lib.hid (MisInv.start HF.out), hB0, hrow0⟩
    case round =>
     obtain ⟨x, k, S, hk, rfl, rfl, hxa, hn, hB, hrow⟩ := hrel
     have hz := hB.size
     have hgl : w1.heap.size < wr.heap.size := hrow.out.lt
     clear hB0 hrow0
     by_cases hlt : k < s.size
     · have hg := Lib.hid (bl_get s k hlt)
       have hat := (hn.out.at_step hg.out).2
       have hsb := s5 (hn.out.at_step hg.out).1
       rcases hsb with hc | hc | hc | hc | hc
       · have hsd : stD s[k] = 1 := by rw [hc]; rfl
         rw [hsd] at hat
         have q43 : ((s[k].toNat : Int) == 43) = false := by rw [hc]; rfl
         have q45 : ((s[k].toNat : Int) == 45) = false := by rw [hc]; rfl
         have q120 : ((s[k].toNat : Int) == 120) = false := by rw [hc]; rfl
         have q126 : ((s[k].toNat : Int) == 126) = false := by rw [hc]; rfl
         have q61 : ((s[k].toNat : Int) == 61) = true := by rw [hc]; rfl
         have HI := Lib.hid (hn.out.skip hg.out (by rw [hc]; decide))
         rw [hsd] at HI
         rw [bl_len] at hat
         clear hc hsd
         go_wp2_with fail
         go_roundw
         case rel => first | exact ⟨x + 1, k + 1, S, by omega, by go_num, by go_num, by omega, HI, hB, hrow⟩ | ((repeat apply Exists.intro); exact ⟨⟨x + 1, k + 1, S, by omega, by go_num, by go_num, by omega, HI, hB, hrow⟩, rfl⟩)
         case measure => simp [intOf]; omega
       · have hsd : stD s[k] = 1 := by rw [hc]; rfl
         rw [hsd] at hat
         have q43 : ((s[k].toNat : Int) == 43) = false := by rw [hc]; rfl
         have q45 : ((s[k].toNat : Int) == 45) = false := by rw [hc]; rfl
         have q120 : ((s[k].toNat : Int) == 120) = true := by rw [hc]; rfl
         have q126 : ((s[k].toNat : Int) == 126) = false := by rw [hc]; rfl
         have q61 : ((s[k].toNat : Int) == 61) = false := by rw [hc]; rfl
         have hx1 : x < a.size := by rw [bl_len] at hat; omega
         have hu := Lib.hid (bl_get a x hx1)
         have hr := typB_get T1.out (List.mem_of_getElem? hu.out)
         have HI := Lib.hid (hn.out.miss hg.out (by rw [hc]; decide) hu.out)
         obtain ⟨m, hm⟩ : ∃ m, cntM S a[x].toNat = m := ⟨_, rfl⟩
         have hml : m ≤ 120 := by
           have h1 := cntM_le S a[x].toNat
           have h2 := hn.out.len
           omega
         have r0 : wr.cell? ⟨w1.heap.size, a[x].toNat, none⟩ = some (.int .i64 ((m : Nat) : Int)) := by rw [← hm]; exact hrow.out.cell (by omega)
         have f0 := hrow.out.frozen a[x].toNat
         have HM := Lib.hid hm
         have hr1 : (a[x].toNat : Int) < 127 := by omega
         have hxi : (x : Int) < (a.size : Int) := by omega
         clear hm hc hsd hat hr
         go_wp2_with fail
         go_roundw
         case rel => first | exact ⟨x + 1, k + 1, S ++ [a[x]], by omega, by go_num, by go_num, by omega, HI, hB.setCell hwg _, Lib.hid (cnt_set HM.out hrow.out)⟩ | ((repeat apply Exists.intro); exact ⟨⟨x + 1, k + 1, S ++ [a[x]], by omega, by go_num, by go_num, by omega, HI, hB.setCell hwg _, Lib.hid (cnt_set HM.out hrow.out)⟩, rfl⟩)
         case measure => simp [intOf]; omega
       · have hsd : stD s[k] = 1 := by rw [hc]; rfl
         rw [hsd] at hat
         have q43 : ((s[k].toNat : Int) == 43) = false := by rw [hc]; rfl
         have q45 : ((s[k].toNat : Int) == 45) = true := by rw [hc]; rfl
         have q120 : ((s[k].toNat : Int) == 120) = false := by rw [hc]; rfl
         have q126 : ((s[k].toNat : Int) == 126) = false := by rw [hc]; rfl
         have q61 : ((s[k].toNat : Int) == 61) = false := by rw [hc]; rfl
         have hx1 : x < a.size := by rw [bl_len] at hat; omega
         have hu := Lib.hid (bl_get a x hx1)
         have hr := typB_get T1.out (List.mem_of_getElem? hu.out)
         have HI := Lib.hid (hn.out.miss hg.out (by rw [hc]; decide) hu.out)
         obtain ⟨m, hm⟩ : ∃ m, cntM S a[x].toNat = m := ⟨_, rfl⟩
         have hml : m ≤ 120 := by
           have h1 := cntM_le S a[x].toNat
           have h2 := hn.out.len
           omega
         have r0 : wr.cell? ⟨w1.heap.size, a[x].toNat, none⟩ = some (.int .i64 ((m : Nat) : Int)) := by rw [← hm]; exact hrow.out.cell (by omega)
         have f0 := hrow.out.frozen a[x].toNat
         have HM := Lib.hid hm
         have hr1 : (a[x].toNat : Int) < 127 := by omega
         have hxi : (x : Int) < (a.size : Int) := by omega
         clear hm hc hsd hat hr
         go_wp2_with fail
         go_roundw
         case rel => first | exact ⟨x + 1, k + 1, S ++ [a[x]], by omega, by go_num, by go_num, by omega, HI, hB.setCell hwg _, Lib.hid (cnt_set HM.out hrow.out)⟩ | ((repeat apply Exists.intro); exact ⟨⟨x + 1, k + 1, S ++ [a[x]], by omega, by go_num, by go_num, by omega, HI, hB.setCell hwg _, Lib.hid (cnt_set HM.out hrow.out)⟩, rfl⟩)
         case measure => simp [intOf]; omega
       · have hsd : stD s[k] = 0 := by rw [hc]; rfl
         rw [hsd] at hat
         have q43 : ((s[k].toNat : Int) == 43) = true := by rw [hc]; rfl
         have q45 : ((s[k].toNat : Int) == 45) = false := by rw [hc]; rfl
         have q120 : ((s[k].toNat : Int) == 120) = false := by rw [hc]; rfl
         have q126 : ((s[k].toNat : Int) == 126) = false := by rw [hc]; rfl
         have q61 : ((s[k].toNat : Int) == 61) = false := by rw [hc]; rfl
         have HI := Lib.hid (hn.out.skip hg.out (by rw [hc]; decide))
         rw [hsd] at HI
         rw [bl_len] at hat
         clear hc hsd
         go_wp2_with fail
         go_roundw
         case rel => first | exact ⟨x, k + 1, S, by omega, by go_num, by go_num, by omega, HI, hB, hrow⟩ | ((repeat apply Exists.intro); exact ⟨⟨x, k + 1, S, by omega, by go_num, by go_num, by omega, HI, hB, hrow⟩, rfl⟩)
         case measure => simp [intOf]; omega
       · have hsd : stD s[k] = 2 := by rw [hc]; rfl
         rw [hsd] at hat
         have q43 : ((s[k].toNat : Int) == 43) = false := by rw [hc]; rfl
         have q45 : ((s[k].toNat : Int) == 45) = false := by rw [hc]; rfl
         have q120 : ((s[k].toNat : Int) == 120) = false := by rw [hc]; rfl
         have q126 : ((s[k].toNat : Int) == 126) = true := by rw [hc]; rfl
         have q61 : ((s[k].toNat : Int) == 61) = false := by rw [hc]; rfl
         have HI := Lib.hid (hn.out.skip hg.out (by rw [hc]; decide))
         rw [hsd] at HI
         rw [bl_len] at hat
         clear hc hsd
         go_wp2_with fail
         go_roundw
         case rel => first | exact ⟨x + 2, k + 1, S, by omega, by go_num, by go_num, by omega, HI, hB, hrow⟩ | ((repeat apply Exists.intro); exact ⟨⟨x + 2, k + 1, S, by omega, by go_num, by go_num, by omega, HI, hB, hrow⟩, rfl⟩)
         case measure => simp [intOf]; omega
     · obtain rfl : k = s.size := by omega
       have hS := hn.out.done (by rw [bl_len]; omega)
       have HS := Lib.hid hS
       have hmem : ∀ c, memB S c = true → 32 ≤ c.toNat ∧ c.toNat < 127 := fun c hc => typB_get T1.out (misL_mem (hS ▸ (of_decide_eq_true hc)))
       have E1 := Lib.hid (srtN_low (p := memB S) (k := 32) (by omega) fun c hc => (hmem c hc).1)
       have E2 := Lib.hid (srtN_high (p := memB S) (k := 127) (fun c hc => (hmem c hc).2) 129 (by omega))
       have hcl : ∀ j, cntM S j ≤ 120 := fun j => by
         have h1 := cntM_le S j
         have h2 := hn.out.len
         omega
       have CL := Lib.hid hcl
       clear hn hS hmem hcl
       go_wp2_with fail
       rename World => wb
       have HG := Lib.hid (hrow.out)
       clear hrow
       go_loopw [12, 13, 14] (fun v o i wq => ∃ c : Nat, 32 ≤ c ∧ c ≤ 127 ∧ i = .int .i64 c ∧ Below wb.heap.size wb wq ∧ Hid (BRow wq wb.heap.size v (srtN (memB S) c)) ∧ Hid (ZRow wq wb.heap.size o S (srtN (memB S) c))) (fun _ _ i _ => 127 - (intOf i).toNat)
       case atStart => exact ⟨32, by omega, by omega, rfl, by (repeat' (first | (with_reducible exact Below.refl _ _) | (with_reducible assumption) | (with_reducible refine below_drewN ?_ _) | (with_reducible refine Below.drew ?_) | (with_reducible refine Below.alloc ?_ ?_ _) | (with_reducible refine Below.setCell ?_ ?_ _) | go_size)), by show BRow _ _ _ _; rw [E1.out]; exact (BRow.made _).later (by (repeat' (first | (with_reducible exact Below.refl _ _) | (with_reducible assumption) | (with_reducible refine below_drewN ?_ _) | (with_reducible refine Below.drew ?_) | (with_reducible refine Below.alloc ?_ ?_ _) | (with_reducible refine Below.setCell ?_ ?_ _) | go_size))), by show ZRow _ _ _ _ _; rw [E1.out]; exact ZRow.made2 S _ _⟩
       case round =>
        obtain ⟨c, hc1, hc2, rfl, hB2, hv, ho⟩ := hrel
        have hz2 := hB2.size
        have hB3 := hB.trans (hB2.mono hz)
        by_cases hlc : c < 127
        · have hc256 : c < 256 := by omega
          have hR1 := HG.out.of_block (hB2.block w1.heap.size hgl)
          have r0 := hR1.cell hlc
          have hu8 := u8_of c hc256
          have hln := srtN_len (memB S) (k := c) (by omega)
          have hgw : w1.heap.size < wr.heap.size := by omega
          have hcv := conv_byte c hc256
          have hcI : (c : Int) < 127 := by omega
          have hcZ : (0 : Int) ≤ (c : Int) := by omega
          unfold cntV at r0
          clear hR1
          by_cases hp : 0 < cntM S c
          · have hmb : memB S (UInt8.ofNat c) = true := decide_eq_true (cntM_pos.1 (by rw [hu8]; exact hp))
            have E := Lib.hid (srtN_yes hmb)
            have hm5 := CL.out c
            have HC : Hid (cntM S (UInt8.ofNat c).toNat = cntM S c) := by show cntM S _ = _; rw [hu8]
            generalize cntM S c = m at *
            generalize UInt8.ofNat c = d at *
            clear hu8 hmb
            have hpI : (0 : Int) < (m : Int) := by omega
            go_wp2_with (first | (at_builtin; refine app1 rfl (.tmp 73) (.tmp 76) _ rfl wb.heap.size 5 _ 1 Try.underlying51 info_uint8 rfl _ _ rfl _ _ _ rfl hv.out rfl (by omega) (by omega) hz2 ?_; intro v' w2 hown2 hb2 hg2; have HO2 := Lib.hid hown2; have ho2 := Lib.hid (World.ownsRow.kept ho.out hg2 (own_types ho.out hv.out (by decide))); have hz3 := hb2.size; have c2 := hb2.cell (p := ⟨w1.heap.size, c, none⟩) hgl; clear hown2) | (at_builtin; refine app1 rfl (.tmp 78) (.tmp 83) _ rfl wb.heap.size 2 _ 8 Try.underlying22 info_int64 rfl _ _ rfl _ _ _ rfl ho2.out rfl (by omega) (by omega) (by omega) ?_; intro o' w3 hown3 hb3 hg3; have HO3 := Lib.hid hown3; have HV3 := Lib.hid (World.ownsRow.kept HO2.out hg3 (own_types HO2.out ho2.out (by decide))); clear hown3))
            go_roundw
            case rel => first | exact ⟨c + 1, by omega, by omega, by go_num, hB2.trans (hb2.trans hb3), by show BRow _ _ _ _; rw [E.out]; exact BRow.snoc HV3.out, by show ZRow _ _ _ _ _; rw [E.out]; exact ZRow.snoc HC.out HO3.out⟩ | ((repeat apply Exists.intro); exact ⟨⟨c + 1, by omega, by omega, by go_num, hB2.trans (hb2.trans hb3), by show BRow _ _ _ _; rw [E.out]; exact BRow.snoc HV3.out, by show ZRow _ _ _ _ _; rw [E.out]; exact ZRow.snoc HC.out HO3.out⟩, rfl⟩)
            case measure => simp [intOf]; omega
          · have hm0 : cntM S c = 0 := by omega
            have hmb : memB S (UInt8.ofNat c) = false := by
              rw [memB, decide_eq_false_iff_not]
              intro hcon
              have := cntM_pos.2 hcon
              rw [hu8] at this
              exact hp this
            have E := Lib.hid (srtN_no hmb)
            rw [hm0] at r0
            clear hu8 hmb hm0 hp
            go_wp2_with fail
            go_roundw
            case rel => first | exact ⟨c + 1, by omega, by omega, by go_num, hB2, by show BRow _ _ _ _; rw [E.out]; exact hv.out, by show ZRow _ _ _ _ _; rw [E.out]; exact ho.out⟩ | ((repeat apply Exists.intro); exact ⟨⟨c + 1, by omega, by omega, by go_num, hB2, by show BRow _ _ _ _; rw [E.out]; exact hv.out, by show ZRow _ _ _ _ _; rw [E.out]; exact ho.out⟩, rfl⟩)
            case measure => simp [intOf]; omega
        · obtain rfl : c = 127 := by omega
          have hconv := hv.out.text
          have E3 : srtN (memB S) 127 = srt (memB S) := E2.out.symm
          have h3 := ho.out
          rw [E3] at h3
          have ho3 := Lib.hid h3
          clear h3
          rw [E3] at hconv
          clear E3
          go_wp2_with fail
          go_returns
          rw [← HS.out]
          exact MlPost.mk_ (cntZ_len _ _) (own_bs ho3.out hz) hB3
  · rw [mlL, mlZ, h, if_neg (by decide), if_neg (by decide)]
    have H := Lib.hid h
    clear h
    go_enter Try.func35, Try.ntmps35
    go_wp2_with (go_at_call 41; refine (c_l19Two _ _ _ H.out _ ha hb).mono ?_; rintro r_ w' ⟨rfl, rfl⟩)
    go_returns
    exact MlPost.mk_ rfl (World.ownsRow_nil _ _ _ _) (Below.refl _ _)
end Go.Proofs.Ythgoofjojanakaa
