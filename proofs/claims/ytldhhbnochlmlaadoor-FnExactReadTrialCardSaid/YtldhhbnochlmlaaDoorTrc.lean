/- Contracts: the pieces of a test's text. -/
import Derived.Test.YtldhhbnochlmlaaDoorTrd
namespace Go.Proofs.YtldhhbnochlmlaaDoor
open Go.RowKit Go.BigFrame
attribute [local go_sem] sub_cell sub_frozen drewN_setCell

theorem last_get {s : ByteArray} {m : Nat} (h : s.size = m + 1) : (bl s).getLast? = some (s[m]'(by omega)) := by
  rw [List.getLast?_eq_getElem?, show (bl s).length - 1 = m by rw [bl_len]; omega]
  exact bl_get s m (by omega)
theorem ext_last {s : ByteArray} {m : Nat} (h : s.size = m + 1) : s.extract m (m + 1) = sb [s[m]'(by omega)] := by
  rw [ext_sb]
  congr 1
  have h1 := bl_get s m (by omega)
  obtain ⟨h2, h3⟩ := List.getElem?_eq_some_iff.1 h1
  rw [List.drop_eq_getElem_cons h2, h3, show m + 1 - m = 1 by omega]
  rfl
set_option maxHeartbeats 2000000 in
theorem c_hasS (s : ByteArray) (w : World) (hs : s.size ≤ 1048576) :
    Calls Tryd.prog 28 #[.string s, .string ⟨#[115]⟩] w fun e w' => e = .returned (.bool (sufR (bl s)).2) ∧ w = w' := by
  by_cases h0 : s.size = 0
  · have hN : Hid ((sufR (bl s)).2 = false) := by show _ = _; rw [List.eq_nil_of_length_eq_zero (l := bl s) (by rw [bl_len, h0])]; rfl
    go_enter Tryd.func28, Tryd.ntmps28
    go_wp2_with fail
    go_ret
    exact ⟨by rw [hN.out]; rfl, rfl⟩
  · obtain ⟨m, hm⟩ : ∃ m, s.size = m + 1 := ⟨s.size - 1, by omega⟩
    have hl := last_get hm
    have hx := ext_last hm
    obtain ⟨c, hc⟩ : ∃ c, s[m]'(by omega) = c := ⟨_, rfl⟩
    rw [hc] at hl hx
    by_cases h115 : c = 115
    · have hN : Hid ((sufR (bl s)).2 = true) := by show _ = _; unfold sufR; rw [if_pos (by rw [hl, h115])]
      have hq : ((sb [c]).toList == [115]) = true := by rw [sb_toList, h115]; rfl
      clear hl hc h115
      go_enter Tryd.func28, Tryd.ntmps28
      go_wp2_with fail
      go_ret
      exact ⟨by rw [hN.out]; rfl, rfl⟩
    · have hN : Hid ((sufR (bl s)).2 = false) := by show _ = _; unfold sufR; rw [if_neg (by rw [hl]; exact fun e => h115 (Option.some.inj e))]
      have hq : ((sb [c]).toList == [115]) = false := by
        rw [sb_toList, beq_eq_false_iff_ne]
        intro e; simp at e; exact h115 e
      clear hl hc h115
      go_enter Tryd.func28, Tryd.ntmps28
      go_wp2_with fail
      go_ret
      exact ⟨by rw [hN.out]; rfl, rfl⟩
theorem suf_ext {s : ByteArray} {m : Nat} (h : s.size = m + 1) (hk : (sufR (bl s)).2 = true) : s.extract 0 m = sb (sufR (bl s)).1 := by
  rw [ext_sb]
  congr 1
  have h1 := last_get h
  unfold sufR at hk ⊢
  split
  · rw [List.drop_zero, Nat.sub_zero, List.dropLast_eq_take, bl_len, h]; rfl
  · rename_i hn; rw [if_neg hn] at hk; cases hk
theorem suf_no {l : List UInt8} (hk : (sufR l).2 = false) : (sufR l).1 = l := by
  unfold sufR at hk ⊢
  split
  · rename_i hn; rw [if_pos hn] at hk; cases hk
  · rfl
set_option maxHeartbeats 2000000 in
theorem c_cutS0 (s : ByteArray) (w : World) (hs : s.size ≤ 1048576) :
    Calls Tryd.prog 25 #[.string s, .string ⟨#[115]⟩] w fun e w' => e = .returned (.tuple #[.string (sb (sufR (bl s)).1), .bool (sufR (bl s)).2]) ∧ w = w' := by
  have C := Lib.hid (fun W => c_hasS s W hs)
  cases hk : (sufR (bl s)).2
  · rw [hk] at C
    have H := Lib.hid (suf_no hk)
    clear hk
    go_enter Tryd.func25, Tryd.ntmps25
    go_wp2_with (go_at_call 28; refine (C.out _).mono ?_; rintro r_ w' ⟨rfl, rfl⟩)
    go_returns
    exact ⟨by rw [H.out, sb_bl]; rfl, rfl⟩
  · rw [hk] at C
    have hp : 0 < s.size := by
      rcases Nat.eq_zero_or_pos s.size with h | h
      · rw [List.eq_nil_of_length_eq_zero (l := bl s) (by rw [bl_len, h])] at hk; cases hk
      · exact h
    obtain ⟨m, hm⟩ : ∃ m, s.size = m + 1 := ⟨s.size - 1, by omega⟩
    have hx := suf_ext hm hk
    obtain ⟨t, ht⟩ : ∃ t, sb (sufR (bl s)).1 = t := ⟨_, rfl⟩
    rw [ht] at hx ⊢
    clear hk ht
    go_enter Tryd.func25, Tryd.ntmps25
    go_wp2_with (go_at_call 28; refine (C.out _).mono ?_; rintro r_ w' ⟨rfl, rfl⟩)
    go_returns
    exact ⟨rfl, rfl⟩
theorem c_cutS (s : ByteArray) (w : World) (hs : s.size ≤ 1048576) :
    Calls Tryd.prog 18 #[.string s, .string ⟨#[115]⟩] w fun e w' => e = .returned (.tuple #[.string (sb (sufR (bl s)).1), .bool (sufR (bl s)).2]) ∧ w = w' := by
  have C := Lib.hid (fun W => c_cutS0 s W hs)
  generalize sb (sufR (bl s)).1 = t at *
  generalize (sufR (bl s)).2 = k at *
  go_enter Tryd.func18, Tryd.ntmps18
  go_wp2_with (go_at_call 25; refine (C.out _).mono ?_; rintro r_ w' ⟨rfl, rfl⟩)
  go_returns
  exact ⟨rfl, rfl⟩
theorem cutL_short {sep : List UInt8} : ∀ {l : List UInt8}, l.length < sep.length → cutL sep l = none := by
  intro l
  induction l with
  | nil =>
    intro h
    simp only [cutL]
    rw [if_neg]
    intro hp
    have := (List.isPrefixOf_iff_prefix.1 hp).length_le
    omega
  | cons c r ih =>
    intro h
    simp only [cutL]
    rw [if_neg, ih (by simp at h; omega)]
    · rfl
    · intro hp
      have := (List.isPrefixOf_iff_prefix.1 hp).length_le
      omega
theorem pre_iff {sep m : List UInt8} : sep.isPrefixOf m = true ↔ m.take sep.length = sep := by
  rw [List.isPrefixOf_iff_prefix, List.prefix_iff_eq_take]
  exact ⟨fun h => h.symm, fun h => h.symm⟩
/-- The first i places are none. -/
structure CutInv (sep l : List UInt8) (i : Nat) : Prop where
  le : i ≤ l.length
  eq : cutL sep l = (cutL sep (l.drop i)).map fun x => (l.take i ++ x.1, x.2)
section
variable {sep l : List UInt8} {i : Nat}
theorem CutInv.start (sep l : List UInt8) : CutInv sep l 0 := ⟨Nat.zero_le _, by
  simp only [List.drop_zero, List.take_zero, List.nil_append]
  cases cutL sep l <;> rfl⟩
theorem CutInv.step (h : CutInv sep l i) (hi : i < l.length) (hn : (l.drop i).take sep.length ≠ sep) : CutInv sep l (i + 1) := by
  refine ⟨hi, ?_⟩
  rw [h.eq, List.drop_eq_getElem_cons hi]
  simp only [cutL]
  rw [if_neg (by rw [pre_iff, ← List.drop_eq_getElem_cons hi]; exact hn)]
  cases cutL sep (l.drop (i + 1)) with
  | none => rfl
  | some x =>
    simp only [Option.map_some]
    have e : l.take (i + 1) = l.take i ++ [l[i]] := by rw [List.take_add_one, List.getElem?_eq_getElem hi]; rfl
    rw [e]
    simp only [List.append_assoc, List.cons_append, List.nil_append]
theorem CutInv.found (h : CutInv sep l i) (hs : sep ≠ []) (hn : (l.drop i).take sep.length = sep) : cutR sep l = (l.take i, l.drop (i + sep.length), true) := by
  unfold cutR
  have h1 : cutL sep (l.drop i) = some ([], (l.drop i).drop sep.length) := by
    cases hd : l.drop i with
    | nil => rw [hd] at hn; simp at hn; exact absurd hn hs
    | cons c r =>
      rw [hd] at hn
      simp only [cutL]
      rw [if_pos (pre_iff.2 hn)]
  rw [h.eq, h1]
  simp [List.drop_drop]
theorem CutInv.done (h : CutInv sep l i) (hi : l.length < i + sep.length) : cutR sep l = (l, [], false) := by
  unfold cutR
  rw [h.eq, cutL_short (by rw [List.length_drop]; have := h.le; omega)]
  rfl
end
theorem ext_pre (s sp : ByteArray) (i : Nat) : decide (s.extract i (i + sp.size) = sp) = decide (((bl s).drop i).take (bl sp).length = bl sp) := by
  rw [decide_eq_decide, ext_sb, Nat.add_sub_cancel_left, bl_len]
  exact ⟨fun h => by rw [← h, bl_sb]; simp [bl_len]; rw [← h] ; simp [bl_sb, sb_size], fun h => by rw [h, sb_bl]⟩
set_option maxHeartbeats 4000000 in
theorem c_cut (s sp : ByteArray) (w : World) (hs : s.size ≤ 1048576) (hp0 : 0 < sp.size) (hp : sp.size ≤ 100) (a b : List UInt8) (k : Bool) (hr : cutR (bl sp) (bl s) = (a, b, k)) :
    Calls Tryd.prog 17 #[.string s, .string sp] w fun e w' => e = .returned (.tuple #[.string (sb a), .string (sb b), .bool k]) ∧ Below w.heap.size w w' := by
  have HR := Lib.hid hr
  clear hr
  go_enter Tryd.func17, Tryd.ntmps17
  go_wp2_with fail
  go_loopw [7] (fun i wr => ∃ m : Nat, m ≤ s.size ∧ i = .int .i64 m ∧ Below w.heap.size w wr ∧ Hid (CutInv (bl sp) (bl s) m)) (fun i _ => s.size - (intOf i).toNat)
  case atStart => exact ⟨0, Nat.zero_le _, rfl, Below.refl _ _, CutInv.start _ _⟩
  case round =>
    obtain ⟨m, hm, rfl, hB, hI⟩ := hrel
    by_cases hle : m + sp.size ≤ s.size
    · have hleI : (m : Int) + (sp.size : Int) ≤ (s.size : Int) := by omega
      have hq := beq_texts (s := s.extract m (m + sp.size)) (t := sp)
      rw [ext_pre] at hq
      by_cases hf : ((bl s).drop m).take (bl sp).length = bl sp
      · have hF := hI.out.found (by intro e; rw [← bl_len, e] at hp0; simp at hp0) hf
        rw [HR.out] at hF
        simp only [Prod.mk.injEq] at hF
        obtain ⟨rfl, rfl, rfl⟩ := hF
        rw [decide_eq_true hf] at hq
        have hx1 : s.extract 0 m = sb ((bl s).take m) := by rw [ext_sb]; rfl
        have hx2 : s.extract (m + sp.size) s.size = sb ((bl s).drop (m + (bl sp).length)) := by rw [ext_end, bl_len]
        obtain ⟨t1, ht1⟩ : ∃ t, sb ((bl s).take m) = t := ⟨_, rfl⟩
        obtain ⟨t2, ht2⟩ : ∃ t, sb ((bl s).drop (m + (bl sp).length)) = t := ⟨_, rfl⟩
        rw [ht1] at hx1
        rw [ht2] at hx2
        have H1 := Lib.hid ht1
        have H2 := Lib.hid ht2
        clear ht1 ht2 hf hI HR
        go_wp2_with fail
        refine wp_region_below (by kernel_rfl) (by kernel_rfl) ?_
        repeat (go_big_quiet_step (fail))
        refine wpQuiet_nil ?_
        intro _ hw'
        obtain ⟨⟨w9, hb9⟩, hw''⟩ := hw'
        subst hw''
        have hB9 := later hb9 (w := w) hB
        go_wp2_with fail
        go_returns
        exact ⟨by rw [H1.out, H2.out, ← hx2]; rfl, hB9⟩
      · rw [decide_eq_false hf] at hq
        have HI := Lib.hid (hI.out.step (by rw [bl_len]; omega) hf)
        clear hf
        go_wp2_with fail
        go_roundw
        case rel => exact ⟨m + 1, by omega, by go_num, hB, HI⟩
        case measure => simp [intOf]; omega
    · have hF := hI.out.done (by rw [bl_len, bl_len]; omega)
      rw [HR.out] at hF
      simp only [Prod.mk.injEq] at hF
      obtain ⟨rfl, rfl, rfl⟩ := hF
      have hleI : (s.size : Int) < (m : Int) + (sp.size : Int) := by omega
      clear HR hI
      go_wp2_with fail
      go_returns
      exact ⟨by rw [sb_bl]; rfl, hB⟩
end Go.Proofs.YtldhhbnochlmlaaDoor
