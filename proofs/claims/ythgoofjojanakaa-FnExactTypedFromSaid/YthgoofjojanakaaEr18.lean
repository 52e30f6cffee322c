/- The text that was typed: plain law, and the reference's walk. -/
import Derived.Test.YthgoofjojanakaaEr17
import Derived.Test.YthgoofjojanakaaAq
import Derived.Deep.RegionLaw
namespace Go.Proofs.Ythgoofjojanakaa
open Go.RowKit Go.BigFrame
attribute [local go_sem] sub_cell sub_frozen drewN_setCell

/-- What one step leaves of the text and of the other letters, and what it types. -/
def typS (c : UInt8) (W X : List UInt8) : Option (List UInt8 × List UInt8 × List UInt8) :=
  if c = 43 then (match X with | x :: X => some (W, X, [x]) | [] => none)
  else if c = 120 then (match W, X with | _ :: W, x :: X => some (W, X, [x]) | _, _ => none)
  else if c = 45 then (match W with | _ :: W => some (W, X, []) | [] => none)
  else if c = 61 then (match W with | a :: W => some (W, X, [a]) | [] => none)
  else if c = 126 then (match W with | a :: b :: W => some (W, X, [b, a]) | _ => none)
  else none
def typF : List UInt8 → List UInt8 → List UInt8 → List UInt8 → Option (List UInt8 × List UInt8)
  | [], _, X, o => some (o, X)
  | c :: s, W, X, o => match typS c W X with | some (W', X', p) => typF s W' X' (o ++ p) | none => none
theorem typF_stop {l W X o : List UInt8} {m : Nat} {c : UInt8} (h : l[m]? = some c) (hs : typS c W X = none) : typF (l.drop m) W X o = none := by
  obtain ⟨hm, rfl⟩ := List.getElem?_eq_some_iff.1 h
  rw [List.drop_eq_getElem_cons hm, typF, hs]
theorem typF_step {l W X o W' X' p : List UInt8} {m : Nat} {c : UInt8} (h : l[m]? = some c) (hs : typS c W X = some (W', X', p)) : typF (l.drop m) W X o = typF (l.drop (m + 1)) W' X' (o ++ p) := by
  obtain ⟨hm, rfl⟩ := List.getElem?_eq_some_iff.1 h
  rw [List.drop_eq_getElem_cons hm, typF, hs]
theorem typF_end {l W X o : List UInt8} {m : Nat} (h : l.length ≤ m) : typF (l.drop m) W X o = some (o, X) := by
  rw [List.drop_of_length_le h, typF]
/-- The text, and whether all other letters are used. -/
def typR (s W X : List UInt8) : List UInt8 × Bool := match typF s W X [] with | some (o, r) => (o, r.isEmpty) | none => ([], false)
theorem typR_none {s W X : List UInt8} (h : typF s W X [] = none) : typR s W X = ([], false) := by rw [typR, h]
theorem typR_some {s W X o r : List UInt8} (h : typF s W X [] = some (o, r)) : typR s W X = (o, r.isEmpty) := by rw [typR, h]
attribute [local go_sem] sb_size sb_get0 sb_get1 sb_toList mt_toList cons_beq_nil nil_beq_nil List.length_cons List.length_nil u8_eq u8_ne sb_ex1 sb_ex2
theorem BRow.snoc2 {w' : World} {base : Nat} {l : List UInt8} {v' : Value} {c d : UInt8} (h : w'.ownsRow base 5 1 v' (l.length + 2) (l.map bv ++ [.int .u8 (c.toNat : Int), .int .u8 (d.toNat : Int)])) : BRow w' base v' (l ++ [c, d]) := by
  unfold BRow
  rw [List.length_append, List.map_append]
  exact h
set_option maxRecDepth 20000 in
set_option maxHeartbeats 8000000 in
theorem c_l19Typed (W X : List UInt8) (s : ByteArray) (t : List UInt8) (b : Bool) (hr : typR (bl s) W X = (t, b)) (hst : (bl s).all isStepB = true) (w : World) (hW : W.length ≤ 1048576) (hX : X.length ≤ 1048576) (hs : s.size ≤ 1048576) :
    Calls Try.prog 51 #[.string (sb W), .string s, .string (sb X)] w fun e w' => e = .returned (.tuple #[.string (sb t), .bool b]) ∧ Below w.heap.size w w' := by
  have HR := Lib.hid hr
  have HST := Lib.hid hst
  clear hst hr
  go_enter Try.func51, Try.ntmps51
  go_wp2_with fail
  go_loopw [0, 2, 8, 9] (fun x y v z wr => ∃ W' X' o : List UInt8, ∃ m : Nat, W'.length ≤ 1048576 ∧ X'.length ≤ 1048576 ∧ o.length ≤ 2 * m ∧ m ≤ s.size ∧ x = .string (sb W') ∧ y = .string (sb X') ∧ z = .int .i64 m ∧ Below w.heap.size w wr ∧ Hid (BRow wr w.heap.size v o) ∧ Hid (typF ((bl s).drop m) W' X' o = typF (bl s) W X [])) (fun _ _ _ z _ => s.size - (intOf z).toNat)
  case atStart => exact ⟨W, X, [], 0, hW, hX, by simp, by omega, rfl, rfl, rfl, by (repeat' (first | (with_reducible exact Below.refl _ _) | (with_reducible assumption) | (with_reducible refine below_drewN ?_ _) | (with_reducible refine Below.drew ?_) | (with_reducible refine Below.alloc ?_ ?_ _) | (with_reducible refine Below.setCell ?_ ?_ _) | go_size)), BRow.made _, rfl⟩
  case round =>
    clear hW hX
    obtain ⟨W', X', o, m, hW, hX, ho, hm, rfl, rfl, rfl, hB, hrow, hn⟩ := hrel
    have hz := hB.size
    by_cases hlt : m < s.size
    · have hg := Lib.hid (bl_get s m hlt)
      have hsb := step_at HST.out hg.out
      have HLN : Hid (o.length + 1 ≤ 1099511627776) := by show _ ≤ _; omega
      have HLN2 : Hid (o.length + 2 ≤ 1099511627776) := by show _ ≤ _; omega
      have HO := Lib.hid ho
      clear ho
      rcases stC s[m] with hc | hc | hc | hc | hc | ⟨_, _, _, _, _, e1, e2, e3, e4⟩
      · skip
        have q43 : ((s[m].toNat : Int) == 43) = false := by rw [hc]; rfl
        have q120 : ((s[m].toNat : Int) == 120) = false := by rw [hc]; rfl
        have q45 : ((s[m].toNat : Int) == 45) = false := by rw [hc]; rfl
        have q61 : ((s[m].toNat : Int) == 61) = true := by rw [hc]; rfl
        have q126 : ((s[m].toNat : Int) == 126) = false := by rw [hc]; rfl
        have n43 : ((s[m].toNat : Int) != 43) = true := by rw [hc]; rfl
        have HC := Lib.hid hc
        clear hc hsb
        rcases W' with _ | ⟨a, W'⟩
        · skip
          have HS : Hid (t = [] ∧ b = false) := by show _ ∧ _; have h1 := HR.out; rw [typR_none (hn.out.symm.trans (typF_stop hg.out (by rw [HC.out]; rfl)))] at h1; simp only [Prod.mk.injEq] at h1; exact ⟨h1.1.symm, h1.2.symm⟩
          go_wp2_with fail
          go_returns
          exact ⟨by rw [HS.out.1, HS.out.2]; rfl, hB⟩
        · go_wp2_with (at_builtin; refine app1 rfl (.tmp 90) (.tmp 93) _ rfl w.heap.size 5 _ 1 Try.underlying51 info_uint8 rfl _ _ rfl _ _ _ rfl hrow.out rfl HLN.out (by omega) hz ?_; intro v' w2 hown2 hb2 hg2)
          go_roundw
          case rel => exact ⟨W', X', o ++ [a], m + 1, by (try simp at hW); omega, by (try simp at hX); omega, by simp only [List.length_append, List.length_cons, List.length_nil]; have := HO.out; omega, by omega, rfl, rfl, by go_num, hB.trans hb2, BRow.snoc hown2, by have h1 := typF_step (o := o) hg.out (W := a :: W') (X := X') (W' := W') (X' := X') (p := [a]) (by rw [HC.out]; rfl); exact h1.symm.trans hn.out⟩
          case measure => simp [intOf]; omega
      · skip
        have q43 : ((s[m].toNat : Int) == 43) = false := by rw [hc]; rfl
        have q120 : ((s[m].toNat : Int) == 120) = true := by rw [hc]; rfl
        have q45 : ((s[m].toNat : Int) == 45) = false := by rw [hc]; rfl
        have q61 : ((s[m].toNat : Int) == 61) = false := by rw [hc]; rfl
        have q126 : ((s[m].toNat : Int) == 126) = false := by rw [hc]; rfl
        have n43 : ((s[m].toNat : Int) != 43) = true := by rw [hc]; rfl
        have HC := Lib.hid hc
        clear hc hsb
        rcases X' with _ | ⟨y, X'⟩
        · skip
          have hts : typS 120 W' [] = none := by cases W' <;> rfl
          have HTS := Lib.hid hts
          clear hts
          have HS : Hid (t = [] ∧ b = false) := by show _ ∧ _; have h1 := HR.out; rw [typR_none (hn.out.symm.trans (typF_stop hg.out (by rw [HC.out]; exact HTS.out)))] at h1; simp only [Prod.mk.injEq] at h1; exact ⟨h1.1.symm, h1.2.symm⟩
          go_wp2_with fail
          go_returns
          exact ⟨by rw [HS.out.1, HS.out.2]; rfl, hB⟩
        rcases W' with _ | ⟨a, W'⟩
        · skip
          have HS : Hid (t = [] ∧ b = false) := by show _ ∧ _; have h1 := HR.out; rw [typR_none (hn.out.symm.trans (typF_stop hg.out (by rw [HC.out]; rfl)))] at h1; simp only [Prod.mk.injEq] at h1; exact ⟨h1.1.symm, h1.2.symm⟩
          go_wp2_with fail
          go_returns
          exact ⟨by rw [HS.out.1, HS.out.2]; rfl, hB⟩
        · go_wp2_with (at_builtin; refine app1 rfl (.tmp 75) (.tmp 78) _ rfl w.heap.size 5 _ 1 Try.underlying51 info_uint8 rfl _ _ rfl _ _ _ rfl hrow.out rfl HLN.out (by omega) hz ?_; intro v' w2 hown2 hb2 hg2)
          go_roundw
          case rel => exact ⟨W', X', o ++ [y], m + 1, by (try simp at hW); omega, by (try simp at hX); omega, by simp only [List.length_append, List.length_cons, List.length_nil]; have := HO.out; omega, by omega, rfl, rfl, by go_num, hB.trans hb2, BRow.snoc hown2, by have h1 := typF_step (o := o) hg.out (W := a :: W') (X := y :: X') (W' := W') (X' := X') (p := [y]) (by rw [HC.out]; rfl); exact h1.symm.trans hn.out⟩
          case measure => simp [intOf]; omega
      · skip
        have q43 : ((s[m].toNat : Int) == 43) = false := by rw [hc]; rfl
        have q120 : ((s[m].toNat : Int) == 120) = false := by rw [hc]; rfl
        have q45 : ((s[m].toNat : Int) == 45) = true := by rw [hc]; rfl
        have q61 : ((s[m].toNat : Int) == 61) = false := by rw [hc]; rfl
        have q126 : ((s[m].toNat : Int) == 126) = false := by rw [hc]; rfl
        have n43 : ((s[m].toNat : Int) != 43) = true := by rw [hc]; rfl
        have HC := Lib.hid hc
        clear hc hsb
        rcases W' with _ | ⟨a, W'⟩
        · skip
          have HS : Hid (t = [] ∧ b = false) := by show _ ∧ _; have h1 := HR.out; rw [typR_none (hn.out.symm.trans (typF_stop hg.out (by rw [HC.out]; rfl)))] at h1; simp only [Prod.mk.injEq] at h1; exact ⟨h1.1.symm, h1.2.symm⟩
          go_wp2_with fail
          go_returns
          exact ⟨by rw [HS.out.1, HS.out.2]; rfl, hB⟩
        · go_wp2_with fail
          go_roundw
          case rel => exact ⟨W', X', o ++ [], m + 1, by (try simp at hW); omega, by (try simp at hX); omega, by simp only [List.length_append, List.length_cons, List.length_nil]; have := HO.out; omega, by omega, rfl, rfl, by go_num, hB, by rw [List.append_nil]; exact hrow.out, by have h1 := typF_step (o := o) hg.out (W := a :: W') (X := X') (W' := W') (X' := X') (p := []) (by rw [HC.out]; rfl); exact h1.symm.trans hn.out⟩
          case measure => simp [intOf]; omega
      · skip
        have q43 : ((s[m].toNat : Int) == 43) = true := by rw [hc]; rfl
        have q120 : ((s[m].toNat : Int) == 120) = false := by rw [hc]; rfl
        have q45 : ((s[m].toNat : Int) == 45) = false := by rw [hc]; rfl
        have q61 : ((s[m].toNat : Int) == 61) = false := by rw [hc]; rfl
        have q126 : ((s[m].toNat : Int) == 126) = false := by rw [hc]; rfl
        have n43 : ((s[m].toNat : Int) != 43) = false := by rw [hc]; rfl
        have HC := Lib.hid hc
        clear hc hsb
        rcases X' with _ | ⟨y, X'⟩
        · skip
          have HS : Hid (t = [] ∧ b = false) := by show _ ∧ _; have h1 := HR.out; rw [typR_none (hn.out.symm.trans (typF_stop hg.out (by rw [HC.out]; rfl)))] at h1; simp only [Prod.mk.injEq] at h1; exact ⟨h1.1.symm, h1.2.symm⟩
          go_wp2_with fail
          go_returns
          exact ⟨by rw [HS.out.1, HS.out.2]; rfl, hB⟩
        · go_wp2_with (at_builtin; refine app1 rfl (.tmp 66) (.tmp 69) _ rfl w.heap.size 5 _ 1 Try.underlying51 info_uint8 rfl _ _ rfl _ _ _ rfl hrow.out rfl HLN.out (by omega) hz ?_; intro v' w2 hown2 hb2 hg2)
          go_roundw
          case rel => exact ⟨W', X', o ++ [y], m + 1, by (try simp at hW); omega, by (try simp at hX); omega, by simp only [List.length_append, List.length_cons, List.length_nil]; have := HO.out; omega, by omega, rfl, rfl, by go_num, hB.trans hb2, BRow.snoc hown2, by have h1 := typF_step (o := o) hg.out (W := W') (X := y :: X') (W' := W') (X' := X') (p := [y]) (by rw [HC.out]; rfl); exact h1.symm.trans hn.out⟩
          case measure => simp [intOf]; omega
      · skip
        have q43 : ((s[m].toNat : Int) == 43) = false := by rw [hc]; rfl
        have q120 : ((s[m].toNat : Int) == 120) = false := by rw [hc]; rfl
        have q45 : ((s[m].toNat : Int) == 45) = false := by rw [hc]; rfl
        have q61 : ((s[m].toNat : Int) == 61) = false := by rw [hc]; rfl
        have q126 : ((s[m].toNat : Int) == 126) = true := by rw [hc]; rfl
        have n43 : ((s[m].toNat : Int) != 43) = true := by rw [hc]; rfl
        have HC := Lib.hid hc
        clear hc hsb
        rcases W' with _ | ⟨a, _ | ⟨b', W'⟩⟩
        · skip
          have HS : Hid (t = [] ∧ b = false) := by show _ ∧ _; have h1 := HR.out; rw [typR_none (hn.out.symm.trans (typF_stop hg.out (by rw [HC.out]; rfl)))] at h1; simp only [Prod.mk.injEq] at h1; exact ⟨h1.1.symm, h1.2.symm⟩
          go_wp2_with fail
          go_returns
          exact ⟨by rw [HS.out.1, HS.out.2]; rfl, hB⟩
        · skip
          have HS : Hid (t = [] ∧ b = false) := by show _ ∧ _; have h1 := HR.out; rw [typR_none (hn.out.symm.trans (typF_stop hg.out (by rw [HC.out]; rfl)))] at h1; simp only [Prod.mk.injEq] at h1; exact ⟨h1.1.symm, h1.2.symm⟩
          go_wp2_with fail
          go_returns
          exact ⟨by rw [HS.out.1, HS.out.2]; rfl, hB⟩
        · have hW3 : ¬ ((W'.length : Int) + 1 + 1 < 2) := by omega
          have hW4 : (W'.length : Int) + 1 + 1 ≤ 1048576 := by simp at hW; omega
          have hW5 : (2 : Int) ≤ (W'.length : Int) + 1 + 1 := by omega
          have hW6 : (1 : Int) < (W'.length : Int) + 1 + 1 := by omega
          have hW7 : (0 : Int) < (W'.length : Int) + 1 := by omega
          have hW8 : (0 : Int) < (W'.length : Int) + 1 + 1 := by omega
          go_wp2_with fail
          go_region_law ((refine stepAppM (by rfl) (.tmp 55) (.tmp 60) _ (by rfl) w.heap.size 5 _ 1 1 2 Try.underlying51 info_uint8 (by rfl) (by decide) (by decide) _ _ (by rfl) (by simp [Value.oneCell']) _ _ _ (by rfl) (hrow.out.later (Below.drew (Below.refl _ _))) (by rfl) HLN2.out (by decide) (by simp; omega) ?_; intro v' w2 hown2 hb2 hg2))
          all_goals
            go_wp2_with fail
            go_roundw
            case rel => exact ⟨W', X', o ++ [b', a], m + 1, by (try simp at hW); omega, by (try simp at hX); omega, by simp only [List.length_append, List.length_cons, List.length_nil]; have := HO.out; omega, by omega, rfl, rfl, by go_num, hB.trans ((Below.drew (Below.refl _ _)).trans hb2), BRow.snoc2 hown2, by have h1 := typF_step (o := o) hg.out (W := a :: b' :: W') (X := X') (W' := W') (X' := X') (p := [b', a]) (by rw [HC.out]; rfl); exact h1.symm.trans hn.out⟩
            case measure => simp [intOf]; omega
      · exfalso
        revert hsb
        generalize s[m] = c at *
        intro hsb
        have h2 : ∀ W T, stO W T c = false := e4
        simp only [isStepB, Bool.or_eq_true, beq_iff_eq] at hsb
        rcases hsb with rfl | rfl | rfl | rfl | rfl
        · exact absurd (h2 [0] [0]) (by decide)
        · exact absurd (h2 [0] [0]) (by decide)
        · exact absurd (h2 [0] [0]) (by decide)
        · exact absurd (h2 [0] [1]) (by decide)
        · exact absurd (h2 [0, 1] [1, 0]) (by decide)
    · obtain rfl : m = s.size := by omega
      have HS : Hid (t = o ∧ b = X'.isEmpty) := by
        show _ ∧ _
        have h1 := HR.out
        rw [typR_some (hn.out.symm.trans (typF_end (by rw [bl_len]; omega)))] at h1
        simp only [Prod.mk.injEq] at h1
        exact ⟨h1.1.symm, h1.2.symm⟩
      have hconv := hrow.out.text
      clear hn
      rcases X' with _ | ⟨y, X'⟩
      all_goals
        go_wp2_with fail
        go_returns
        exact ⟨by rw [HS.out.1, HS.out.2]; rfl, hB⟩
end Go.Proofs.Ythgoofjojanakaa
