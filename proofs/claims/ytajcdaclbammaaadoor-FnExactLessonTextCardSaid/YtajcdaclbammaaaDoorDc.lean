/- Contracts: decimal numerals. -/
import Derived.Test.YtajcdaclbammaaaDoorDl
import Derived.Test.YtajcdaclbammaaaDoorBy
import Derived.Laws.AppendOwnNone
import Derived.Lib.ItoaLen
namespace Go.Proofs.YtajcdaclbammaaaDoor
open Go.RowKit Go.BigFrame
attribute [local go_sem] sub_cell sub_frozen drewN_setCell

/-- The digits of u ahead of t. -/
def dgA (u : Nat) (t : List UInt8) : List UInt8 := if h : u = 0 then t else dgA (u / 10) (UInt8.ofNat (48 + u % 10) :: t)
termination_by u
decreasing_by omega
theorem dgA_zero (t : List UInt8) : dgA 0 t = t := by rw [dgA]; simp
theorem dgA_step (u : Nat) (t : List UInt8) (h : 0 < u) : dgA u t = dgA (u / 10) (UInt8.ofNat (48 + u % 10) :: t) := by
  conv => lhs; rw [dgA]
  rw [dif_neg (by omega)]
theorem dgA_dec (u : Nat) : ∀ t, 0 < u → dgA u t = Lib.decDigits u ++ t := by
  induction u using Nat.strongRecOn with
  | ind u ih =>
    intro t h
    rw [dgA_step u t h, Lib.decDigits]
    by_cases h10 : u < 10
    · rw [dif_pos h10, show u / 10 = 0 by omega, dgA_zero, show u % 10 = u by omega]; rfl
    · rw [dif_neg h10, ih (u / 10) (by omega) _ (by omega)]; simp
structure DecInv (n z : Int) (l : List UInt8) : Prop where
  dig : dgA z.natAbs l = dgA n.natAbs []
  len : l.length ≤ 19
  bd : z.natAbs < 10 ^ (19 - l.length)
theorem DecInv.start {n : Int} (h0 : -9223372036854775808 ≤ n) (h1 : n ≤ 9223372036854775807) : DecInv n n [] :=
  ⟨rfl, by simp, by simp only [List.length_nil, Nat.sub_zero]; have : (10 : Nat) ^ 19 = 10000000000000000000 := by decide
                    omega⟩
theorem DecInv.step {n z z' : Int} {l : List UInt8} (h : DecInv n z l) {m : Nat} (hm : z.natAbs = m) (h0 : 0 < m) (hz : z'.natAbs = m / 10) : DecInv n z' (UInt8.ofNat (48 + m % 10) :: l) := by
  obtain ⟨h1, h2, h3⟩ := h
  rw [hm] at h1 h3
  obtain ⟨k, hk⟩ : ∃ k, 19 - l.length = k + 1 := by
    cases hh : 19 - l.length with
    | zero => rw [hh] at h3; simp at h3; omega
    | succ k => exact ⟨k, rfl⟩
  refine ⟨by rw [hz, ← dgA_step m l h0]; exact h1, by simp; omega, ?_⟩
  rw [hz, List.length_cons, show 19 - (l.length + 1) = k by omega]
  rw [hk, Nat.pow_succ] at h3
  omega
theorem DecInv.done {n : Int} {l : List UInt8} (h : DecInv n 0 l) : l = dgA n.natAbs [] := by
  rw [← h.dig]; exact (dgA_zero l).symm
theorem itoa_neg' {n : Int} (h : n < 0) : Lib.itoa n = 45 :: dgA n.natAbs [] := by
  rw [Lib.itoa, if_pos h, dgA_dec _ _ (by omega), List.append_nil]
theorem itoa_pos' {n : Int} (h : 0 < n) : Lib.itoa n = dgA n.natAbs [] := by
  rw [Lib.itoa, if_neg (by omega), dgA_dec _ _ (by omega), List.append_nil]
  congr 1
  omega
theorem itoa_zero : Lib.itoa 0 = [48] := by rw [Lib.itoa, if_neg (by omega)]; rw [Lib.decDigits]; rfl
theorem dgA_pos {u : Nat} (h : 0 < u) : 0 < (dgA u []).length := by
  rw [dgA_dec u [] h, List.append_nil, Lib.decDigits]
  split <;> simp
theorem dig_nat (q : Nat) : (UInt8.ofNat (48 + q % 10)).toNat = 48 + q % 10 := by
  rw [UInt8.toNat_ofNat_of_lt']
  have := Nat.mod_lt q (show 10 > 0 by omega)
  show _ < 256
  omega
theorem sb_apd (a b : List UInt8) : sb a ++ sb b = sb (a ++ b) := by
  apply sb_ext
  rw [bl_sb]
  simp [bl, sb]

/-- 'out = append([]byte{c}, out...)'. -/
theorem appPre {P : Program} {ops : Array Oper} {rest : List Oper} {o : Oper} {a : Act} {Q : Exit → Act → World → Prop} (hgd : o.guard = none) (s x : Operand) (t : TypeId)
    (ho : o.op = .call { callee := .builtin .append, args := #[s, x], argTypes := #[t, t] })
    (e : TypeId) (z : Value) (bytes : Nat) (ht : P.underlying t = some (.slice e)) (hinfo : (P.info? e).map (fun i => (i.zero, i.size, i.bytes)) = some (some z, 1, bytes)) (hz1 : z.cells.size = 1)
    (W : World) (c : UInt8) (base : Nat) (v : Value) (l : List UInt8) (hs : a.eval s = .slice (some ⟨W.heap.size, 0, none⟩) 1 1) (hx : a.eval x = v) (hown : W.ownsRow base e 1 v l.length (l.map bv))
    (h63 : l.length + 1 ≤ 1099511627776) (hbytes : bytes ≤ 64)
    (h : ∀ v' w', w'.ownsRow W.heap.size e 1 v' ((c :: l).length) ((c :: l).map bv) → Below W.heap.size W w' → wpList P ops Q rest (a.put o.dst v') w') : wpList P ops Q (o :: rest) a (W.alloc (.cells #[.int .u8 (c.toNat : Int)] e)) := by
  obtain ⟨i, hi, hzz⟩ := Option.map_eq_some_iff.1 hinfo
  simp only [Prod.mk.injEq] at hzz
  obtain ⟨hz, hs1, hb1⟩ := hzz
  have hmul : (1 + l.length) * bytes ≤ (1 + l.length) * 64 := Nat.mul_le_mul_left _ hbytes
  have hrow : (W.alloc (.cells #[.int .u8 (c.toNat : Int)] e)).ownsRow W.heap.size e 1 (.slice (some ⟨W.heap.size, 0, none⟩) 1 1) 1 [bv c] := World.ownsRow_lit W #[.int .u8 (c.toNat : Int)] 1 (Nat.le_refl _) (by decide) rfl
  rcases hown.2 with ⟨rfl, h0⟩ | ⟨g, cap, cur, hv, h2⟩
  · obtain rfl : l = [] := List.eq_nil_of_length_eq_zero h0
    refine wpList_append_own_none hgd s x t ho W.heap.size e i 1 ht hi _ 1 [bv c] hs hrow hx ?_
    exact h _ _ hrow ((Below.refl _ _).alloc (Nat.le_refl _) _)
  · subst hv
    have hg : g < W.heap.size := (Array.getElem?_eq_some_iff.1 h2.2.1).1
    refine wpList_append_own (W.alloc (.cells #[.int .u8 (c.toNat : Int)] e)) hgd s x t ho W.heap.size e i z 1 bytes ht hi hz hs1 hb1 hz1 (by omega) _ 1 [bv c] hs hrow ⟨g, 0, none⟩ l.length cap (l.map bv) hx (by simp) ?_ ?_ (by simp only [maxLen]; omega) (by omega) (by simp) ?_
    · intro j u hj
      have hjl : j < l.length := by
        have := (List.getElem?_eq_some_iff.1 hj).1
        simpa using this
      have hc := hown.cellAt j (by omega)
      have hadd : (⟨g, 0, none⟩ : Addr).add j = ⟨g, j, none⟩ := by unfold Addr.add; split <;> simp_all
      rw [hadd, ← hj, ← hc]
      exact ((Below.refl _ _).alloc (Nat.le_refl _) _ : Below W.heap.size W (W.alloc (.cells #[.int .u8 (c.toNat : Int)] e))).cell (p := ⟨g, j, none⟩) hg
    · intro q hq
      obtain ⟨y, _, rfl⟩ := List.mem_map.1 hq
      rfl
    · intro v' w' h1 h2 _
      refine h v' w' ?_ ?_
      · have e1 : 1 + l.length = (c :: l).length := by simp; omega
        rw [e1] at h1
        exact h1
      · exact ((Below.refl _ _).alloc (Nat.le_refl _) _).grown h2 (by simp) fun k hk => by
          have : k = W.heap.size := by simpa [Value.ownBlock] using hk.symm
          omega
/-- An int64 as a byte: a digit. -/
theorem conv_dig (r : Nat) (hr : r < 10) (W : World) : (convert 2 5 (.int .i64 (48 + (r : Int)))).run Tryd.prog W = .ok (.int .u8 ((UInt8.ofNat (48 + r)).toNat : Int)) W := by
  have h5 : Tryd.prog.intKind 5 = .u8 := by kernel_rfl
  have hd : (UInt8.ofNat (48 + r)).toNat = 48 + r := by
    have := dig_nat r
    rwa [Nat.mod_eq_of_lt hr] at this
  rw [run_convert_int (P := Tryd.prog) W 2 5 .i64 _ (by rw [Tryd.underlying2]; rfl) (by rw [h5]; exact Tryd.underlying5), h5, hd]
  have e : IntKind.u8.wrap (48 + (r : Int)) = ((48 + r : Nat) : Int) := by
    simp [IntKind.wrap, IntKind.signed, IntKind.bits]; omega
  rw [e]
theorem tm_pos (m : Nat) : Int.tmod (m : Int) 10 = ((m % 10 : Nat) : Int) := by rw [Int.tmod_eq_emod_of_nonneg (by omega)]; omega
theorem tm_neg (m : Nat) : Int.tmod (-(m : Int)) 10 = -((m % 10 : Nat) : Int) := by rw [Int.neg_tmod, tm_pos]
theorem td_pos (m : Nat) : Int.tdiv (m : Int) 10 = ((m / 10 : Nat) : Int) := by rw [Int.tdiv_eq_ediv_of_nonneg (by omega)]; omega
theorem td_neg (m : Nat) : Int.tdiv (-(m : Int)) 10 = -((m / 10 : Nat) : Int) := by rw [Int.neg_tdiv, td_pos]
theorem own_bsd {w : World} {base base' n sz : Nat} {e : TypeId} {v : Value} {xs : List Value} (h : w.ownsRow base e sz v n xs) (hb : base' ≤ base) : w.ownsRow base' e sz v n xs := by
  refine ⟨h.1, ?_⟩
  rcases h.2 with h1 | ⟨g, cap, cur, hv, hg, r⟩
  · exact .inl h1
  · exact .inr ⟨g, cap, cur, hv, by omega, r⟩
set_option maxRecDepth 20000 in
set_option maxHeartbeats 4000000 in
theorem c_l01Dec (n : Int) (h0 : -9223372036854775808 ≤ n) (h1 : n ≤ 9223372036854775807) (w : World) :
    Calls Tryd.prog 12 #[.int .i64 n] w fun e w' => e = .returned (.string (sb (Lib.itoa n))) ∧ Below w.heap.size w w' := by
  go_enter Tryd.func12, Tryd.ntmps12
  go_wp2_with fail
  go_loopw [3, 4, 5] (fun v q _ wr => ∃ (z : Int) (l : List UInt8), q = .int .i64 z ∧ -9223372036854775808 ≤ z ∧ z ≤ 9223372036854775807 ∧ Below w.heap.size w wr ∧ Hid (DecInv n z l) ∧ Hid (BRow wr w.heap.size v l)) (fun _ q _ _ => (intOf q).natAbs)
  case atStart => exact ⟨n, [], rfl, h0, h1, by (repeat' (first | (with_reducible exact Below.refl _ _) | (with_reducible assumption) | (with_reducible refine below_drewN ?_ _) | (with_reducible refine Below.drew ?_) | (with_reducible refine Below.alloc ?_ ?_ _) | (with_reducible refine Below.setCell ?_ ?_ _) | go_size)), Lib.hid (DecInv.start h0 h1), BRow.made _⟩
  case round =>
    obtain ⟨z, l, rfl, hz0, hz1, hB, hI, hrow⟩ := hrel
    have hz := hB.size
    have hll := hI.out.len
    by_cases hzz : z = 0
    · subst hzz
      have hL := hI.out.done
      have HL := Lib.hid hL
      have htext := hrow.out.text
      clear hI hL
      by_cases hn0 : n = 0
      · subst hn0
        have hl : l = [] := by rw [HL.out]; exact dgA_zero []
        subst hl
        rcases (hrow.out).form with ⟨rfl, _⟩ | ⟨g, cap, rfl, _, _, _⟩
        all_goals
          clear hrow htext
          go_wp2_with fail
          go_ret
          exact ⟨by rw [itoa_zero]; rfl, hB⟩
      · have hlp : 0 < l.length := by rw [HL.out]; exact dgA_pos (by omega)
        rcases (hrow.out).form with ⟨rfl, hl0⟩ | ⟨g, cap, rfl, _, _, _⟩
        · rw [hl0] at hlp; simp at hlp
        · by_cases hneg : n < 0
          · have hx : Hid (Lib.itoa n = 45 :: l) := by show _ = _; rw [itoa_neg' hneg, ← HL.out]
            have hap := sb_apd [45] l
            have hs1 := sb_size l
            have hlI : (0 : Int) < l.length := by omega
            have hlI2 : ((l.length : Int) == 0) = false := by rw [beq_eq_false_iff_ne]; omega
            go_wp2_with fail
            go_ret
            exact ⟨by rw [hx.out]; rfl, hB⟩
          · have hx : Hid (Lib.itoa n = l) := by show _ = _; rw [itoa_pos' (by omega), ← HL.out]
            have hlI : (0 : Int) < l.length := by omega
            have hlI2 : ((l.length : Int) == 0) = false := by rw [beq_eq_false_iff_ne]; omega
            go_wp2_with fail
            go_ret
            exact ⟨by rw [hx.out]; rfl, hB⟩
    · rcases Int.lt_or_gt_of_ne hzz with hlt | hgt
      · obtain ⟨m, rfl⟩ : ∃ m : Nat, z = -(m : Int) := ⟨z.natAbs, by omega⟩
        have hm : 0 < m := by omega
        obtain ⟨r, hr⟩ : ∃ r, m % 10 = r := ⟨_, rfl⟩
        obtain ⟨q, hq⟩ : ∃ q, m / 10 = q := ⟨_, rfl⟩
        have hr10 : r < 10 := by omega
        have hqm : q < m := by omega
        have e1 := tm_neg m
        have e2 := td_neg m
        rw [hr] at e1
        rw [hq] at e2
        have HI := Lib.hid (hI.out.step (m := m) (by omega) hm (z' := -(q : Int)) (by omega))
        have hcv := conv_dig r hr10
        have hdd : UInt8.ofNat (48 + m % 10) = UInt8.ofNat (48 + r) := by rw [hr]
        rw [hdd] at HI
        generalize UInt8.ofNat (48 + r) = d at HI hcv
        have hne : ((-(m : Int)) != 0) = true := by simp; omega
        clear hdd hr hq hI
        by_cases hr0 : r = 0
        · subst hr0
          simp only [Int.natCast_zero, Int.neg_zero, Int.add_zero] at e1 hcv
          go_wp2_with (at_builtin; refine appPre rfl (.tmp 21) (.tmp 22) _ rfl 5 _ 1 Tryd.underlying46 info_uint8 rfl wr d w.heap.size _ l rfl rfl hrow.out (by omega) (by omega) ?_; intro v' w2 hown2 hb2; have HO2 := Lib.hid hown2; clear hown2)
          go_roundw
          case rel => first | exact ⟨-(q : Int), d :: l, by go_num, by omega, by omega, hB.trans (hb2.mono hz), HI, own_bsd HO2.out hz⟩ | ((repeat apply Exists.intro); exact ⟨⟨-(q : Int), d :: l, by go_num, by omega, by omega, hB.trans (hb2.mono hz), HI, own_bsd HO2.out hz⟩, rfl⟩)
          case measure => simp [intOf]; omega
        · have hrI : (0 : Int) < (r : Int) := by omega
          have hrI2 : -(r : Int) < 0 := by omega
          go_wp2_with (at_builtin; refine appPre rfl (.tmp 21) (.tmp 22) _ rfl 5 _ 1 Tryd.underlying46 info_uint8 rfl wr d w.heap.size _ l rfl rfl hrow.out (by omega) (by omega) ?_; intro v' w2 hown2 hb2; have HO2 := Lib.hid hown2; clear hown2)
          go_roundw
          case rel => first | exact ⟨-(q : Int), d :: l, by go_num, by omega, by omega, hB.trans (hb2.mono hz), HI, own_bsd HO2.out hz⟩ | ((repeat apply Exists.intro); exact ⟨⟨-(q : Int), d :: l, by go_num, by omega, by omega, hB.trans (hb2.mono hz), HI, own_bsd HO2.out hz⟩, rfl⟩)
          case measure => simp [intOf]; omega
      · obtain ⟨m, rfl⟩ : ∃ m : Nat, z = (m : Int) := ⟨z.natAbs, by omega⟩
        have hm : 0 < m := by omega
        obtain ⟨r, hr⟩ : ∃ r, m % 10 = r := ⟨_, rfl⟩
        obtain ⟨q, hq⟩ : ∃ q, m / 10 = q := ⟨_, rfl⟩
        have hr10 : r < 10 := by omega
        have hqm : q < m := by omega
        have e1 := tm_pos m
        have e2 := td_pos m
        rw [hr] at e1
        rw [hq] at e2
        have e3 : (m : Int) % 10 = (r : Int) := by omega
        have e4 : (m : Int) / 10 = (q : Int) := by omega
        have HI := Lib.hid (hI.out.step (m := m) (by omega) hm (z' := (q : Int)) (by omega))
        have hcv := conv_dig r hr10
        have hdd : UInt8.ofNat (48 + m % 10) = UInt8.ofNat (48 + r) := by rw [hr]
        rw [hdd] at HI
        generalize UInt8.ofNat (48 + r) = d at HI hcv
        have hne : (((m : Int)) != 0) = true := by simp; omega
        have hr0 : (0 : Int) ≤ (r : Int) := by omega
        clear hdd hr hq hI
        go_wp2_with (at_builtin; refine appPre rfl (.tmp 21) (.tmp 22) _ rfl 5 _ 1 Tryd.underlying46 info_uint8 rfl wr d w.heap.size _ l rfl rfl hrow.out (by omega) (by omega) ?_; intro v' w2 hown2 hb2; have HO2 := Lib.hid hown2; clear hown2)
        go_roundw
        case rel => first | exact ⟨(q : Int), d :: l, by go_num, by omega, by omega, hB.trans (hb2.mono hz), HI, own_bsd HO2.out hz⟩ | ((repeat apply Exists.intro); exact ⟨⟨(q : Int), d :: l, by go_num, by omega, by omega, hB.trans (hb2.mono hz), HI, own_bsd HO2.out hz⟩, rfl⟩)
        case measure => simp [intOf]; omega
theorem c_Decimal (n : Int) (h0 : -9223372036854775808 ≤ n) (h1 : n ≤ 9223372036854775807) (w : World) (ht : Tab w) :
    Calls Tryd.prog 16 #[.int .i64 n] w fun e w' => e = .returned (.string (sb (Lib.itoa n))) ∧ Below w.heap.size w w' := by
  have HT := Lib.hid ht
  clear ht
  go_enter Tryd.func16, Tryd.ntmps16
  go_wp2_with (go_at_call 29; refine (c_FormatInt n h0 h1 w HT.out).mono ?_; rintro r_ w1 ⟨rfl, hb1⟩)
  go_ret
  exact ⟨rfl, hb1⟩
end Go.Proofs.YtajcdaclbammaaaDoor
