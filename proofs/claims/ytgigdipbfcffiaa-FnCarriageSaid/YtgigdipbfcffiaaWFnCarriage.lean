/- The walk of the law FnCarriage: it returns true, and what was there stays as it was. -/
import Derived.Test.YtgigdipbfcffiaaCa3
import Derived.Test.YtgigdipbfcffiaaAp
namespace Go.Proofs.Ytgigdipbfcffiaa.fnCarriage
open Go.RowKit Go.BigFrame
attribute [local go_sem] sub_cell sub_frozen drewN_setCell

theorem rs_stp {L : List Int} (h : RS 21 L) (hl : L.length ≤ 3) : StpL L := ⟨by omega, fun x hx => by have := h.1 x hx; omega, h.2⟩
theorem rs_last {L : List Int} (h : RS 21 L) (hl : L.length ≤ 3) {z : Int} (hz : RS z L) (z0 : 0 ≤ z) (z1 : z ≤ 21) : StpL (L ++ [z + 5]) := by
  have h2 := hz.snoc z0 (show z < z + 5 by omega)
  exact ⟨by simp; omega, fun x hx => by have := h2.1 x hx; omega, h2.2⟩
/-- Stops that rise are at most the last of them. -/
theorem rs_top {L : List Int} {n : Nat} {y : Int} (h : RS 21 L) (hy : L[n]? = some y) (hn : L.length = n + 1) : RS y L := by
  refine ⟨fun x hx => ?_, h.2⟩
  have hx1 := h.1 x hx
  obtain ⟨i, hi⟩ := List.getElem?_of_mem hx
  have hil := (List.getElem?_eq_some_iff.1 hi).1
  have key : ∀ d i x, L[i]? = some x → i + d = n → x ≤ y := by
    intro d
    induction d with
    | zero => intro i x hi e; obtain rfl : i = n := by omega
              rw [hi] at hy; simp only [Option.some.injEq] at hy; omega
    | succ d ih =>
      intro i x hi e
      have hl : i + 1 < L.length := by omega
      have h1 := h.2 i x _ hi (List.getElem?_eq_getElem hl)
      have h2 := ih (i + 1) _ (List.getElem?_eq_getElem hl) (by omega)
      omega
  have := key (n - i) i x hi (by omega)
  omega
theorem rs_nil {L : List Int} (h : L.length = 0) : RS 0 L := by
  obtain rfl := List.eq_nil_of_length_eq_zero h
  exact ⟨by simp, by simp⟩
theorem isD_le {st : List Int} {t : Int} {D E : Int → Int} (h : IsD st t D) (h2 : IsD st t E) (ho : StopsOk st) {c : Int} (c0 : 0 ≤ c) (c1 : c ≤ 30) : E c ≤ D c := by
  have hp := h.pos c c0 c1
  have := h.follow ho h2.least (D c).toNat c c0 c1 (by omega)
  have := h2.here
  omega
theorem goL_split {st : List Int} {l : List UInt8} {c y : Int} (h : goL st l c = some y) (k : Nat) : ∃ x, goL st (l.take k) c = some x ∧ goL st (l.drop k) x = some y := by
  induction l generalizing c k with
  | nil => exact ⟨c, by simp [goL], by simpa using h⟩
  | cons a l ih =>
    cases k with
    | zero => exact ⟨c, by simp [goL], by simpa using h⟩
    | succ k =>
      rw [goL] at h
      cases hm : mvC st c (jOf a) with
      | none => rw [hm] at h; cases h
      | some z =>
        rw [hm] at h
        obtain ⟨x, h1, h2⟩ := ih h k
        refine ⟨x, ?_, by simpa using h2⟩
        rw [List.take_succ_cons, goL, hm]
        exact h1
/-- The k-th move of a way. -/
theorem goL_step {st : List Int} {l : List UInt8} {c y x : Int} {k : Nat} {b : UInt8} (h : goL st l c = some y) (hx : goL st (l.take k) c = some x) (hb : l[k]? = some b) : ∃ z, mvC st x (jOf b) = some z ∧ goL st (l.take (k + 1)) c = some z := by
  obtain ⟨x', h1, h2⟩ := goL_split h k
  rw [hx] at h1
  simp only [Option.some.injEq] at h1
  subst h1
  obtain ⟨hk, hv⟩ := List.getElem?_eq_some_iff.1 hb
  rw [List.drop_eq_getElem_cons hk, hv, goL] at h2
  cases hm : mvC st x (jOf b) with
  | none => rw [hm] at h2; cases h2
  | some z =>
    refine ⟨z, rfl, ?_⟩
    rw [List.take_add_one, hb]
    exact goL_snoc hx hm
theorem jOf_cases {b : UInt8} (h : jOf b < 3) : b = 35 ∨ b = 60 ∨ b = 62 := by
  unfold jOf at h
  split at h
  · left; assumption
  · split at h
    · right; left; assumption
    · split at h
      · right; right; assumption
      · omega
theorem mv_lt3 {st : List Int} {c x : Int} {j : Nat} (h : mvC st c j = some x) : j < 3 := by
  match j, h with
  | 0, _ => omega
  | 1, _ => omega
  | 2, _ => omega
  | _ + 3, h => simp [mvC] at h
theorem nxt_drop {st : List Int} {k : Nat} {s c : Int} (hk : st[k]? = some s) : (nxtS (st.drop k) c).getD (-1) = if c < s then s else (nxtS (st.drop (k + 1)) c).getD (-1) := by
  obtain ⟨h1, h2⟩ := List.getElem?_eq_some_iff.1 hk
  rw [List.drop_eq_getElem_cons h1, h2, nxtS]
  split <;> rfl

set_option maxRecDepth 100000 in
set_option maxHeartbeats 16000000 in
theorem walk (A0 : Option Addr) (n0 c0 : Nat) (A1 : Option Addr) (n1 c1 : Nat) (w : World) (w0 : InB w A0 n0) (w1 : InB w A1 n1) :
    Calls Try.prog 3 #[.slice A0 n0 c0, .slice A1 n1 c1] w fun e w' => e = .returned (.bool true) ∧ Below w.heap.size w w' := by
  obtain ⟨hb0, hn0⟩ := w0
  obtain ⟨hb1, hn1⟩ := w1
  have HA0 := Lib.hid hb0
  have HA1 := Lib.hid hb1
  clear hb0 hb1
  by_cases hl : (decide (3000 < n0) || decide (3000 < n1)) = true
  · have HL := Lib.hid hl
    clear hl
    go_enter Try.func3, Try.ntmps3
    go_wp2_with (go_at_call 6; refine (c_a2Long _ _ _ _ _ _ true _ HL.out).mono ?_; rintro r_ w1 ⟨rfl, rfl⟩)
    go_returns
    exact ⟨rfl, by (repeat' (first | (with_reducible exact Below.refl _ _) | (with_reducible assumption) | (with_reducible refine below_drewN ?_ _) | (with_reducible refine Below.drew ?_) | (with_reducible refine Below.alloc ?_ ?_ _) | (with_reducible refine Below.setCell ?_ ?_ _) | go_size))⟩
  · have hl2 : (decide (3000 < n0) || decide (3000 < n1)) = false := by simpa using hl
    have HL := Lib.hid hl2
    have e0 : n0 ≤ 3000 := by simp at hl; omega
    have e1 : n1 ≤ 3000 := by simp at hl; omega
    clear hl hl2
    go_enter Try.func3, Try.ntmps3
    go_wp2_with (go_at_call 6; refine (c_a2Long _ _ _ _ _ _ false _ HL.out).mono ?_; rintro r_ w1 ⟨rfl, rfl⟩)
    refine (c_A2Stops A0 n0 c0 _ HA0.out (by omega)).mono ?_
    rintro r_ w1 ⟨st, A, c, rfl, hZ, hl3, hR, hb1⟩
    have hz1 := hb1.size
    have HST := Lib.hid (rs_stp hR hl3)
    have HR := Lib.hid hR
    have HB1 := Lib.hid hb1
    obtain ⟨n, hn⟩ : ∃ n, st.length = n := ⟨_, rfl⟩
    rw [hn] at hZ hl3 ⊢
    have HN := Lib.hid hn
    have HZ1 := Lib.hid hZ
    clear hZ hR hn hb1
    go_wp2_with fail
    refine (c_a2At A1 n1 c1 0 31 w1 (HA1.out.later HB1.out) (by omega) (by omega) (by omega) (by omega)).mono ?_
    rintro r_ w9 ⟨x, rfl, x0, x1, rfl⟩
    go_wp2_with fail
    refine (c_a2At A1 n1 c1 1 31 w1 (HA1.out.later HB1.out) (by omega) (by omega) (by omega) (by omega)).mono ?_
    rintro r_ w9 ⟨y, rfl, y0, y1, rfl⟩
    go_wp2_with fail
    refine (c_a2At A1 n1 c1 2 31 w1 (HA1.out.later HB1.out) (by omega) (by omega) (by omega) (by omega)).mono ?_
    rintro r_ w9 ⟨z, rfl, z0, z1, rfl⟩
    obtain ⟨f, rfl⟩ : ∃ f : Nat, x = f := ⟨x.toNat, by omega⟩
    obtain ⟨t, rfl⟩ : ∃ t : Nat, y = t := ⟨y.toNat, by omega⟩
    obtain ⟨o, rfl⟩ : ∃ o : Nat, z = o := ⟨z.toNat, by omega⟩
    have hf : f ≤ 30 := by omega
    have ht : t ≤ 30 := by omega
    have ho : o ≤ 30 := by omega
    clear x0 x1 y0 y1 z0 z1
    go_wp2_with fail
    refine (c_MovesBetween A n c st f t HST.out hf ht w1 HZ1.out).mono ?_
    rintro r_ w2 ⟨D1, rfl, hD1, hb2⟩
    have HB2 := Lib.hid (HB1.out.trans (hb2.mono hz1))
    have HZ2 := Lib.hid (HZ1.out.later hb2)
    have HD1 := Lib.hid hD1
    clear hb2
    go_wp2_with fail
    refine (c_MovesBetween A n c st f o HST.out hf ho w2 HZ2.out).mono ?_
    rintro r_ w3 ⟨D2, rfl, hD2, hb3⟩
    have HB3 := Lib.hid (HB2.out.trans (hb3.mono HB2.out.size))
    have HZ3 := Lib.hid (HZ2.out.later hb3)
    have HD2 := Lib.hid hD2
    clear hb3
    go_wp2_with fail
    refine (c_MovesBetween A n c st o t HST.out ho ht w3 HZ3.out).mono ?_
    rintro r_ w4 ⟨D3, rfl, hD3, hb4⟩
    have HB4 := Lib.hid (HB3.out.trans (hb4.mono HB3.out.size))
    have HZ4 := Lib.hid (HZ3.out.later hb4)
    clear hb4
    go_wp2_with fail
    refine (c_PlanBetween A n c st f t HST.out hf ht w4 HZ4.out).mono ?_
    rintro r_ w5 ⟨l, D4, rfl, hlen, hgo, hD4, hb5⟩
    have HB5 := Lib.hid (HB4.out.trans (hb5.mono HB4.out.size))
    have HZ5 := Lib.hid (HZ4.out.later hb5)
    have HGO := Lib.hid hgo
    have hso := HST.out.2.1
    have q1 := hD2.tri hD1 hso (c := f) (by omega) (by omega)
    have q2 := isD_le hD3 hD1 hso (c := o) (by omega) (by omega)
    have q3 := hD1.pos f (by omega) (by omega)
    have q4 := hD1.near (by omega) (by omega) (c := f) (by omega) (by omega)
    have q5 := isD_le hD1 hD4 hso (c := f) (by omega) (by omega)
    have q6 := isD_le hD4 hD1 hso (c := f) (by omega) (by omega)
    have q7 := hD1.le30 (by omega) (by omega) (c := f) (by omega) (by omega)
    have q8 := hD2.le30 (by omega) (by omega) (c := f) (by omega) (by omega)
    have q9 := hD2.pos f (by omega) (by omega)
    have q10 := hD3.le30 (by omega) (by omega) (c := o) (by omega) (by omega)
    have q11 := hD3.pos o (by omega) (by omega)
    have hlen2 : (l.length : Int) = D1 f := by omega
    have HLEN := Lib.hid hlen2
    have hl30 : l.length ≤ 30 := by omega
    obtain ⟨d1, hd1⟩ : ∃ d, D1 f = d := ⟨_, rfl⟩
    obtain ⟨d2, hd2⟩ : ∃ d, D2 f = d := ⟨_, rfl⟩
    obtain ⟨d3, hd3⟩ : ∃ d, D3 o = d := ⟨_, rfl⟩
    have HDD := Lib.hid hd1
    rw [hd1, hd2, hd3]
    have g1 : decide (d2 + d3 < d1) = false := decide_eq_false (by omega)
    have g2 : decide (d1 < 0) = false := decide_eq_false (by omega)
    have hsz : (if (f : Int) - (t : Int) < 0 then -((f : Int) - (t : Int)) else (f : Int) - (t : Int)) ≥ d1 := by split <;> omega
    have CS := Lib.hid (fun w => c_a2Size ((f : Int) - (t : Int)) w (by omega) (by omega))
    generalize (if (f : Int) - (t : Int) < 0 then -((f : Int) - (t : Int)) else (f : Int) - (t : Int)) = sz at *
    have g3 : decide (sz < d1) = false := decide_eq_false (by omega)
    have hss := sb_size l
    obtain ⟨m, hm⟩ : ∃ m, l.length = m := ⟨_, rfl⟩
    rw [hm] at hss hlen2 hl30
    have g4 : ((m : Int) != d1) = false := by rw [bne, beq_iff_eq.2 (show (m : Int) = d1 by omega)]; rfl
    have HM := Lib.hid hm
    have b1 : 0 ≤ d1 ∧ d1 ≤ 30 := by omega
    have b2 : 0 ≤ d2 ∧ d2 ≤ 30 := by omega
    have b3 : 0 ≤ d3 ∧ d3 ≤ 30 := by omega
    obtain ⟨b10, b11⟩ := b1
    obtain ⟨b20, b21⟩ := b2
    obtain ⟨b30, b31⟩ := b3
    have HSS := Lib.hid hss
    obtain ⟨S, hS⟩ : ∃ S, sb l = S := ⟨_, rfl⟩
    rw [hS] at hss ⊢
    have HBS : bl S = l := by rw [← hS, bl_sb]
    rw [← HBS] at HGO
    have hms : S.size = m := hss
    clear hS hss HBS HSS
    clear hb5 hgo hlen hlen2 q1 q2 q3 q4 q5 q6 q7 q8 q9 q10 q11 hD1 hD2 hD3 hD4 hd1 hd2 hd3 hsz hm hso
    go_wp2_with (go_at_call 11; refine (CS.out _).mono ?_; rintro r_ w' ⟨rfl, rfl⟩)
    go_loopw [17, 18] (fun a i wr => ∃ (k : Nat) (x : Nat), k ≤ m ∧ i = .int .i64 k ∧ a = .int .i64 x ∧ x ≤ 30 ∧ Hid (goL st ((bl S).take k) f = some (x : Int)) ∧ w5 = wr) (fun _ i _ => m - (intOf i).toNat)
    case atStart => exact ⟨0, f, Nat.zero_le _, rfl, rfl, hf, Lib.hid (by simp [goL]), rfl⟩
    case round =>
      obtain ⟨k, x, hk, rfl, rfl, hx, hg, rfl⟩ := hrel
      by_cases hlt : k < m
      · have hltS : k < S.size := by omega
        have hgk := bl_get S k hltS
        obtain ⟨z, hmv, hgz⟩ := goL_step HGO.out hg.out hgk
        have hz := mv_in HST.out.2.1 (by omega) (by omega) hmv
        obtain ⟨z, rfl⟩ : ∃ z' : Nat, z = z' := ⟨z.toNat, by omega⟩
        have hz30 : z ≤ 30 := by omega
        have hb := jOf_cases (mv_lt3 hmv)
        have HGZ := Lib.hid hgz
        have HMV := Lib.hid hmv
        have m1 : decide ((z : Int) < 0) = false := decide_eq_false (by omega)
        have m2 : decide ((30 : Int) < (z : Int)) = false := decide_eq_false (by omega)
        have j1 : (k : Int) < m := by omega
        clear hg hgk hgz hmv hz
        rcases hb with hb | hb | hb
        · have t1 : ((S[k].toNat : Int) == 62) = false := by rw [hb]; rfl
          have t2 : ((S[k].toNat : Int) == 60) = false := by rw [hb]; rfl
          have t3 : ((S[k].toNat : Int) == 35) = true := by rw [hb]; rfl
          have HNX : Hid (nxtS st x = some (z : Int)) := Lib.hid (by have := HMV.out; rw [hb] at this; exact this)
          clear hb HMV
          go_wp2_with fail
          go_loopw [19, 20] (fun v i wr => ∃ (q : Nat) (u : Int), q ≤ n ∧ i = .int .i64 ((q : Int) - 1) ∧ v = .int .i64 u ∧ Hid ((nxtS (st.drop q) x).getD (-1) = u) ∧ w5 = wr) (fun _ i _ => (intOf i + 1).toNat)
          case atStart => exact ⟨n, -1, Nat.le_refl _, by simp, rfl, Lib.hid (by rw [List.drop_eq_nil_of_le (by have := HN.out; omega)]; rfl), rfl⟩
          case round =>
            obtain ⟨q, u, hq, rfl, rfl, hu, rfl⟩ := hrel
            cases q with
            | zero =>
              have huz : u = (z : Int) := by rw [← hu.out, List.drop_zero, HNX.out]; rfl
              subst huz
              go_wp2_with fail
              go_roundw
              case rel => exact ⟨k + 1, z, by omega, by go_num, rfl, hz30, HGZ, by trivial⟩
              case measure => simp [intOf]; omega
            | succ q =>
              obtain ⟨b, oo, s, rfl, hb1, hb2, hs, c0⟩ := z_at HZ5.out (Below.refl _ _) (k := q) (by omega)
              have i5 : ((q + 1 : Nat) : Int) - 1 = (q : Int) := by omega
              have i6 : (q : Int) < n := by omega
              have i7 : (0 : Int) ≤ (q : Int) := by omega
              have hd := nxt_drop (c := (x : Int)) hs
              rw [hu.out] at hd
              obtain ⟨sb0, sb1⟩ := HST.out.2.1 s (List.mem_of_getElem? hs)
              clear hs hu
              rw [i5]
              by_cases hxs : (x : Int) < s
              · rw [if_pos hxs] at hd
                have HD := Lib.hid hd
                have t4 : decide ((x : Int) < s) = true := decide_eq_true hxs
                clear hd
                go_wp2_with fail
                go_roundw
                case rel => exact ⟨q, s, by omega, by go_num, rfl, HD, by trivial⟩
                case measure => first | (simp [intOf]; done) | (simp [intOf]; omega)
              · rw [if_neg hxs] at hd
                have HD := Lib.hid hd
                have t4 : decide ((x : Int) < s) = false := decide_eq_false hxs
                clear hd
                go_wp2_with fail
                go_roundw
                case rel => exact ⟨q, u, by omega, by go_num, rfl, HD, by trivial⟩
                case measure => first | (simp [intOf]; done) | (simp [intOf]; omega)
        · have t1 : ((S[k].toNat : Int) == 62) = false := by rw [hb]; rfl
          have t2 : ((S[k].toNat : Int) == 60) = true := by rw [hb]; rfl
          have hzx : (x : Int) - 1 = (z : Int) := by have := HMV.out; rw [hb] at this; simp only [jOf, mvC] at this; split at this <;> simp_all
          have hwr : IntKind.i64.wrap ((x : Int) - 1) = (z : Int) := by rw [hzx]; exact IntWalk.i64_in _ (by omega)
          clear hb HMV
          go_wp2_with fail
          go_roundw
          case rel => exact ⟨k + 1, z, by omega, by go_num, by first | rfl | (rw [hzx]), hz30, HGZ, by trivial⟩
          case measure => simp [intOf]; omega
        · have t1 : ((S[k].toNat : Int) == 62) = true := by rw [hb]; rfl
          have hzx : (x : Int) + 1 = (z : Int) := by have := HMV.out; rw [hb] at this; simp only [jOf, mvC] at this; split at this <;> simp_all
          clear hb HMV
          go_wp2_with fail
          go_roundw
          case rel => exact ⟨k + 1, z, by omega, by go_num, by first | rfl | (rw [hzx]), hz30, HGZ, by trivial⟩
          case measure => simp [intOf]; omega
      · obtain rfl : k = m := by omega
        have hxt : x = t := by
          have h1 := hg.out
          rw [List.take_of_length_le (by simp; omega)] at h1
          rw [HGO.out] at h1
          simp only [Option.some.injEq] at h1
          omega
        subst hxt
        have hne : ((x : Int) != (x : Int)) = false := by simp
        clear hg
        have key : ∀ (la : Int), 0 ≤ la → la ≤ 21 → RS la st → ∀ W : World, ∀ A' c', Below w.heap.size w W → Zs W A' (n + 1) (st ++ [la + 5]) →
            Calls Try.prog 9 #[.slice A' (n + 1) c', .int .i64 (f : Int), .int .i64 (x : Int)] W fun e w' => ∃ d : Int, d ≤ d1 ∧ e = .returned (.tuple #[.int .i64 d, .int .i64 0]) ∧ Below w.heap.size w w' := by
          intro la l0 l1 hla W A' c' hW hZW
          refine (c_MovesBetween A' (n + 1) c' (st ++ [la + 5]) f x (rs_last (by have := hla; exact ⟨fun u hu => by have := hla.1 u hu; omega, hla.2⟩) (by have := HN.out; omega) hla l0 l1) hf ht W hZW).mono ?_
          rintro e w' ⟨D, rfl, hD, hbb⟩
          refine ⟨D f, ?_, rfl, hW.trans (hbb.mono hW.size)⟩
          have := HD1.out.wider hD HST.out.2.1 (c := f) (by omega) (by omega)
          rw [HDD.out] at this
          exact this
        have KEY := Lib.hid key
        have HZR := Lib.hid (fun oo => ((zs_rd HZ5.out).keep (w' := w5.alloc oo) fun p hp => World.cell?_alloc_lt w5 oo p (by omega)))
        have hbw := HB5.out.size
        have hn3 : n ≤ 3 := hl3
        clear key
        by_cases hn0 : n = 0
        · have HRS := Lib.hid (rs_nil (L := st) (by have := HN.out; omega))
          have t1 : decide ((0 : Int) < (n : Int)) = false := decide_eq_false (by omega)
          have hn0' : ¬ (0 : Int) < (n : Int) := by omega
          clear hn0
          go_wp2_with (first
            | (at_builtin; refine apList rfl (.tmp 162) (.tmp 163) _ rfl w5.heap.size 2 _ 8 Try.underlying24 info_int64 rfl _ _ 0 [] rfl (World.ownsRow_made w5 #[] 0 (Nat.le_refl _) (by simp [maxLen]) rfl) w5.heap.size A n c _ rfl (HZR.out _) ints_one (by omega) (by omega) (by simp) ?_; intro v6 w6 hown6 hb6 _ _; have HW6 := Lib.hid hown6; have HB6 := Lib.hid (HB5.out.trans (((((Below.refl w5.heap.size w5).alloc (Nat.le_refl _) _).trans hb6)).mono hbw)); have hz6 := hb6.size; (try simp only [World.size_alloc] at hz6); clear hown6 hb6)
            | (at_builtin; refine app1 rfl (.tmp 164) (.tmp 167) _ rfl w5.heap.size 2 _ 8 Try.underlying24 info_int64 rfl _ _ rfl _ _ _ rfl HW6.out rfl (by omega) (by omega) (by omega) ?_; intro v7 w7 hown7 hb7 _; obtain ⟨A7, c7, rfl⟩ := own_slice hown7; have HW7 := Lib.hid hown7; have HB7 := Lib.hid (HB6.out.trans (hb7.mono hbw)); clear hown7 hb7))
          have HZ7 : Hid (Zs w7 A7 (n + 1) (st ++ [(0 : Int) + 5])) := Lib.hid (by have h := HW7.out; rw [Nat.zero_add, List.nil_append] at h; exact zs_ownN (by rw [List.map_append]; exact h))
          refine (KEY.out 0 (by omega) (by omega) HRS.out w7 A7 c7 HB7.out HZ7.out).mono ?_
          rintro r_ w8 ⟨d, hd, rfl, hb8⟩
          have t9 : decide (d ≤ d1) = true := decide_eq_true hd
          go_wp2_with fail
          go_returns
          exact ⟨by simp [*], hb8⟩
        · obtain ⟨n', rfl⟩ : ∃ n', n = n' + 1 := ⟨n - 1, by omega⟩
          obtain ⟨b, oo, s, rfl, hb1, hb2, hs, cc0⟩ := z_at HZ5.out (Below.refl _ _) (k := n') (by omega)
          have HRS := Lib.hid (rs_top HR.out hs HN.out)
          obtain ⟨s0, s1⟩ := HR.out.1 s (List.mem_of_getElem? hs)
          have t1 : decide ((0 : Int) < ((n' + 1 : Nat) : Int)) = true := decide_eq_true (by omega)
          have i5 : ((n' + 1 : Nat) : Int) = (n' : Int) + 1 := by omega
          have i6 : (n' : Int) < ((n' + 1 : Nat) : Int) := by omega
          have t2 : decide ((30 : Int) < s + 5) = false := decide_eq_false (by omega)
          clear hs hn0
          go_wp2_with (first
            | (at_builtin; refine apList rfl (.tmp 162) (.tmp 163) _ rfl w5.heap.size 2 _ 8 Try.underlying24 info_int64 rfl _ _ 0 [] rfl (World.ownsRow_made w5 #[] 0 (Nat.le_refl _) (by simp [maxLen]) rfl) w5.heap.size _ (n' + 1) c _ rfl (HZR.out _) ints_one (by omega) (by omega) (by simp) ?_; intro v6 w6 hown6 hb6 _ _; have HW6 := Lib.hid hown6; have HB6 := Lib.hid (HB5.out.trans (((((Below.refl w5.heap.size w5).alloc (Nat.le_refl _) _).trans hb6)).mono hbw)); have hz6 := hb6.size; (try simp only [World.size_alloc] at hz6); clear hown6 hb6)
            | (at_builtin; refine app1 rfl (.tmp 164) (.tmp 167) _ rfl w5.heap.size 2 _ 8 Try.underlying24 info_int64 rfl _ _ rfl _ _ _ rfl HW6.out rfl (by omega) (by omega) (by omega) ?_; intro v7 w7 hown7 hb7 _; obtain ⟨A7, c7, rfl⟩ := own_slice hown7; have HW7 := Lib.hid hown7; have HB7 := Lib.hid (HB6.out.trans (hb7.mono hbw)); clear hown7 hb7))
          have HZ7 : Hid (Zs w7 A7 (n' + 1 + 1) (st ++ [s + 5])) := Lib.hid (by have h := HW7.out; rw [Nat.zero_add, List.nil_append] at h; exact zs_ownN (by rw [List.map_append]; exact h))
          refine (KEY.out s (by omega) (by omega) HRS.out w7 A7 c7 HB7.out HZ7.out).mono ?_
          rintro r_ w8 ⟨d, hd, rfl, hb8⟩
          have t9 : decide (d ≤ d1) = true := decide_eq_true hd
          go_wp2_with fail
          go_returns
          exact ⟨by simp [*], hb8⟩
end Go.Proofs.Ytgigdipbfcffiaa.fnCarriage
